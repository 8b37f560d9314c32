/- Contracts: bounds.fault, bounds.Check, bounds.Valid, bounds.Compare, bounds.Length. -/
import Derived.Test.YtjjdabihnmilgaaGreatXRTGrpAR
namespace Go.Proofs.YtjjdabihnmilgaaGreat.A
open Go.RowKit
set_option linter.unusedVariables false
set_option linter.unusedSimpArgs false
set_option maxRecDepth 100000
set_option maxHeartbeats 4000000
theorem LS.callsc {C : Cx} {s : St} {o : Oper} {l : List Oper} (xb : List Nat) (hw : awant l s o = some true) {fo : Operand} {args : Array Operand} {ats : Array TypeId} (ho : o.op = .call ⟨.value fo, args, ats⟩) (hd : dok C.nt o.dst = true) {f : Nat} (hfo : s.ev fo = some (.imm (.fn f))) {vs vs' : List AV} (hx : evs s args.toList = some vs) (hfz : ∀ s', Loc l s s' o xb → FzL C s' vs vs') {r : AV} (hc : PureC C.P f vs' r) (hs : r.scal = true) : LS C l s o (mkFx l s o (.val r) xb) :=
  LS.quiet xb hw fun s' hl => by
    obtain ⟨m1, m2⟩ := call_mem ho
    exact OpOK.callsc ho hd ((hl.ev fo m1).trans hfo) ((hl.evs m2).trans hx) (hfz s' hl) hc hs
def nodesB (l : List Bnd) : List Int := l.map fun b => b.n
def okB (f : List Node) (b : Bnd) : Prop := 0 ≤ b.o ∧ b.o ≤ lenP f b.n
noncomputable def faultB (f : List Node) (l : List Bnd) (ns : List Int) : Int :=
  if faultR f (nodesB l ++ ns) ≠ 0 then faultR f (nodesB l ++ ns) else if dec (∀ b ∈ l, okB f b) = true then 0 else 14
theorem reads2 (a : List Int) (b : List Int) : a.map cI ++ (b.map i64).map (·.map AV.imm) = ((a ++ b).map i64).map (·.map AV.imm) := by
  simp [cI, iav, i64]
theorem lenP_small {f : List Node} (hf : Fit f) (h : Int) : 0 ≤ lenP f h ∧ lenP f h ≤ 1000000000 := by
  have h1 := (hf.at h).kids
  have h2 := (hf.at h).data
  unfold lenP
  split <;> omega
theorem mem_atI {α : Type} [Inhabited α] {l : List α} {x : α} (h : x ∈ l) : ∃ j : Int, 0 ≤ j ∧ j < l.length ∧ atI l j = x := by
  obtain ⟨j, hj, e⟩ := List.getElem_of_mem h
  refine ⟨j, by omega, by omega, ?_⟩
  unfold atI
  rw [Int.toNat_natCast, List.getD_eq_getElem?_getD, List.getElem?_eq_getElem hj]
  exact e
theorem bfault_c (f : List Node) (l : List Bnd) (ns : List Int) (hf : Fit f) (hl1 : l.length ≤ 1000) (hns : ns.length ≤ 1000) : PureC Tryz.prog 103 [fav f, .imm (.sl (l.map Bnd.iv)), .imm (.sl (ns.map i64))] (iav (faultB f l ns)) := by
  have hl := hf.len
  obtain ⟨ln, hln⟩ : ∃ ln, ln = nodesB l := ⟨_, rfl⟩
  have hlnl : ln.length = l.length := by rw [hln]; exact List.length_map _
  have hlm : (l.map Bnd.iv).length = l.length := List.length_map _
  have c1 := fault_c f (ln ++ ns) hf (by rw [List.length_append]; omega)
  have hat : ∀ i : Int, 0 ≤ i → i < l.length → ln.take (i + 1).toNat = ln.take i.toNat ++ [(atI l i).n] := fun i h0 h1 => by
    rw [take_next h0 (by omega)]
    congr 2
    rw [hln]
    unfold nodesB
    rw [atI_map _ _ _ h0 h1]
  unfold faultB
  rw [← hln]
  generalize hw : faultR f (ln ++ ns) = w at *
  refine PureC.mk tabs Tryz.func103 52 [.tmp 6] rfl rfl rfl rfl rfl ?_; intro w0 X
  (repeat' (first | ((with_reducible show AL _ _ _ _ _); first | (refine AL.step tabs rfl ?_; try dsimp only [len, List.nil_append, List.cons_append]) | refine AL.nil ?_ | (refine AL.gsplitE rfl rfl rfl (fun hc => ?_) (fun hc => ?_) <;> (fail_if_success (exact absurd hc (by decide))) <;> (try simp only [hsx] at hc) <;> (try first | (exfalso; omega) | contradiction | (exfalso; simp [dec_eq] at hc; done))) | (refine AL.op rfl (OpOK.ari64 rfl rfl rfl rfl rfl (by omega) (by omega)) ?_) | (refine AL.op rfl (OpOK.index_map tabs rfl rfl rfl rfl rfl rfl rfl (fun _ => rfl) (by decide) (by omega) (by omega)) ?_)) | ((with_reducible show DQ _ _ _ _ _ _); first | refine DQ.stepc (LS.val tabs rfl rfl rfl) rfl rfl rfl rfl rfl ?_ | refine DQ.stepc (LS.skip rfl rfl) rfl rfl rfl rfl rfl ?_ | refine DQ.nilM (by kernel_rfl) ?_ | refine DQ.stepc (LS.ari64 rfl rfl rfl rfl rfl rfl (by omega) (by omega)) rfl rfl rfl rfl rfl ?_ | refine DQ.stepc (LS.index_map tabs rfl rfl rfl rfl rfl rfl rfl rfl (fun _ => rfl) (by decide) (by omega) (by omega)) rfl rfl rfl rfl rfl ?_ | (refine DQ.gsplitE rfl rfl rfl (fun hc => ?_) (fun hc => ?_) <;> (fail_if_success (exact absurd hc (by decide))) <;> (try simp only [hsx] at hc) <;> (try first | (exfalso; omega) | contradiction | (exfalso; simp [dec_eq] at hc; done)))) | fail | refine AW.seq ?_ | refine AW.region ?_ | refine Then.norm ?_ | refine AW.skip ?_ | refine AW.block ?_ | refine InB.norm ?_ | refine AW.condT rfl ?_ | refine AW.condF rfl ?_ | (refine AW.cond rfl (fun hc => ?_) (fun hc => ?_) <;> (try simp only [hsx] at hc) <;> (try first | (exfalso; omega) | contradiction | (exfalso; simp [dec_eq] at hc; done))) | refine AW.ret ?_ | refine AW.exit ?_ | refine Then.ret ?_ | refine Then.exit ?_ | refine InB.ret ?_ | refine InB.here ?_ | refine InB.off rfl ?_ | refine Rnd.ret ?_ | refine Rnd.exit ?_ | refine AW.drawW mixed (by kernel_rfl) ?_))
  refine AW.loop (α := Int × List Int) (fun y => ⟨[(1, .imm (.sl (l.map Bnd.iv))), (2, .imm (.sl (ns.map i64))), (3, .ptr 0 1 0 0), (7, .os 1 y.2.length), (13, .imm (.sl (l.map Bnd.iv))), (14, iav (l.map Bnd.iv).length), (15, iav y.1)], [⟨24, 1, [[.imm (.sl (f.map Node.iv))]]⟩, ⟨3, 1, y.2.map cI⟩]⟩) (fun y => 0 ≤ y.1 ∧ y.1 ≤ l.length ∧ y.2 = ln.take y.1.toNat) (fun y => (l.length - y.1).toNat) (0, []) (Le.trans (Le.fresh 7 3 1 rfl rfl) (Le.cut 2 rfl (by repeat' (first | exact trivial | refine ⟨rfl, ?_⟩)) rfl (by simp only [List.all_cons, List.all_nil, List.all_map, Function.comp_def, cI, cB, iav, bav, AV.sc1, AV.sc0, Bool.and_true, Bool.and_self, all_tt]; try rfl) (Nat.zero_le _))) ⟨by omega, by simp, rfl⟩ ?_
  rintro ⟨i, q⟩ ⟨h0, h1, h2⟩
  simp only at h0 h1 h2
  have hlt : q.length ≤ 1000 := by rw [h2, List.length_take]; omega
  have hend : l.length ≤ i → PureC Tryz.prog 46 [fav f, .imm (.sl ((q ++ ns).map i64))] (iav w) := fun h => by rw [h2, take_end (by omega)]; exact c1
  (repeat' (first | ((with_reducible show AL _ _ _ _ _); first | (refine AL.step tabs rfl ?_; try dsimp only [len, List.nil_append, List.cons_append]) | refine AL.ope rfl (OpOK.append_m tabs rfl rfl rfl rfl rfl rfl (g := cI) (ys := [(atI l i).n]) rfl rfl rfl rfl (SrcA.own tabs rfl rfl rfl (b := ⟨3, 1, [(atI l i).n].map cI⟩) rfl (by simp) rfl (by simp [cI, ti3]) (by simp [cI, iav, AV.cell])) (by simp [ti3]; omega) (by simp; omega)) rfl ?_ | refine AL.nil ?_ | (refine AL.gsplitE rfl rfl rfl (fun hc => ?_) (fun hc => ?_) <;> (fail_if_success (exact absurd hc (by decide))) <;> (try simp only [hsx] at hc) <;> (try first | (exfalso; omega) | contradiction | (exfalso; simp [dec_eq] at hc; done))) | (refine AL.op rfl (OpOK.ari64 rfl rfl rfl rfl rfl (by omega) (by omega)) ?_) | (refine AL.op rfl (OpOK.index_map tabs rfl rfl rfl rfl rfl rfl rfl (fun _ => rfl) (by decide) (by omega) (by omega)) ?_)) | ((with_reducible show DQ _ _ _ _ _ _); first | refine DQ.stepc (LS.append_imm (rows2 := ns.map i64) tabs rfl rfl rfl rfl rfl rfl rfl rfl (by simp) rfl rfl rfl rfl rfl (by intro r hr; obtain ⟨z, _, rfl⟩ := List.mem_map.1 hr; rfl) (by simp [ti3]; omega) (by simp; omega)) rfl rfl rfl rfl rfl ?_ | refine DQ.stepc (LS.callsc [1] rfl rfl rfl rfl rfl (fun s' hl => .cons (Fz.im rfl) (.cons (Fz.os (b := ⟨3, 1, q.map cI ++ (ns.map i64).map (·.map AV.imm)⟩) (rows := (q ++ ns).map i64) ((hl.xb 1 (by simp)).trans rfl) (by simp) (reads2 _ _)) .nil)) (hend (by omega)) rfl) rfl rfl rfl rfl rfl ?_ | refine DQ.stepc (LS.val tabs rfl rfl rfl) rfl rfl rfl rfl rfl ?_ | refine DQ.stepc (LS.skip rfl rfl) rfl rfl rfl rfl rfl ?_ | refine DQ.nilM (by kernel_rfl) ?_ | refine DQ.stepc (LS.ari64 rfl rfl rfl rfl rfl rfl (by omega) (by omega)) rfl rfl rfl rfl rfl ?_ | refine DQ.stepc (LS.index_map tabs rfl rfl rfl rfl rfl rfl rfl rfl (fun _ => rfl) (by decide) (by omega) (by omega)) rfl rfl rfl rfl rfl ?_ | (refine DQ.gsplitE rfl rfl rfl (fun hc => ?_) (fun hc => ?_) <;> (fail_if_success (exact absurd hc (by decide))) <;> (try simp only [hsx] at hc) <;> (try first | (exfalso; omega) | contradiction | (exfalso; simp [dec_eq] at hc; done)))) | refine AW.seq ?_ | refine AW.region ?_ | refine Then.norm ?_ | refine AW.skip ?_ | refine AW.block ?_ | refine InB.norm ?_ | refine AW.condT rfl ?_ | refine AW.condF rfl ?_ | (refine AW.cond rfl (fun hc => ?_) (fun hc => ?_) <;> (try simp only [hsx] at hc) <;> (try first | (exfalso; omega) | contradiction | (exfalso; simp [dec_eq] at hc; done))) | refine AW.ret ?_ | refine AW.exit ?_ | refine Then.ret ?_ | refine Then.exit ?_ | refine InB.ret ?_ | refine InB.here ?_ | refine InB.off rfl ?_ | refine Rnd.ret ?_ | refine Rnd.exit ?_ | refine AW.drawW mixed (by kernel_rfl) ?_))
  · refine Rnd.norm (i + 1, q ++ [(atI l i).n]) (Le.cut 2 rfl (by repeat' (first | exact trivial | refine ⟨rfl, ?_⟩)) rfl (by simp only [List.all_cons, List.all_nil, List.all_map, Function.comp_def, cI, cB, iav, bav, AV.sc1, AV.sc0, Bool.and_true, Bool.and_self, all_tt]; try rfl) (Nat.zero_le _)) ⟨by simp only; omega, by simp only; omega, ?_⟩ (by simp only; omega)
    simp only
    rw [hat i h0 hc, h2]
  · rw [if_pos hc]
    exact RQ.fin rfl rfl rfl
  · rw [if_neg (by omega)]
    have clen : ∀ i : Int, PureC Tryz.prog 114 [fav f, iav (atI l i).n] (iav (lenP f (atI l i).n)) := fun i => length_c f _ hf
    refine AW.loop (α := Int) (fun i => ⟨[(3, .ptr 0 1 0 0), (33, .imm (.sl (l.map Bnd.iv))), (34, iav (l.map Bnd.iv).length), (35, iav i)], [⟨24, 1, [[.imm (.sl (f.map Node.iv))]]⟩]⟩) (fun i => 0 ≤ i ∧ i ≤ l.length ∧ ∀ j : Int, 0 ≤ j → j < i → okB f (atI l j)) (fun i => (l.length - i).toNat) 0 (Le.cut 1 rfl (by repeat' (first | exact trivial | refine ⟨rfl, ?_⟩)) rfl rfl (Nat.zero_le _)) ⟨by omega, by omega, fun j h1 h2 => by omega⟩ ?_
    rintro k ⟨k0, k1, k2⟩
    have hz := lenP_small hf (atI l k).n
    (repeat' (first | ((with_reducible show AL _ _ _ _ _); first | (refine AL.step tabs rfl ?_; try dsimp only [len, List.nil_append, List.cons_append]) | refine AL.nil ?_ | (refine AL.gsplitE rfl rfl rfl (fun hc => ?_) (fun hc => ?_) <;> (fail_if_success (exact absurd hc (by decide))) <;> (try simp only [hsx] at hc) <;> (try first | (exfalso; omega) | contradiction | (exfalso; simp [dec_eq] at hc; done))) | (refine AL.op rfl (OpOK.ari64 rfl rfl rfl rfl rfl (by omega) (by omega)) ?_) | (refine AL.op rfl (OpOK.index_map tabs rfl rfl rfl rfl rfl rfl rfl (fun _ => rfl) (by decide) (by omega) (by omega)) ?_)) | ((with_reducible show DQ _ _ _ _ _ _); first | refine DQ.stepc (LS.call rfl rfl rfl rfl rfl (clen k) rfl) rfl rfl rfl rfl rfl ?_ | refine DQ.stepc (LS.val tabs rfl rfl rfl) rfl rfl rfl rfl rfl ?_ | refine DQ.stepc (LS.skip rfl rfl) rfl rfl rfl rfl rfl ?_ | refine DQ.nilM (by kernel_rfl) ?_ | refine DQ.stepc (LS.ari64 rfl rfl rfl rfl rfl rfl (by omega) (by omega)) rfl rfl rfl rfl rfl ?_ | refine DQ.stepc (LS.index_map tabs rfl rfl rfl rfl rfl rfl rfl rfl (fun _ => rfl) (by decide) (by omega) (by omega)) rfl rfl rfl rfl rfl ?_ | (refine DQ.gsplitE rfl rfl rfl (fun hc => ?_) (fun hc => ?_) <;> (fail_if_success (exact absurd hc (by decide))) <;> (try simp only [hsx] at hc) <;> (try first | (exfalso; omega) | contradiction | (exfalso; simp [dec_eq] at hc; done)))) | refine AW.seq ?_ | refine AW.region ?_ | refine Then.norm ?_ | refine AW.skip ?_ | refine AW.block ?_ | refine InB.norm ?_ | refine AW.condT rfl ?_ | refine AW.condF rfl ?_ | (refine AW.cond rfl (fun hc => ?_) (fun hc => ?_) <;> (try simp only [hsx] at hc) <;> (try first | (exfalso; omega) | contradiction | (exfalso; simp [dec_eq] at hc; done))) | refine AW.ret ?_ | refine AW.exit ?_ | refine Then.ret ?_ | refine Then.exit ?_ | refine InB.ret ?_ | refine InB.here ?_ | refine InB.off rfl ?_ | refine Rnd.ret ?_ | refine Rnd.exit ?_ | refine AW.drawW mixed (by kernel_rfl) ?_))
    · rw [if_neg (by rw [dec_true]; intro h; have := h _ (atI_mem k0 (by assumption)); unfold okB at this; omega)]
      exact RQ.fin rfl rfl rfl
    · rw [if_neg (by rw [dec_true]; intro h; have := h _ (atI_mem k0 (by assumption)); unfold okB at this; omega)]
      exact RQ.fin rfl rfl rfl
    · refine Rnd.norm (k + 1) (Le.cut 1 rfl (by repeat' (first | exact trivial | refine ⟨rfl, ?_⟩)) rfl rfl (Nat.zero_le _)) ⟨by omega, by omega, fun j j0 j1 => ?_⟩ (by omega)
      by_cases e : j = k
      · subst e; exact ⟨by assumption, by assumption⟩
      · exact k2 j j0 (by omega)
    · rw [if_pos (by rw [dec_true]; intro b hb; obtain ⟨j, j0, j1, rfl⟩ := mem_atI hb; exact k2 j j0 (by omega))]
      exact RQ.fin rfl rfl rfl
theorem faultR_zero {f : List Node} {l : List Int} (h : faultR f l = 0) : rightP f ∧ ∀ x ∈ l, inR f x := by
  unfold faultR at h
  split at h
  · rename_i h1
    rw [dec_true] at h1
    split at h
    · rename_i h2
      rw [List.all_eq_true] at h2
      exact ⟨h1, fun x hx => inB_R.1 (h2 x hx)⟩
    · cases h
  · cases h
theorem faultB_zero {f : List Node} {l : List Bnd} {ns : List Int} (h : faultB f l ns = 0) : rightP f ∧ (∀ b ∈ l, ptOK f b) ∧ ∀ x ∈ ns, inR f x := by
  unfold faultB at h
  split at h
  · rename_i h1; exact absurd h h1
  · rename_i h1
    obtain ⟨h2, h3⟩ := faultR_zero (Classical.not_not.1 h1)
    split at h
    · rename_i h4
      rw [dec_true] at h4
      refine ⟨h2, fun b hb => ⟨h3 _ (List.mem_append_left _ (List.mem_map.2 ⟨b, hb, rfl⟩)), (h4 b hb).1, (h4 b hb).2⟩, fun x hx => h3 _ (List.mem_append_right _ hx)⟩
    · cases h
theorem bcheck_c (f : List Node) (b : Bnd) (hf : Fit f) : PureC Tryz.prog 93 [fav f, b.av] (iav (faultB f [b] [])) := by
  have c1 := bfault_c f [b] [] hf (by simp) (by simp)
  generalize faultB f [b] [] = w at *
  refine PureC.mk tabs Tryz.func93 9 [.tmp 4] rfl rfl rfl rfl rfl ?_; intro w0 X
  (repeat' (first | ((with_reducible show AL _ _ _ _ _); first | (refine AL.step tabs rfl ?_; try dsimp only [len, List.nil_append, List.cons_append]) | refine AL.op rfl (OpOK.callfz rfl rfl rfl rfl c1 rfl rfl) ?_ | refine AL.nil ?_) | refine AW.seq ?_ | refine AW.region ?_ | refine Then.norm ?_ | refine AW.skip ?_ | refine AW.ret ?_ | refine Then.ret ?_))
  all_goals first
    | exact RQ.fin rfl rfl rfl
    | (trace_state; sorry)
noncomputable def validR (f : List Node) (r : Rng) : Bool := if faultB f [r.s, r.e] [] ≠ 0 then false else dec (validP f r)
theorem bvalid_c (f : List Node) (r : Rng) (hf : Fit f) : PureC Tryz.prog 70 [fav f, r.av] (.tup [bav (validR f r), iav (faultB f [r.s, r.e] [])]) := by
  have c1 := bfault_c f [r.s, r.e] [] hf (by simp) (by simp)
  unfold validR
  by_cases h : faultB f [r.s, r.e] [] = 0
  · obtain ⟨hr, hp, _⟩ := faultB_zero h
    have c2 := valid_c f r hf hr (hp r.s (by simp)).1 (hp r.e (by simp)).1
    rw [if_neg (by omega)]
    rw [h] at c1 ⊢
    generalize dec (validP f r) = v at *
    refine PureC.mk tabs Tryz.func70 20 [.tmp 4, .tmp 5] rfl rfl rfl rfl rfl ?_; intro w0 X
    (repeat' (first | ((with_reducible show AL _ _ _ _ _); first | (refine AL.step tabs rfl ?_; try dsimp only [len, List.nil_append, List.cons_append]) | refine AL.op rfl (OpOK.callfz rfl rfl rfl rfl c1 rfl rfl) ?_ | refine AL.op rfl (OpOK.call rfl rfl rfl rfl c2 rfl) ?_ | refine AL.nil ?_) | (exfalso; omega) | refine AW.seq ?_ | refine AW.region ?_ | refine Then.norm ?_ | refine AW.skip ?_ | refine AW.condT rfl ?_ | refine AW.condF rfl ?_ | (refine AW.cond rfl (fun hc => ?_) (fun hc => ?_) <;> (try simp only [hsx] at hc) <;> (try first | (exfalso; omega) | contradiction | (exfalso; simp [dec_eq] at hc; done))) | refine AW.ret ?_ | refine Then.ret ?_))
    all_goals first
      | exact RQ.fin rfl rfl rfl
      | (trace_state; sorry)
  · rw [if_pos h]
    generalize faultB f [r.s, r.e] [] = w at *
    refine PureC.mk tabs Tryz.func70 20 [.tmp 4, .tmp 5] rfl rfl rfl rfl rfl ?_; intro w0 X
    (repeat' (first | ((with_reducible show AL _ _ _ _ _); first | (refine AL.step tabs rfl ?_; try dsimp only [len, List.nil_append, List.cons_append]) | refine AL.op rfl (OpOK.callfz rfl rfl rfl rfl c1 rfl rfl) ?_ | refine AL.nil ?_) | (exfalso; omega) | refine AW.seq ?_ | refine AW.region ?_ | refine Then.norm ?_ | refine AW.skip ?_ | refine AW.condT rfl ?_ | refine AW.condF rfl ?_ | (refine AW.cond rfl (fun hc => ?_) (fun hc => ?_) <;> (try simp only [hsx] at hc) <;> (try first | (exfalso; omega) | contradiction | (exfalso; simp [dec_eq] at hc; done))) | refine AW.ret ?_ | refine Then.ret ?_))
    all_goals first
      | exact RQ.fin rfl rfl rfl
      | (trace_state; sorry)
noncomputable def cmpR (f : List Node) (a b : Bnd) : Int × Int := if faultB f [a, b] [] ≠ 0 then (0, faultB f [a, b] []) else if dec (rootP f a.n = rootP f b.n) = true then (posP f a b, 0) else (0, 18)
theorem bcompare_c (f : List Node) (a b : Bnd) (hf : Fit f) : PureC Tryz.prog 51 [fav f, a.av, b.av] (.tup [iav (cmpR f a b).1, iav (cmpR f a b).2]) := by
  have c1 := bfault_c f [a, b] [] hf (by simp) (by simp)
  unfold cmpR
  by_cases h : faultB f [a, b] [] = 0
  · obtain ⟨hr, hp, _⟩ := faultB_zero h
    have c2 := one_c f a.n b.n hf hr
    rw [if_neg (by omega)]
    rw [h] at c1
    by_cases ho : rootP f a.n = rootP f b.n
    · have c3 := pos_c f a b hf hr (hp a (by simp)).1 (hp b (by simp)).1 ho
      have e : dec (rootP f a.n = rootP f b.n) = true := by rw [dec_true]; exact ho
      rw [if_pos e]
      rw [e] at c2
      clear e ho h hp
      generalize posP f a b = v at *
      refine PureC.mk tabs Tryz.func51 28 [.tmp 6, .tmp 7] rfl rfl rfl rfl rfl ?_; intro w0 X
      (repeat' (first | ((with_reducible show AL _ _ _ _ _); first | (refine AL.step tabs rfl ?_; try dsimp only [len, List.nil_append, List.cons_append]) | refine AL.op rfl (OpOK.callfz rfl rfl rfl rfl c1 rfl rfl) ?_ | refine AL.op rfl (OpOK.call rfl rfl rfl rfl c2 rfl) ?_ | refine AL.op rfl (OpOK.call rfl rfl rfl rfl c3 rfl) ?_ | refine AL.nil ?_) | (exfalso; omega) | refine AW.seq ?_ | refine AW.region ?_ | refine Then.norm ?_ | refine AW.skip ?_ | refine AW.condT rfl ?_ | refine AW.condF rfl ?_ | (refine AW.cond rfl (fun hc => ?_) (fun hc => ?_) <;> (try simp only [hsx] at hc) <;> (try first | (exfalso; omega) | contradiction | (exfalso; simp [dec_eq] at hc; done))) | refine AW.ret ?_ | refine Then.ret ?_))
      all_goals first
        | exact RQ.fin rfl rfl rfl
        | (trace_state; sorry)
    · have e : dec (rootP f a.n = rootP f b.n) = false := by rw [dec_false]; exact ho
      rw [e, if_neg (by simp)]
      rw [e] at c2
      clear e ho h hp
      refine PureC.mk tabs Tryz.func51 28 [.tmp 6, .tmp 7] rfl rfl rfl rfl rfl ?_; intro w0 X
      (repeat' (first | ((with_reducible show AL _ _ _ _ _); first | (refine AL.step tabs rfl ?_; try dsimp only [len, List.nil_append, List.cons_append]) | refine AL.op rfl (OpOK.callfz rfl rfl rfl rfl c1 rfl rfl) ?_ | refine AL.op rfl (OpOK.call rfl rfl rfl rfl c2 rfl) ?_ | refine AL.nil ?_) | (exfalso; omega) | refine AW.seq ?_ | refine AW.region ?_ | refine Then.norm ?_ | refine AW.skip ?_ | refine AW.condT rfl ?_ | refine AW.condF rfl ?_ | (refine AW.cond rfl (fun hc => ?_) (fun hc => ?_) <;> (try simp only [hsx] at hc) <;> (try first | (exfalso; omega) | contradiction | (exfalso; simp [dec_eq] at hc; done))) | refine AW.ret ?_ | refine Then.ret ?_))
      all_goals first
        | exact RQ.fin rfl rfl rfl
        | (trace_state; sorry)
  · rw [if_pos h]
    generalize faultB f [a, b] [] = w at *
    refine PureC.mk tabs Tryz.func51 28 [.tmp 6, .tmp 7] rfl rfl rfl rfl rfl ?_; intro w0 X
    (repeat' (first | ((with_reducible show AL _ _ _ _ _); first | (refine AL.step tabs rfl ?_; try dsimp only [len, List.nil_append, List.cons_append]) | refine AL.op rfl (OpOK.callfz rfl rfl rfl rfl c1 rfl rfl) ?_ | refine AL.nil ?_) | (exfalso; omega) | refine AW.seq ?_ | refine AW.region ?_ | refine Then.norm ?_ | refine AW.skip ?_ | refine AW.condT rfl ?_ | refine AW.condF rfl ?_ | (refine AW.cond rfl (fun hc => ?_) (fun hc => ?_) <;> (try simp only [hsx] at hc) <;> (try first | (exfalso; omega) | contradiction | (exfalso; simp [dec_eq] at hc; done))) | refine AW.ret ?_ | refine Then.ret ?_))
    all_goals first
      | exact RQ.fin rfl rfl rfl
      | (trace_state; sorry)
theorem blength_c (f : List Node) (h : Int) (hf : Fit f) : PureC Tryz.prog 68 [fav f, iav h] (.tup [iav (if faultR f [h] ≠ 0 then 0 else lenP f h), iav (faultR f [h])]) := by
  have c1 := fault_c f [h] hf (by simp)
  have c2 := length_c f h hf
  by_cases hz : faultR f [h] = 0
  · rw [if_neg (by omega)]
    rw [hz] at c1 ⊢
    generalize lenP f h = v at *
    refine PureC.mk tabs Tryz.func68 17 [.tmp 4, .tmp 5] rfl rfl rfl rfl rfl ?_; intro w0 X
    (repeat' (first | ((with_reducible show AL _ _ _ _ _); first | (refine AL.step tabs rfl ?_; try dsimp only [len, List.nil_append, List.cons_append]) | refine AL.op rfl (OpOK.callfz rfl rfl rfl rfl c1 rfl rfl) ?_ | refine AL.op rfl (OpOK.call rfl rfl rfl rfl c2 rfl) ?_ | refine AL.nil ?_) | (exfalso; omega) | refine AW.seq ?_ | refine AW.region ?_ | refine Then.norm ?_ | refine AW.skip ?_ | refine AW.condT rfl ?_ | refine AW.condF rfl ?_ | (refine AW.cond rfl (fun hc => ?_) (fun hc => ?_) <;> (try simp only [hsx] at hc) <;> (try first | (exfalso; omega) | contradiction | (exfalso; simp [dec_eq] at hc; done))) | refine AW.ret ?_ | refine Then.ret ?_))
    all_goals first
      | exact RQ.fin rfl rfl rfl
      | (trace_state; sorry)
  · rw [if_pos hz]
    generalize faultR f [h] = w at *
    refine PureC.mk tabs Tryz.func68 17 [.tmp 4, .tmp 5] rfl rfl rfl rfl rfl ?_; intro w0 X
    (repeat' (first | ((with_reducible show AL _ _ _ _ _); first | (refine AL.step tabs rfl ?_; try dsimp only [len, List.nil_append, List.cons_append]) | refine AL.op rfl (OpOK.callfz rfl rfl rfl rfl c1 rfl rfl) ?_ | refine AL.nil ?_) | (exfalso; omega) | refine AW.seq ?_ | refine AW.region ?_ | refine Then.norm ?_ | refine AW.skip ?_ | refine AW.condT rfl ?_ | refine AW.condF rfl ?_ | (refine AW.cond rfl (fun hc => ?_) (fun hc => ?_) <;> (try simp only [hsx] at hc) <;> (try first | (exfalso; omega) | contradiction | (exfalso; simp [dec_eq] at hc; done))) | refine AW.ret ?_ | refine Then.ret ?_))
    all_goals first
      | exact RQ.fin rfl rfl rfl
      | (trace_state; sorry)
end Go.Proofs.YtjjdabihnmilgaaGreat.A
namespace Go.Proofs.YtjjdabihnmilgaaGreat.A
open Go.RowKit
set_option linter.unusedVariables false
set_option linter.unusedSimpArgs false
set_option maxRecDepth 100000
set_option maxHeartbeats 4000000
def nodesR : List Rng → List Int
  | [] => []
  | r :: l => r.s.n :: r.e.n :: nodesR l
theorem nodesR_app : ∀ a b : List Rng, nodesR (a ++ b) = nodesR a ++ nodesR b
  | [], _ => rfl
  | r :: a, b => by simp only [List.cons_append, nodesR, nodesR_app a b]
theorem nodesR_len : ∀ a : List Rng, (nodesR a).length = 2 * a.length
  | [] => rfl
  | r :: a => by simp only [nodesR, List.length_cons, nodesR_len a]; omega
theorem nodesR_mem {l : List Rng} {r : Rng} (h : r ∈ l) : r.s.n ∈ nodesR l ∧ r.e.n ∈ nodesR l := by
  induction l with
  | nil => cases h
  | cons x l ih =>
    simp only [nodesR, List.mem_cons]
    rcases List.mem_cons.1 h with rfl | h
    · exact ⟨.inl rfl, .inr (.inl rfl)⟩
    · exact ⟨.inr (.inr (ih h).1), .inr (.inr (ih h).2)⟩
noncomputable def faultG (f : List Node) (l : List Rng) (ns : List Int) : Int :=
  if faultR f (nodesR l ++ ns) ≠ 0 then faultR f (nodesR l ++ ns) else if dec (∀ r ∈ l, okB f r.s ∧ okB f r.e) = true then (if dec (∀ r ∈ l, validP f r) = true then 0 else 15) else 14
theorem faultR_mono {f : List Node} {l : List Int} (hr : rightP f) (h : ∀ x ∈ l, inR f x) : faultR f l = 0 := by
  unfold faultR
  rw [if_pos (by rw [dec_true]; exact hr), if_pos (by rw [List.all_eq_true]; exact fun x hx => inB_R.2 (h x hx))]
theorem faultB_in {f : List Node} {l : List Bnd} (hr : rightP f) (h : ∀ b ∈ l, inR f b.n) : faultB f l [] = if dec (∀ b ∈ l, okB f b) = true then 0 else 14 := by
  unfold faultB
  have : faultR f (nodesB l ++ []) = 0 := faultR_mono hr fun x hx => by
    rw [List.append_nil] at hx
    obtain ⟨b, hb, rfl⟩ := List.mem_map.1 hx
    exact h b hb
  rw [this, if_neg (by omega)]
theorem faultB_one {f : List Node} {b : Bnd} (hr : rightP f) (h : inR f b.n) : faultB f [b] [] = 0 ↔ okB f b := by
  rw [faultB_in hr (by simpa using h)]
  constructor
  · intro e
    split at e
    · rename_i h1; rw [dec_true] at h1; exact h1 b (by simp)
    · cases e
  · intro e
    rw [if_pos (by rw [dec_true]; simpa using e)]
theorem validR_ok {f : List Node} {r : Rng} (hr : rightP f) (h1 : inR f r.s.n) (h2 : inR f r.e.n) (k1 : okB f r.s) (k2 : okB f r.e) : validR f r = dec (validP f r) := by
  have e : faultB f [r.s, r.e] [] = 0 := by rw [faultB_in hr (by simp [h1, h2]), if_pos (by rw [dec_true]; simp [k1, k2])]
  unfold validR
  rw [if_neg (by rw [e]; omega)]
theorem rfault_c (f : List Node) (l : List Rng) (ns : List Int) (hf : Fit f) (hl1 : l.length ≤ 5000) (hns : ns.length ≤ 1000) : PureC Tryz.prog 47 [fav f, .imm (.sl (l.map Rng.iv)), .imm (.sl (ns.map i64))] (iav (faultG f l ns)) := by
  have hl := hf.len
  have hlm : (l.map Rng.iv).length = l.length := List.length_map _
  have hnl := nodesR_len l
  have c1 := fault_c f (nodesR l ++ ns) hf (by rw [List.length_append]; omega)
  have hat : ∀ i : Int, 0 ≤ i → i < l.length → nodesR (l.take (i + 1).toNat) = nodesR (l.take i.toNat) ++ [(atI l i).s.n, (atI l i).e.n] := fun i h0 h1 => by
    rw [take_next h0 (by omega), nodesR_app]
    rfl
  have hz0 : faultR f (nodesR l ++ ns) = 0 → rightP f ∧ ∀ r ∈ l, inR f r.s.n ∧ inR f r.e.n := fun h => by
    obtain ⟨h1, h2⟩ := faultR_zero h
    exact ⟨h1, fun r hr => ⟨h2 _ (List.mem_append_left _ (nodesR_mem hr).1), h2 _ (List.mem_append_left _ (nodesR_mem hr).2)⟩⟩
  unfold faultG
  generalize faultR f (nodesR l ++ ns) = w at *
  refine PureC.mk tabs Tryz.func47 75 [.tmp 6] rfl rfl rfl rfl rfl ?_; intro w0 X
  (repeat' (first | ((with_reducible show AL _ _ _ _ _); first | (refine AL.step tabs rfl ?_; try dsimp only [len, List.nil_append, List.cons_append]) | refine AL.nil ?_ | (refine AL.gsplitE rfl rfl rfl (fun hc => ?_) (fun hc => ?_) <;> (fail_if_success (exact absurd hc (by decide))) <;> (try simp only [hsx] at hc) <;> (try first | (exfalso; omega) | contradiction | (exfalso; simp [dec_eq] at hc; done))) | (refine AL.op rfl (OpOK.ari64 rfl rfl rfl rfl rfl (by omega) (by omega)) ?_) | (refine AL.op rfl (OpOK.index_map tabs rfl rfl rfl rfl rfl rfl rfl (fun _ => rfl) (by decide) (by omega) (by omega)) ?_)) | ((with_reducible show DQ _ _ _ _ _ _); first | refine DQ.stepc (LS.val tabs rfl rfl rfl) rfl rfl rfl rfl rfl ?_ | refine DQ.stepc (LS.skip rfl rfl) rfl rfl rfl rfl rfl ?_ | refine DQ.nilM (by kernel_rfl) ?_ | refine DQ.stepc (LS.ari64 rfl rfl rfl rfl rfl rfl (by omega) (by omega)) rfl rfl rfl rfl rfl ?_ | refine DQ.stepc (LS.index_map tabs rfl rfl rfl rfl rfl rfl rfl rfl (fun _ => rfl) (by decide) (by omega) (by omega)) rfl rfl rfl rfl rfl ?_ | (refine DQ.gsplitE rfl rfl rfl (fun hc => ?_) (fun hc => ?_) <;> (fail_if_success (exact absurd hc (by decide))) <;> (try simp only [hsx] at hc) <;> (try first | (exfalso; omega) | contradiction | (exfalso; simp [dec_eq] at hc; done)))) | fail | refine AW.seq ?_ | refine AW.region ?_ | refine Then.norm ?_ | refine AW.skip ?_ | refine AW.block ?_ | refine InB.norm ?_ | refine AW.condT rfl ?_ | refine AW.condF rfl ?_ | (refine AW.cond rfl (fun hc => ?_) (fun hc => ?_) <;> (try simp only [hsx] at hc) <;> (try first | (exfalso; omega) | contradiction | (exfalso; simp [dec_eq] at hc; done))) | refine AW.ret ?_ | refine AW.exit ?_ | refine Then.ret ?_ | refine Then.exit ?_ | refine InB.ret ?_ | refine InB.here ?_ | refine InB.off rfl ?_ | refine Rnd.ret ?_ | refine Rnd.exit ?_ | refine AW.drawW mixed (by kernel_rfl) ?_))
  refine AW.loop (α := Int × List Int) (fun y => ⟨[(1, .imm (.sl (l.map Rng.iv))), (2, .imm (.sl (ns.map i64))), (3, .ptr 0 1 0 0), (7, .os 1 y.2.length), (17, .imm (.sl (l.map Rng.iv))), (18, iav (l.map Rng.iv).length), (19, iav y.1)], [⟨24, 1, [[.imm (.sl (f.map Node.iv))]]⟩, ⟨3, 1, y.2.map cI⟩]⟩) (fun y => 0 ≤ y.1 ∧ y.1 ≤ l.length ∧ y.2 = nodesR (l.take y.1.toNat)) (fun y => (l.length - y.1).toNat) (0, []) (Le.trans (Le.fresh 7 3 1 rfl rfl) (Le.cut 2 rfl (by repeat' (first | exact trivial | refine ⟨rfl, ?_⟩)) rfl (by simp only [List.all_cons, List.all_nil, List.all_map, Function.comp_def, cI, cB, iav, bav, AV.sc1, AV.sc0, Bool.and_true, Bool.and_self, all_tt]; try rfl) (Nat.zero_le _))) ⟨by omega, by simp, rfl⟩ ?_
  rintro ⟨i, q⟩ ⟨h0, h1, h2⟩
  simp only at h0 h1 h2
  have hlt : q.length ≤ 10000 := by rw [h2, nodesR_len, List.length_take]; omega
  have hend : l.length ≤ i → PureC Tryz.prog 46 [fav f, .imm (.sl ((q ++ ns).map i64))] (iav w) := fun h => by rw [h2, take_end (by omega)]; exact c1
  (repeat' (first | ((with_reducible show AL _ _ _ _ _); first | (refine AL.step tabs rfl ?_; try dsimp only [len, List.nil_append, List.cons_append]) | refine AL.ope rfl (OpOK.append_m tabs rfl rfl rfl rfl rfl rfl (g := cI) (ys := [(atI l i).s.n, (atI l i).e.n]) rfl rfl rfl rfl (SrcA.own tabs rfl rfl rfl (b := ⟨3, 1, [(atI l i).s.n, (atI l i).e.n].map cI⟩) rfl (by simp) rfl (by simp [cI, ti3]) (by simp [cI, iav, AV.cell])) (by simp [ti3]; omega) (by simp; omega)) rfl ?_ | refine AL.nil ?_ | (refine AL.gsplitE rfl rfl rfl (fun hc => ?_) (fun hc => ?_) <;> (fail_if_success (exact absurd hc (by decide))) <;> (try simp only [hsx] at hc) <;> (try first | (exfalso; omega) | contradiction | (exfalso; simp [dec_eq] at hc; done))) | (refine AL.op rfl (OpOK.ari64 rfl rfl rfl rfl rfl (by omega) (by omega)) ?_) | (refine AL.op rfl (OpOK.index_map tabs rfl rfl rfl rfl rfl rfl rfl (fun _ => rfl) (by decide) (by omega) (by omega)) ?_)) | ((with_reducible show DQ _ _ _ _ _ _); first | refine DQ.stepc (LS.append_imm (rows2 := ns.map i64) tabs rfl rfl rfl rfl rfl rfl rfl rfl (by simp) rfl rfl rfl rfl rfl (by intro r hr; obtain ⟨z, _, rfl⟩ := List.mem_map.1 hr; rfl) (by simp [ti3]; omega) (by simp; omega)) rfl rfl rfl rfl rfl ?_ | refine DQ.stepc (LS.callsc [1] rfl rfl rfl rfl rfl (fun s' hl => .cons (Fz.im rfl) (.cons (Fz.os (b := ⟨3, 1, q.map cI ++ (ns.map i64).map (·.map AV.imm)⟩) (rows := (q ++ ns).map i64) ((hl.xb 1 (by simp)).trans rfl) (by simp) (reads2 _ _)) .nil)) (hend (by omega)) rfl) rfl rfl rfl rfl rfl ?_ | refine DQ.stepc (LS.val tabs rfl rfl rfl) rfl rfl rfl rfl rfl ?_ | refine DQ.stepc (LS.skip rfl rfl) rfl rfl rfl rfl rfl ?_ | refine DQ.nilM (by kernel_rfl) ?_ | refine DQ.stepc (LS.ari64 rfl rfl rfl rfl rfl rfl (by omega) (by omega)) rfl rfl rfl rfl rfl ?_ | refine DQ.stepc (LS.index_map tabs rfl rfl rfl rfl rfl rfl rfl rfl (fun _ => rfl) (by decide) (by omega) (by omega)) rfl rfl rfl rfl rfl ?_ | (refine DQ.gsplitE rfl rfl rfl (fun hc => ?_) (fun hc => ?_) <;> (fail_if_success (exact absurd hc (by decide))) <;> (try simp only [hsx] at hc) <;> (try first | (exfalso; omega) | contradiction | (exfalso; simp [dec_eq] at hc; done)))) | refine AW.seq ?_ | refine AW.region ?_ | refine Then.norm ?_ | refine AW.skip ?_ | refine AW.block ?_ | refine InB.norm ?_ | refine AW.condT rfl ?_ | refine AW.condF rfl ?_ | (refine AW.cond rfl (fun hc => ?_) (fun hc => ?_) <;> (try simp only [hsx] at hc) <;> (try first | (exfalso; omega) | contradiction | (exfalso; simp [dec_eq] at hc; done))) | refine AW.ret ?_ | refine AW.exit ?_ | refine Then.ret ?_ | refine Then.exit ?_ | refine InB.ret ?_ | refine InB.here ?_ | refine InB.off rfl ?_ | refine Rnd.ret ?_ | refine Rnd.exit ?_ | refine AW.drawW mixed (by kernel_rfl) ?_))
  · refine Rnd.norm (i + 1, q ++ [(atI l i).s.n, (atI l i).e.n]) (Le.cut 2 rfl (by repeat' (first | exact trivial | refine ⟨rfl, ?_⟩)) rfl (by simp only [List.all_cons, List.all_nil, List.all_map, Function.comp_def, cI, cB, iav, bav, AV.sc1, AV.sc0, Bool.and_true, Bool.and_self, all_tt]; try rfl) (Nat.zero_le _)) ⟨by simp only; omega, by simp only; omega, ?_⟩ (by simp only; omega)
    simp only
    rw [hat i h0 hc, h2]
  · rw [if_pos hc]
    exact RQ.fin rfl rfl rfl
  · rw [if_neg (by omega)]
    obtain ⟨hr, hin⟩ := hz0 hc
    have ck1 : ∀ i : Int, PureC Tryz.prog 93 [fav f, (atI l i).s.av] (iav (faultB f [(atI l i).s] [])) := fun i => bcheck_c f _ hf
    have ck2 : ∀ i : Int, PureC Tryz.prog 93 [fav f, (atI l i).e.av] (iav (faultB f [(atI l i).e] [])) := fun i => bcheck_c f _ hf
    have cv : ∀ i : Int, PureC Tryz.prog 70 [fav f, (atI l i).av] (.tup [bav (validR f (atI l i)), iav (faultB f [(atI l i).s, (atI l i).e] [])]) := fun i => bvalid_c f _ hf
    refine AW.loop (α := Int) (fun i => ⟨[(1, .imm (.sl (l.map Rng.iv))), (3, .ptr 0 1 0 0), (41, .imm (.sl (l.map Rng.iv))), (42, iav (l.map Rng.iv).length), (43, iav i)], [⟨24, 1, [[.imm (.sl (f.map Node.iv))]]⟩]⟩) (fun i => 0 ≤ i ∧ i ≤ l.length ∧ ∀ j : Int, 0 ≤ j → j < i → okB f (atI l j).s ∧ okB f (atI l j).e) (fun i => (l.length - i).toNat) 0 (Le.cut 1 rfl (by repeat' (first | exact trivial | refine ⟨rfl, ?_⟩)) rfl rfl (Nat.zero_le _)) ⟨by omega, by omega, fun j h1 h2 => by omega⟩ ?_
    rintro k ⟨k0, k1, k2⟩
    (repeat' (first | ((with_reducible show AL _ _ _ _ _); first | (refine AL.step tabs rfl ?_; try dsimp only [len, List.nil_append, List.cons_append]) | refine AL.op rfl (OpOK.call rfl rfl rfl rfl (ck1 k) rfl) ?_ | refine AL.op rfl (OpOK.call rfl rfl rfl rfl (ck2 k) rfl) ?_ | refine AL.nil ?_ | (refine AL.gsplitE rfl rfl rfl (fun hc => ?_) (fun hc => ?_) <;> (fail_if_success (exact absurd hc (by decide))) <;> (try simp only [hsx] at hc) <;> (try first | (exfalso; omega) | contradiction | (exfalso; simp [dec_eq] at hc; done))) | (refine AL.op rfl (OpOK.ari64 rfl rfl rfl rfl rfl (by omega) (by omega)) ?_) | (refine AL.op rfl (OpOK.index_map tabs rfl rfl rfl rfl rfl rfl rfl (fun _ => rfl) (by decide) (by omega) (by omega)) ?_)) | ((with_reducible show DQ _ _ _ _ _ _); first | refine DQ.stepc (LS.val tabs rfl rfl rfl) rfl rfl rfl rfl rfl ?_ | refine DQ.stepc (LS.skip rfl rfl) rfl rfl rfl rfl rfl ?_ | refine DQ.nilM (by kernel_rfl) ?_ | refine DQ.stepc (LS.ari64 rfl rfl rfl rfl rfl rfl (by omega) (by omega)) rfl rfl rfl rfl rfl ?_ | refine DQ.stepc (LS.index_map tabs rfl rfl rfl rfl rfl rfl rfl rfl (fun _ => rfl) (by decide) (by omega) (by omega)) rfl rfl rfl rfl rfl ?_ | (refine DQ.gsplitE rfl rfl rfl (fun hc => ?_) (fun hc => ?_) <;> (fail_if_success (exact absurd hc (by decide))) <;> (try simp only [hsx] at hc) <;> (try first | (exfalso; omega) | contradiction | (exfalso; simp [dec_eq] at hc; done)))) | refine AW.seq ?_ | refine AW.region ?_ | refine Then.norm ?_ | refine AW.skip ?_ | refine AW.block ?_ | refine InB.norm ?_ | refine AW.condT rfl ?_ | refine AW.condF rfl ?_ | (refine AW.cond rfl (fun hc => ?_) (fun hc => ?_) <;> (try simp only [hsx] at hc) <;> (try first | (exfalso; omega) | contradiction | (exfalso; simp [dec_eq] at hc; done))) | refine AW.ret ?_ | refine AW.exit ?_ | refine Then.ret ?_ | refine Then.exit ?_ | refine InB.ret ?_ | refine InB.here ?_ | refine InB.off rfl ?_ | refine Rnd.ret ?_ | refine Rnd.exit ?_ | refine AW.drawW mixed (by kernel_rfl) ?_))
    · rw [if_neg (by rw [dec_true]; intro h; exact hc ((faultB_one hr (hin _ (atI_mem k0 (by assumption))).1).2 (h _ (atI_mem k0 (by assumption))).1))]
      exact RQ.fin rfl rfl rfl
    · rw [if_neg (by rw [dec_true]; intro h; exact hc ((faultB_one hr (hin _ (atI_mem k0 (by assumption))).2).2 (h _ (atI_mem k0 (by assumption))).2))]
      exact RQ.fin rfl rfl rfl
    · refine Rnd.norm (k + 1) (Le.cut 1 rfl (by repeat' (first | exact trivial | refine ⟨rfl, ?_⟩)) rfl rfl (Nat.zero_le _)) ⟨by omega, by omega, fun j j0 j1 => ?_⟩ (by omega)
      by_cases e : j = k
      · subst e
        have hi := hin _ (atI_mem j0 (by assumption))
        exact ⟨(faultB_one hr hi.1).1 (by assumption), (faultB_one hr hi.2).1 (by assumption)⟩
      · exact k2 j j0 (by omega)
    · have hall : ∀ r ∈ l, okB f r.s ∧ okB f r.e := fun b hb => by
        obtain ⟨j, j0, j1, rfl⟩ := mem_atI hb
        exact k2 j j0 (by omega)
      rw [if_pos (by rw [dec_true]; exact hall)]
      refine AW.loop (α := Int) (fun i => ⟨[(3, .ptr 0 1 0 0), (60, .imm (.sl (l.map Rng.iv))), (61, iav (l.map Rng.iv).length), (62, iav i)], [⟨24, 1, [[.imm (.sl (f.map Node.iv))]]⟩]⟩) (fun i => 0 ≤ i ∧ i ≤ l.length ∧ ∀ j : Int, 0 ≤ j → j < i → validP f (atI l j)) (fun i => (l.length - i).toNat) 0 (Le.cut 1 rfl (by repeat' (first | exact trivial | refine ⟨rfl, ?_⟩)) rfl rfl (Nat.zero_le _)) ⟨by omega, by omega, fun j h1 h2 => by omega⟩ ?_
      rintro m ⟨m0, m1, m2⟩
      have hv : m < l.length → validR f (atI l m) = dec (validP f (atI l m)) := fun h => validR_ok hr (hin _ (atI_mem m0 h)).1 (hin _ (atI_mem m0 h)).2 (hall _ (atI_mem m0 h)).1 (hall _ (atI_mem m0 h)).2
      (repeat' (first | ((with_reducible show AL _ _ _ _ _); first | (refine AL.step tabs rfl ?_; try dsimp only [len, List.nil_append, List.cons_append]) | refine AL.op rfl (OpOK.call rfl rfl rfl rfl (cv m) rfl) ?_ | refine AL.nil ?_ | (refine AL.gsplitE rfl rfl rfl (fun hc => ?_) (fun hc => ?_) <;> (fail_if_success (exact absurd hc (by decide))) <;> (try simp only [hsx] at hc) <;> (try first | (exfalso; omega) | contradiction | (exfalso; simp [dec_eq] at hc; done))) | (refine AL.op rfl (OpOK.ari64 rfl rfl rfl rfl rfl (by omega) (by omega)) ?_) | (refine AL.op rfl (OpOK.index_map tabs rfl rfl rfl rfl rfl rfl rfl (fun _ => rfl) (by decide) (by omega) (by omega)) ?_)) | ((with_reducible show DQ _ _ _ _ _ _); first | refine DQ.stepc (LS.val tabs rfl rfl rfl) rfl rfl rfl rfl rfl ?_ | refine DQ.stepc (LS.skip rfl rfl) rfl rfl rfl rfl rfl ?_ | refine DQ.nilM (by kernel_rfl) ?_ | refine DQ.stepc (LS.ari64 rfl rfl rfl rfl rfl rfl (by omega) (by omega)) rfl rfl rfl rfl rfl ?_ | refine DQ.stepc (LS.index_map tabs rfl rfl rfl rfl rfl rfl rfl rfl (fun _ => rfl) (by decide) (by omega) (by omega)) rfl rfl rfl rfl rfl ?_ | (refine DQ.gsplitE rfl rfl rfl (fun hc => ?_) (fun hc => ?_) <;> (fail_if_success (exact absurd hc (by decide))) <;> (try simp only [hsx] at hc) <;> (try first | (exfalso; omega) | contradiction | (exfalso; simp [dec_eq] at hc; done)))) | refine AW.seq ?_ | refine AW.region ?_ | refine Then.norm ?_ | refine AW.skip ?_ | refine AW.block ?_ | refine InB.norm ?_ | refine AW.condT rfl ?_ | refine AW.condF rfl ?_ | (refine AW.cond rfl (fun hc => ?_) (fun hc => ?_) <;> (try simp only [hsx] at hc) <;> (try first | (exfalso; omega) | contradiction | (exfalso; simp [dec_eq] at hc; done))) | refine AW.ret ?_ | refine AW.exit ?_ | refine Then.ret ?_ | refine Then.exit ?_ | refine InB.ret ?_ | refine InB.here ?_ | refine InB.off rfl ?_ | refine Rnd.ret ?_ | refine Rnd.exit ?_ | refine AW.drawW mixed (by kernel_rfl) ?_))
      · rw [if_neg (by rw [dec_true]; intro h; have h2 := h _ (atI_mem m0 (by assumption)); rw [hv (by assumption), dec_false] at hc; exact hc h2)]
        exact RQ.fin rfl rfl rfl
      · refine Rnd.norm (m + 1) (Le.cut 1 rfl (by repeat' (first | exact trivial | refine ⟨rfl, ?_⟩)) rfl rfl (Nat.zero_le _)) ⟨by omega, by omega, fun j j0 j1 => ?_⟩ (by omega)
        by_cases e : j = m
        · subst e
          rw [hv (by assumption), dec_true] at hc
          exact hc
        · exact m2 j j0 (by omega)
      · rw [if_pos (by rw [dec_true]; intro b hb; obtain ⟨j, j0, j1, rfl⟩ := mem_atI hb; exact m2 j j0 (by omega))]
        exact RQ.fin rfl rfl rfl
theorem faultG_zero {f : List Node} {l : List Rng} {ns : List Int} : faultG f l ns = 0 ↔ rightP f ∧ (∀ r ∈ l, rngOK f r) ∧ ∀ x ∈ ns, inR f x := by
  unfold faultG
  constructor
  · intro h
    split at h
    · rename_i h1; exact absurd h h1
    · rename_i h1
      obtain ⟨h2, h3⟩ := faultR_zero (Classical.not_not.1 h1)
      split at h
      · rename_i h4
        rw [dec_true] at h4
        split at h
        · rename_i h5
          rw [dec_true] at h5
          exact ⟨h2, fun r hr => ⟨⟨h3 _ (List.mem_append_left _ (nodesR_mem hr).1), (h4 r hr).1⟩, ⟨h3 _ (List.mem_append_left _ (nodesR_mem hr).2), (h4 r hr).2⟩, h5 r hr⟩, fun x hx => h3 _ (List.mem_append_right _ hx)⟩
        · cases h
      · cases h
  · rintro ⟨h1, h2, h3⟩
    have e : faultR f (nodesR l ++ ns) = 0 := faultR_mono h1 fun x hx => by
      rcases List.mem_append.1 hx with h | h
      · have : ∀ l : List Rng, (∀ r ∈ l, rngOK f r) → ∀ x ∈ nodesR l, inR f x := by
          intro l
          induction l with
          | nil => intro _ x hx; cases hx
          | cons r l ih =>
            intro hl x hx
            simp only [nodesR, List.mem_cons] at hx
            rcases hx with rfl | rfl | hx
            · exact (hl r (by simp)).1.1
            · exact (hl r (by simp)).2.1.1
            · exact ih (fun r hr => hl r (by simp [hr])) x hx
        exact this l h2 x h
      · exact h3 x h
    rw [if_neg (by omega), if_pos (by rw [dec_true]; exact fun r hr => ⟨(h2 r hr).1.2, (h2 r hr).2.1.2⟩), if_pos (by rw [dec_true]; exact fun r hr => (h2 r hr).2.2)]
end Go.Proofs.YtjjdabihnmilgaaGreat.A
