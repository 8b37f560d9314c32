/- Contracts: ranges.both, put, set, Start, End. -/
import Derived.Test.YtjjdabihnmilgaaGreatXRTGrpAS
import Derived.Test.YtjjdabihnmilgaaGreatXRTGrpAK
import Derived.Test.YtjjdabihnmilgaaGreatProg
import Derived.Deep.RegionLaw
import Derived.Test.YtjjdabihnmilgaaGreatXRTGrpAO
import Derived.Test.YtjjdabihnmilgaaGreatXRTGrpAJ
namespace Go.Proofs.YtjjdabihnmilgaaGreat.A
open Go.RowKit
set_option linter.unusedVariables false
set_option linter.unusedSimpArgs false
set_option maxRecDepth 100000
set_option maxHeartbeats 4000000
theorem both_c (b : Bnd) : PureC Tryz.prog 58 [b.av] (both b).av := by
  obtain ⟨n, o⟩ := b
  refine PureC.mk tabs Tryz.func58 6 [.cell 2 41] rfl rfl rfl rfl rfl ?_; intro w0 X
  (repeat' (first | ((with_reducible show AL _ _ _ _ _); first | (refine AL.step tabs rfl ?_; try dsimp only [len, List.nil_append, List.cons_append]) | refine AL.nil ?_) | refine AW.seq ?_ | refine AW.region ?_ | refine Then.norm ?_ | refine AW.skip ?_ | refine AW.ret ?_ | refine Then.ret ?_))
  exact RQ.fin rfl rfl rfl
theorem validR_true {f : List Node} {r : Rng} (h : validR f r = true) : rightP f ∧ rngOK f r := by
  unfold validR at h
  split at h
  · cases h
  · rename_i h1
    rw [dec_true] at h
    obtain ⟨h2, h3, _⟩ := faultB_zero (Classical.not_not.1 h1)
    exact ⟨h2, h3 r.s (by simp), h3 r.e (by simp), h⟩
/-- What an end is set to. -/
noncomputable def putV (f : List Node) (start : Bool) (r : Rng) (b : Bnd) : Rng :=
  if validR f (if start = true then ⟨b, r.e⟩ else ⟨r.s, b⟩) = true then (if start = true then ⟨b, r.e⟩ else ⟨r.s, b⟩) else both b
theorem putV_ok {f : List Node} {start : Bool} {r : Rng} {b : Bnd} (hb : ptOK f b) : rngOK f (putV f start r b) := by
  unfold putV
  by_cases h : validR f (if start = true then ⟨b, r.e⟩ else ⟨r.s, b⟩) = true
  · rw [if_pos h]; exact (validR_true h).2
  · rw [if_neg h]; exact both_ok hb
theorem putV_s {f : List Node} {r : Rng} {b : Bnd} : (putV f true r b).s = b := by
  unfold putV
  by_cases h : validR f (if true = true then ⟨b, r.e⟩ else ⟨r.s, b⟩) = true
  · rw [if_pos h]; rfl
  · rw [if_neg h]; rfl
theorem putV_e {f : List Node} {r : Rng} {b : Bnd} : (putV f false r b).e = b := by
  unfold putV
  by_cases h : validR f (if false = true then ⟨b, r.e⟩ else ⟨r.s, b⟩) = true
  · rw [if_pos h]; rfl
  · rw [if_neg h]; rfl
theorem put_c (f : List Node) (start : Bool) (r : Rng) (b : Bnd) (hf : Fit f) : PureC Tryz.prog 106 [.agg [bav start], fav f, r.av, b.av] (putV f start r b).av := by
  have c2 := both_c b
  unfold putV
  obtain ⟨⟨an, ao⟩, ⟨bn, bo⟩⟩ := r
  obtain ⟨n, o⟩ := b
  cases start with
  | true =>
    have c1 := bvalid_c f ⟨⟨n, o⟩, ⟨bn, bo⟩⟩ hf
    simp only [if_true]
    generalize validR f ⟨⟨n, o⟩, ⟨bn, bo⟩⟩ = v at *
    generalize faultB f _ [] = w at *
    cases v with
    | true =>
      refine PureC.mk tabs Tryz.func106 33 [.cell 8 41] rfl rfl rfl rfl rfl ?_; intro w0 X
      (repeat' (first | ((with_reducible show AL _ _ _ _ _); first | (refine AL.step tabs rfl ?_; try dsimp only [len, List.nil_append, List.cons_append]) | refine AL.op rfl (OpOK.call rfl rfl rfl rfl c1 rfl) ?_ | refine AL.op rfl (OpOK.call rfl rfl rfl rfl c2 rfl) ?_ | refine AL.nil ?_) | refine AW.seq ?_ | refine AW.region ?_ | refine Then.norm ?_ | refine AW.skip ?_ | refine AW.condT rfl ?_ | refine AW.condF rfl ?_ | (refine AW.cond rfl (fun hc => ?_) (fun hc => ?_) <;> (try simp only [hsx] at hc) <;> (try first | (exfalso; omega) | contradiction | (exfalso; simp [dec_eq] at hc; done))) | refine AW.ret ?_ | refine Then.ret ?_))
      all_goals first
        | exact RQ.fin rfl rfl rfl
        | (trace_state; sorry)
    | false =>
      refine PureC.mk tabs Tryz.func106 33 [.cell 8 41] rfl rfl rfl rfl rfl ?_; intro w0 X
      (repeat' (first | ((with_reducible show AL _ _ _ _ _); first | (refine AL.step tabs rfl ?_; try dsimp only [len, List.nil_append, List.cons_append]) | refine AL.op rfl (OpOK.call rfl rfl rfl rfl c1 rfl) ?_ | refine AL.op rfl (OpOK.call rfl rfl rfl rfl c2 rfl) ?_ | refine AL.nil ?_) | refine AW.seq ?_ | refine AW.region ?_ | refine Then.norm ?_ | refine AW.skip ?_ | refine AW.condT rfl ?_ | refine AW.condF rfl ?_ | (refine AW.cond rfl (fun hc => ?_) (fun hc => ?_) <;> (try simp only [hsx] at hc) <;> (try first | (exfalso; omega) | contradiction | (exfalso; simp [dec_eq] at hc; done))) | refine AW.ret ?_ | refine Then.ret ?_))
      all_goals first
        | exact RQ.fin rfl rfl rfl
        | (trace_state; sorry)
  | false =>
    have c1 := bvalid_c f ⟨⟨an, ao⟩, ⟨n, o⟩⟩ hf
    simp only [Bool.false_eq_true, if_false]
    generalize validR f ⟨⟨an, ao⟩, ⟨n, o⟩⟩ = v at *
    generalize faultB f _ [] = w at *
    cases v with
    | true =>
      refine PureC.mk tabs Tryz.func106 33 [.cell 8 41] rfl rfl rfl rfl rfl ?_; intro w0 X
      (repeat' (first | ((with_reducible show AL _ _ _ _ _); first | (refine AL.step tabs rfl ?_; try dsimp only [len, List.nil_append, List.cons_append]) | refine AL.op rfl (OpOK.call rfl rfl rfl rfl c1 rfl) ?_ | refine AL.op rfl (OpOK.call rfl rfl rfl rfl c2 rfl) ?_ | refine AL.nil ?_) | refine AW.seq ?_ | refine AW.region ?_ | refine Then.norm ?_ | refine AW.skip ?_ | refine AW.condT rfl ?_ | refine AW.condF rfl ?_ | (refine AW.cond rfl (fun hc => ?_) (fun hc => ?_) <;> (try simp only [hsx] at hc) <;> (try first | (exfalso; omega) | contradiction | (exfalso; simp [dec_eq] at hc; done))) | refine AW.ret ?_ | refine Then.ret ?_))
      all_goals first
        | exact RQ.fin rfl rfl rfl
        | (trace_state; sorry)
    | false =>
      refine PureC.mk tabs Tryz.func106 33 [.cell 8 41] rfl rfl rfl rfl rfl ?_; intro w0 X
      (repeat' (first | ((with_reducible show AL _ _ _ _ _); first | (refine AL.step tabs rfl ?_; try dsimp only [len, List.nil_append, List.cons_append]) | refine AL.op rfl (OpOK.call rfl rfl rfl rfl c1 rfl) ?_ | refine AL.op rfl (OpOK.call rfl rfl rfl rfl c2 rfl) ?_ | refine AL.nil ?_) | refine AW.seq ?_ | refine AW.region ?_ | refine Then.norm ?_ | refine AW.skip ?_ | refine AW.condT rfl ?_ | refine AW.condF rfl ?_ | (refine AW.cond rfl (fun hc => ?_) (fun hc => ?_) <;> (try simp only [hsx] at hc) <;> (try first | (exfalso; omega) | contradiction | (exfalso; simp [dec_eq] at hc; done))) | refine AW.ret ?_ | refine Then.ret ?_))
      all_goals first
        | exact RQ.fin rfl rfl rfl
        | (trace_state; sorry)
def r0 : Rng := ⟨⟨0, 0⟩, ⟨0, 0⟩⟩
/-- Start, End: what is answered. -/
noncomputable def setW (f : List Node) (r : Rng) (b : Bnd) : Int := if faultG f [r] [b.n] ≠ 0 then faultG f [r] [b.n] else if (nodeAt f b.n).kind = 10 then 19 else faultB f [b] []
noncomputable def setV (f : List Node) (start : Bool) (r : Rng) (b : Bnd) : Rng := if setW f r b ≠ 0 then r0 else putV f start r b
theorem set_c (f : List Node) (start : Bool) (r : Rng) (b : Bnd) (hf : Fit f) : PureC Tryz.prog 52 [.agg [bav start], fav f, r.av, b.av] (.tup [(setV f start r b).av, iav (setW f r b)]) := by
  have hl := hf.len
  have c1 := rfault_c f [r] [b.n] hf (by simp) (by simp)
  have c2 := treeAt_c f b.n hl
  have c3 := bcheck_c f b hf
  have c4 := put_c f start r b hf
  unfold setV setW
  generalize putV f start r b = q at *
  generalize faultG f [r] [b.n] = w at *
  generalize faultB f [b] [] = u at *
  generalize nodeAt f b.n = n at *
  refine PureC.mk tabs Tryz.func52 40 [.cell 8 41, .tmp 9] rfl rfl rfl rfl rfl ?_; intro w0 X
  (repeat' (first | ((with_reducible show AL _ _ _ _ _); first | (refine AL.step tabs rfl ?_; try dsimp only [len, List.nil_append, List.cons_append]) | refine AL.op rfl (OpOK.callfz rfl rfl rfl rfl c1 rfl rfl) ?_ | refine AL.op rfl (OpOK.call rfl rfl rfl rfl c2 rfl) ?_ | refine AL.op rfl (OpOK.call rfl rfl rfl rfl c3 rfl) ?_ | refine AL.op rfl (OpOK.call rfl rfl rfl rfl c4 rfl) ?_ | refine AL.nil ?_) | (exfalso; omega) | refine AW.seq ?_ | refine AW.region ?_ | refine Then.norm ?_ | refine AW.skip ?_ | refine AW.block ?_ | refine InB.norm ?_ | refine AW.condT rfl ?_ | refine AW.condF rfl ?_ | (refine AW.cond rfl (fun hc => ?_) (fun hc => ?_) <;> (try simp only [hsx] at hc) <;> (try first | (exfalso; omega) | contradiction | (exfalso; simp [dec_eq] at hc; done))) | refine AW.ret ?_ | refine AW.exit ?_ | refine Then.ret ?_ | refine Then.exit ?_ | refine InB.ret ?_ | refine InB.here ?_ | refine InB.off rfl ?_))
  all_goals first
    | (rw [show (if w ≠ 0 then w else if n.kind = 10 then 19 else u) = w from if_pos (by omega), if_pos (by omega)]; exact RQ.fin rfl rfl rfl)
    | (rw [show (if w ≠ 0 then w else if n.kind = 10 then 19 else u) = 19 by rw [if_neg (by omega), if_pos (by omega)], if_pos (by omega)]; exact RQ.fin rfl rfl rfl)
    | (rw [show (if w ≠ 0 then w else if n.kind = 10 then 19 else u) = u by rw [if_neg (by omega), if_neg (by omega)], if_pos (by omega)]; exact RQ.fin rfl rfl rfl)
    | (rw [show (if w ≠ 0 then w else if n.kind = 10 then 19 else u) = 0 by rw [if_neg (by omega), if_neg (by omega)]; omega, if_neg (by omega)]; exact RQ.fin rfl rfl rfl)
    | (trace_state; sorry)
theorem start_c (f : List Node) (r : Rng) (b : Bnd) (hf : Fit f) : PureC Tryz.prog 18 [fav f, r.av, b.av] (.tup [(setV f true r b).av, iav (setW f r b)]) := by
  have c1 := set_c f true r b hf
  generalize setV f true r b = q at *
  generalize setW f r b = w at *
  refine PureC.mk tabs Tryz.func18 15 [.cell 6 41, .tmp 7] rfl rfl rfl rfl rfl ?_; intro w0 X
  (repeat' (first | ((with_reducible show AL _ _ _ _ _); first | (refine AL.step tabs rfl ?_; try dsimp only [len, List.nil_append, List.cons_append]) | refine AL.op rfl (OpOK.call rfl rfl rfl rfl c1 rfl) ?_ | refine AL.nil ?_) | refine AW.seq ?_ | refine AW.region ?_ | refine Then.norm ?_ | refine AW.skip ?_ | refine AW.ret ?_ | refine Then.ret ?_))
  all_goals first
    | exact RQ.fin rfl rfl rfl
    | (trace_state; sorry)
theorem end_rc (f : List Node) (r : Rng) (b : Bnd) (hf : Fit f) : PureC Tryz.prog 20 [fav f, r.av, b.av] (.tup [(setV f false r b).av, iav (setW f r b)]) := by
  have c1 := set_c f false r b hf
  generalize setV f false r b = q at *
  generalize setW f r b = w at *
  refine PureC.mk tabs Tryz.func20 15 [.cell 6 41, .tmp 7] rfl rfl rfl rfl rfl ?_; intro w0 X
  (repeat' (first | ((with_reducible show AL _ _ _ _ _); first | (refine AL.step tabs rfl ?_; try dsimp only [len, List.nil_append, List.cons_append]) | refine AL.op rfl (OpOK.call rfl rfl rfl rfl c1 rfl) ?_ | refine AL.nil ?_) | refine AW.seq ?_ | refine AW.region ?_ | refine Then.norm ?_ | refine AW.skip ?_ | refine AW.ret ?_ | refine Then.ret ?_))
  all_goals first
    | exact RQ.fin rfl rfl rfl
    | (trace_state; sorry)
/-- Beside a node. -/
noncomputable def besW (f : List Node) (r : Rng) (side h : Int) : Int := if faultG f [r] [h] ≠ 0 then faultG f [r] [h] else if 2 ≤ side then 23 else if (nodeAt f h).parent = 0 then 19 else 0
noncomputable def besV (f : List Node) (start : Bool) (r : Rng) (side h : Int) : Rng := if besW f r side h ≠ 0 then r0 else putV f start r ⟨(nodeAt f h).parent, placeP f h + side⟩
theorem placeP_small {f : List Node} (hf : Fit f) (h : Int) : 0 ≤ placeP f h ∧ placeP f h ≤ 1000000000 := by
  have h1 := idx_lo (nodeAt f (nodeAt f h).parent).kids h
  have h2 := idx_hi (nodeAt f (nodeAt f h).parent).kids h
  have h3 := (hf.at (nodeAt f h).parent).kids
  unfold placeP
  omega
theorem LS.toI64 {C : Cx} {s : St} {o : Oper} {l : List Oper} {T : List (Nat × TI)} (hT : TsOK C.P T) (hw : awant l s o = some true) (hd : dok C.nt o.dst = true) {t t2 : TypeId} {x : Operand} (ho : o.op = .convert t t2 x) {i i2 : TI} (hi : look T t = some i) (hi2 : look T t2 = some i2) {k : IntKind} (hk : i2.kd = .int .i64) {n : Int} (hx : s.ev x = some (.imm (.int k n))) (h0 : -9223372036854775808 ≤ n) (h1 : n < 9223372036854775808) : LS C l s o (mkFx l s o (.val (.imm (.int .i64 n))) []) :=
  LS.quiet [] hw fun s' hl => OpOK.toI64 hT hd ho hi hi2 hk ((hl.ev x (by rw [ho]; simp [Op.operands])).trans hx) h0 h1
def u8v (k : Int) : AV := .imm (.int .u8 k)
theorem beside_rc (f : List Node) (start : Bool) (r : Rng) (side h : Int) (hf : Fit f) (hs0 : 0 ≤ side) (hs1 : side < 256) : PureC Tryz.prog 65 [.agg [bav start], fav f, r.av, u8v side, iav h] (.tup [(besV f start r side h).av, iav (besW f r side h)]) := by
  have hl := hf.len
  have c1 := rfault_c f [r] [h] hf (by simp) (by simp)
  have c2 := treeAt_c f h hl
  have c3 := place_c f h hf
  have hp := placeP_small hf h
  have c4 := put_c f start r ⟨(nodeAt f h).parent, placeP f h + side⟩ hf
  unfold besV besW
  generalize placeP f h = p at *
  generalize faultG f [r] [h] = w at *
  generalize nodeAt f h = n at *
  generalize putV f start r ⟨n.parent, p + side⟩ = q at *
  refine PureC.mk tabs Tryz.func65 49 [.cell 10 41, .tmp 11] rfl rfl rfl rfl rfl ?_; intro w0 X
  (repeat' (first | ((with_reducible show AL _ _ _ _ _); first | (refine AL.step tabs rfl ?_; try dsimp only [len, List.nil_append, List.cons_append]) | refine AL.op rfl (OpOK.callfz rfl rfl rfl rfl c1 rfl rfl) ?_ | refine AL.op rfl (OpOK.call rfl rfl rfl rfl c2 rfl) ?_ | refine AL.nil ?_ | (refine AL.op rfl (OpOK.ari64 rfl rfl rfl rfl rfl (by omega) (by omega)) ?_)) | ((with_reducible show DQ _ _ _ _ _ _); first | refine DQ.stepc (LS.toI64 tabs rfl rfl rfl rfl rfl rfl rfl (by omega) (by omega)) rfl rfl rfl rfl rfl ?_ | refine DQ.stepc (LS.ari64 rfl rfl rfl rfl rfl rfl (by omega) (by omega)) rfl rfl rfl rfl rfl ?_ | refine DQ.stepc (LS.call rfl rfl rfl rfl rfl c3 rfl) rfl rfl rfl rfl rfl ?_ | refine DQ.stepc (LS.call rfl rfl rfl rfl rfl c4 rfl) rfl rfl rfl rfl rfl ?_ | refine DQ.stepc (LS.store (i := ti41) (v := q.av) (ty := 41) (sz := 4) (rows := [ti41.zero]) (r := ti41.zero) tabs rfl rfl rfl rfl rfl rfl rfl rfl rfl rfl (Nat.le_of_ble_eq_true rfl) rfl) rfl rfl rfl rfl rfl ?_ | refine DQ.stepc (LS.val tabs rfl rfl rfl) rfl rfl rfl rfl rfl ?_ | refine DQ.stepc (LS.skip rfl rfl) rfl rfl rfl rfl rfl ?_ | refine DQ.nilM (by kernel_rfl) ?_ | refine DQ.stepc (LS.ari64 rfl rfl rfl rfl rfl rfl (by omega) (by omega)) rfl rfl rfl rfl rfl ?_) | (exfalso; omega) | refine AW.seq ?_ | refine AW.region ?_ | refine Then.norm ?_ | refine AW.skip ?_ | refine AW.block ?_ | refine InB.norm ?_ | refine AW.condT rfl ?_ | refine AW.condF rfl ?_ | (refine AW.cond rfl (fun hc => ?_) (fun hc => ?_) <;> (try simp only [hsx] at hc) <;> (try first | (exfalso; omega) | contradiction | (exfalso; simp [dec_eq] at hc; done))) | refine AW.ret ?_ | refine AW.exit ?_ | refine Then.ret ?_ | refine Then.exit ?_ | refine InB.ret ?_ | refine InB.here ?_ | refine InB.off rfl ?_ | refine AW.drawW mixed (by kernel_rfl) ?_))
  all_goals first
    | (rw [show (if w ≠ 0 then w else if 2 ≤ side then 23 else if n.parent = 0 then 19 else 0) = w from if_pos (by omega), if_pos (by omega)]; exact RQ.fin rfl rfl rfl)
    | (rw [show (if w ≠ 0 then w else if 2 ≤ side then 23 else if n.parent = 0 then 19 else 0) = 23 by rw [if_neg (by omega), if_pos (by omega)], if_pos (by omega)]; exact RQ.fin rfl rfl rfl)
    | (rw [show (if w ≠ 0 then w else if 2 ≤ side then 23 else if n.parent = 0 then 19 else 0) = 19 by rw [if_neg (by omega), if_neg (by omega), if_pos (by omega)], if_pos (by omega)]; exact RQ.fin rfl rfl rfl)
    | (rw [show (if w ≠ 0 then w else if 2 ≤ side then 23 else if n.parent = 0 then 19 else 0) = 0 by rw [if_neg (by omega), if_neg (by omega), if_neg (by omega)], if_neg (by omega)]; exact RQ.fin rfl rfl rfl)
    | (trace_state; sorry)
theorem sbeside_c (f : List Node) (r : Rng) (side h : Int) (hf : Fit f) (hs0 : 0 ≤ side) (hs1 : side < 256) : PureC Tryz.prog 28 [fav f, r.av, u8v side, iav h] (.tup [(besV f true r side h).av, iav (besW f r side h)]) := by
  have c1 := beside_rc f true r side h hf hs0 hs1
  generalize besV f true r side h = q at *
  generalize besW f r side h = w at *
  refine PureC.mk tabs Tryz.func28 18 [.cell 8 41, .tmp 9] rfl rfl rfl rfl rfl ?_; intro w0 X
  (repeat' (first | ((with_reducible show AL _ _ _ _ _); first | (refine AL.step tabs rfl ?_; try dsimp only [len, List.nil_append, List.cons_append]) | refine AL.op rfl (OpOK.call rfl rfl rfl rfl c1 rfl) ?_ | refine AL.nil ?_) | refine AW.seq ?_ | refine AW.region ?_ | refine Then.norm ?_ | refine AW.skip ?_ | refine AW.ret ?_ | refine Then.ret ?_))
  all_goals first
    | exact RQ.fin rfl rfl rfl
    | (trace_state; sorry)
theorem ebeside_c (f : List Node) (r : Rng) (side h : Int) (hf : Fit f) (hs0 : 0 ≤ side) (hs1 : side < 256) : PureC Tryz.prog 30 [fav f, r.av, u8v side, iav h] (.tup [(besV f false r side h).av, iav (besW f r side h)]) := by
  have c1 := beside_rc f false r side h hf hs0 hs1
  generalize besV f false r side h = q at *
  generalize besW f r side h = w at *
  refine PureC.mk tabs Tryz.func30 18 [.cell 8 41, .tmp 9] rfl rfl rfl rfl rfl ?_; intro w0 X
  (repeat' (first | ((with_reducible show AL _ _ _ _ _); first | (refine AL.step tabs rfl ?_; try dsimp only [len, List.nil_append, List.cons_append]) | refine AL.op rfl (OpOK.call rfl rfl rfl rfl c1 rfl) ?_ | refine AL.nil ?_) | refine AW.seq ?_ | refine AW.region ?_ | refine Then.norm ?_ | refine AW.skip ?_ | refine AW.ret ?_ | refine Then.ret ?_))
  all_goals first
    | exact RQ.fin rfl rfl rfl
    | (trace_state; sorry)
noncomputable def selW (f : List Node) (r : Rng) (h : Int) : Int := if faultG f [r] [h] ≠ 0 then faultG f [r] [h] else if (nodeAt f h).parent = 0 then 19 else 0
noncomputable def selV (f : List Node) (r : Rng) (h : Int) : Rng := if selW f r h ≠ 0 then r0 else ⟨⟨(nodeAt f h).parent, placeP f h⟩, ⟨(nodeAt f h).parent, placeP f h + 1⟩⟩
theorem select_c (f : List Node) (r : Rng) (h : Int) (hf : Fit f) : PureC Tryz.prog 31 [fav f, r.av, iav h] (.tup [(selV f r h).av, iav (selW f r h)]) := by
  have hl := hf.len
  have c1 := rfault_c f [r] [h] hf (by simp) (by simp)
  have c2 := treeAt_c f h hl
  have c3 := place_c f h hf
  have hp := placeP_small hf h
  unfold selV selW
  generalize placeP f h = p at *
  generalize faultG f [r] [h] = w at *
  generalize nodeAt f h = n at *
  refine PureC.mk tabs Tryz.func31 42 [.cell 6 41, .tmp 7] rfl rfl rfl rfl rfl ?_; intro w0 X
  (repeat' (first | ((with_reducible show AL _ _ _ _ _); first | (refine AL.step tabs rfl ?_; try dsimp only [len, List.nil_append, List.cons_append]) | refine AL.op rfl (OpOK.callfz rfl rfl rfl rfl c1 rfl rfl) ?_ | refine AL.op rfl (OpOK.call rfl rfl rfl rfl c2 rfl) ?_ | refine AL.op rfl (OpOK.call rfl rfl rfl rfl c3 rfl) ?_ | refine AL.nil ?_ | (refine AL.gsplitE rfl rfl rfl (fun hc => ?_) (fun hc => ?_) <;> (fail_if_success (exact absurd hc (by decide))) <;> (try simp only [hsx] at hc) <;> (try first | (exfalso; omega) | contradiction | (exfalso; simp [dec_eq] at hc; done))) | (refine AL.op rfl (OpOK.ari64 rfl rfl rfl rfl rfl (by omega) (by omega)) ?_)) | (exfalso; omega) | refine AW.seq ?_ | refine AW.region ?_ | refine Then.norm ?_ | refine AW.skip ?_ | refine AW.condT rfl ?_ | refine AW.condF rfl ?_ | (refine AW.cond rfl (fun hc => ?_) (fun hc => ?_) <;> (try simp only [hsx] at hc) <;> (try first | (exfalso; omega) | contradiction | (exfalso; simp [dec_eq] at hc; done))) | refine AW.ret ?_ | refine Then.ret ?_))
  all_goals first
    | (rw [show (if w ≠ 0 then w else if n.parent = 0 then 19 else 0) = w from if_pos (by omega), if_pos (by omega)]; exact RQ.fin rfl rfl rfl)
    | (rw [show (if w ≠ 0 then w else if n.parent = 0 then 19 else 0) = 19 by rw [if_neg (by omega), if_pos (by omega)], if_pos (by omega)]; exact RQ.fin rfl rfl rfl)
    | (rw [show (if w ≠ 0 then w else if n.parent = 0 then 19 else 0) = 0 by rw [if_neg (by omega), if_neg (by omega)], if_neg (by omega)]; exact RQ.fin rfl rfl rfl)
    | (trace_state; sorry)
noncomputable def conW (f : List Node) (r : Rng) (h : Int) : Int := if faultG f [r] [h] ≠ 0 then faultG f [r] [h] else if (nodeAt f h).kind = 10 then 19 else 0
noncomputable def conV (f : List Node) (r : Rng) (h : Int) : Rng := if conW f r h ≠ 0 then r0 else ⟨⟨h, 0⟩, ⟨h, lenP f h⟩⟩
theorem contents_c (f : List Node) (r : Rng) (h : Int) (hf : Fit f) : PureC Tryz.prog 33 [fav f, r.av, iav h] (.tup [(conV f r h).av, iav (conW f r h)]) := by
  have hl := hf.len
  have c1 := rfault_c f [r] [h] hf (by simp) (by simp)
  have c2 := treeAt_c f h hl
  have c3 := blength_c f h hf
  have hz : faultG f [r] [h] = 0 → faultR f [h] = 0 := fun e => by
    obtain ⟨h1, _, h3⟩ := faultG_zero.1 e
    exact faultR_mono h1 h3
  unfold conV conW
  generalize faultG f [r] [h] = w at *
  generalize nodeAt f h = n at *
  generalize hu : faultR f [h] = u at *
  by_cases hw : w = 0
  · rw [if_neg (show ¬ u ≠ 0 by rw [hz hw]; omega)] at c3
    generalize lenP f h = v at *
    refine PureC.mk tabs Tryz.func33 42 [.cell 6 41, .tmp 7] rfl rfl rfl rfl rfl ?_; intro w0 X
    (repeat' (first | ((with_reducible show AL _ _ _ _ _); first | (refine AL.step tabs rfl ?_; try dsimp only [len, List.nil_append, List.cons_append]) | refine AL.op rfl (OpOK.callfz rfl rfl rfl rfl c1 rfl rfl) ?_ | refine AL.op rfl (OpOK.call rfl rfl rfl rfl c2 rfl) ?_ | refine AL.op rfl (OpOK.call rfl rfl rfl rfl c3 rfl) ?_ | refine AL.nil ?_ | (refine AL.gsplitE rfl rfl rfl (fun hc => ?_) (fun hc => ?_) <;> (fail_if_success (exact absurd hc (by decide))) <;> (try simp only [hsx] at hc) <;> (try first | (exfalso; omega) | contradiction | (exfalso; simp [dec_eq] at hc; done)))) | (exfalso; omega) | refine AW.seq ?_ | refine AW.region ?_ | refine Then.norm ?_ | refine AW.skip ?_ | refine AW.condT rfl ?_ | refine AW.condF rfl ?_ | (refine AW.cond rfl (fun hc => ?_) (fun hc => ?_) <;> (try simp only [hsx] at hc) <;> (try first | (exfalso; omega) | contradiction | (exfalso; simp [dec_eq] at hc; done))) | refine AW.ret ?_ | refine Then.ret ?_))
    all_goals first
      | (rw [show (if w ≠ 0 then w else if n.kind = 10 then 19 else 0) = 19 by rw [if_neg (by omega), if_pos (by omega)], if_pos (by omega)]; exact RQ.fin rfl rfl rfl)
      | (rw [show (if w ≠ 0 then w else if n.kind = 10 then 19 else 0) = 0 by rw [if_neg (by omega), if_neg (by omega)], if_neg (by omega)]; exact RQ.fin rfl rfl rfl)
      | (trace_state; sorry)
  · rw [show (if w ≠ 0 then w else if n.kind = 10 then 19 else 0) = w from if_pos (by omega), if_pos (by omega)]
    refine PureC.mk tabs Tryz.func33 42 [.cell 6 41, .tmp 7] rfl rfl rfl rfl rfl ?_; intro w0 X
    (repeat' (first | ((with_reducible show AL _ _ _ _ _); first | (refine AL.step tabs rfl ?_; try dsimp only [len, List.nil_append, List.cons_append]) | refine AL.op rfl (OpOK.callfz rfl rfl rfl rfl c1 rfl rfl) ?_ | refine AL.op rfl (OpOK.call rfl rfl rfl rfl c2 rfl) ?_ | refine AL.nil ?_ | (refine AL.gsplitE rfl rfl rfl (fun hc => ?_) (fun hc => ?_) <;> (fail_if_success (exact absurd hc (by decide))) <;> (try simp only [hsx] at hc) <;> (try first | (exfalso; omega) | contradiction | (exfalso; simp [dec_eq] at hc; done)))) | (exfalso; omega) | refine AW.seq ?_ | refine AW.region ?_ | refine Then.norm ?_ | refine AW.skip ?_ | refine AW.condT rfl ?_ | refine AW.condF rfl ?_ | (refine AW.cond rfl (fun hc => ?_) (fun hc => ?_) <;> (try simp only [hsx] at hc) <;> (try first | (exfalso; omega) | contradiction | (exfalso; simp [dec_eq] at hc; done))) | refine AW.ret ?_ | refine Then.ret ?_))
    all_goals first
      | exact RQ.fin rfl rfl rfl
      | (trace_state; sorry)
end Go.Proofs.YtjjdabihnmilgaaGreat.A
namespace Go.Proofs.YtjjdabihnmilgaaGreat.A
open Go.Shelf Go.RowKit Go.Lib
set_option linter.unusedVariables false
set_option linter.unusedSimpArgs false
set_option maxHeartbeats 4000000 in
set_option maxRecDepth 1000000 in
theorem nDelI (b n c i j : Nat) (cs : List Value) (w : World) (hij : i < j) (hj : j ≤ n) (hnc : n ≤ c) (hc63 : c ≤ 9223372036854775807)
    (hcl : cs.length = n) (hcs : ∀ j v, cs[j]? = some v → w.cell? ⟨b, j, none⟩ = some v) (hsp : ∀ k, k < c → (w.cell? ⟨b, k, none⟩).isSome = true) (hfz : ∀ k, w.frozen? ⟨b, k, none⟩ = false) (h1c : ∀ v ∈ cs, v.oneCell' = true) :
    Calls Tryz.prog 201 #[.slice (some ⟨b, 0, none⟩) n c, .int .i64 i, .int .i64 j] w fun e w' => e = .returned (.slice (some ⟨b, 0, none⟩) (i + (n - j)) c) ∧ w' = (w.drew.setCells b i (cs.drop j)).setCells b (i + (n - j)) (List.replicate (n - (i + (n - j))) (Value.int .i64 0)) := by
  have mixed : Tryz.prog.follows .mixedOrders = true := by kernel_rfl
  have tS : Tryz.prog.underlying 78 = some (.slice 3) := Tryz.underlying78
  have tI : Tryz.prog.underlying 3 = some (.int .i64) := Tryz.underlying3
  have iE : (Tryz.prog.info? 3).map (fun i => (i.zero, i.size, i.bytes)) = some (some (Value.int .i64 0), 1, 8) := by kernel_rfl
  obtain ⟨i0, hi0, hz0, hzs, hzb⟩ := info_parts iE
  obtain ⟨news, hnews⟩ : ∃ news, news = cs.drop j := ⟨_, rfl⟩
  have hlen : news.length = n - j := by rw [hnews, List.length_drop, hcl]
  obtain ⟨A, hA, hsrc⟩ : ∃ A : Addr, (if c = j then some (⟨b, 0, none⟩ : Addr) else some ⟨b, j, none⟩) = some A ∧ Hid (∀ t u, news[t]? = some u → w.drew.cell? (A.add t) = some u) := by
    by_cases h : c = j
    · refine ⟨⟨b, 0, none⟩, by simp [h], fun t u hu => ?_⟩
      have h0 : news.length = 0 := by rw [hlen]; omega
      rw [List.length_eq_zero_iff.1 h0] at hu
      simp at hu
    · refine ⟨⟨b, j, none⟩, by simp [h], fun t u hu => ?_⟩
      rw [Addr.add_lit]
      exact hcs _ u (by rwa [hnews, List.getElem?_drop] at hu)
  have s1 : Hid (news.length = (n - j) * 1) := by rw [Nat.mul_one]; exact hlen
  have s2 : Hid (∀ u ∈ news, u.oneCell' = true) := fun u hu => h1c u (by rw [hnews] at hu; exact List.mem_of_mem_drop hu)
  have s3 : Hid (∀ t, t < news.length → (w.drew.cell? ⟨b, 0 + i * 1 + t, none⟩).isSome = true ∧ w.drew.frozen? ⟨b, 0 + i * 1 + t, none⟩ = false) := by
    intro t ht
    rw [hlen] at ht
    rw [Nat.mul_one, Nat.zero_add]
    exact ⟨hsp _ (by omega), hfz _⟩
  obtain ⟨W1, hW1⟩ : ∃ W1, W1 = w.drew.setCells b (0 + i * 1) news := ⟨_, rfl⟩
  have hc1 : ∀ k, k < c → (W1.cell? ⟨b, k, none⟩).isSome = true := fun k hk => by
    rw [hW1, Nat.mul_one, Nat.zero_add]
    exact isSome_setCells b news i w.drew (fun z hz => hsp _ (by omega)) _ (hsp k hk)
  have hf1 : ∀ k, W1.frozen? ⟨b, k, none⟩ = false := fun k => by rw [hW1, World.frozen?_setCells]; exact hfz k
  have hcl : ∀ ty, (Builtin.clear_ #[78] ty #[.slice (some ⟨b, i + (n - j), none⟩) (n - (i + (n - j))) (c - (i + (n - j)))]).run Tryz.prog W1 = .ok (.tuple #[]) (W1.setCells b (i + (n - j)) (List.replicate (n - (i + (n - j))) (Value.int .i64 0))) :=
    fun ty => Lib.run_clear_slice W1 _ _ ty _ tS Tryz.zeroValue3 rfl rfl b (i + (n - j)) _ _ (by omega) (fun t ht => hc1 _ (by omega)) (fun t ht => hf1 _)
  have X : Aside (W1 = w.drew.setCells b i (cs.drop j)) := by show _ = _; rw [hW1, hnews, Nat.mul_one, Nat.zero_add]
  have hW : Hid (W1 = w.drew.setCells b (0 + i * 1) news) := hW1
  have hic : i ≤ c := by omega
  have hjc : j ≤ c := by omega
  have hin : i ≤ n := by omega
  have hne : ¬ ((i : Int) = (j : Int)) := by omega
  have hle : (i : Int) ≤ (j : Int) := by omega
  have hnt : ¬ (c = i + (n - j)) := by omega
  clear hW1 hc1 hf1 hnews hlen hcs hsp hfz h1c
  go_enter Tryz.func201, Tryz.ntmps201
  go_wp2_with fail
  go_region_law_o (refine step_append_room rfl (.tmp 22) (.tmp 25) 78 rfl 3 i0 1 tS hi0 hzs b 0 i c (by simp [Act.eval, Act.put]) A (n - j) (c - j) news (by simp [Act.eval, Act.put]) s1.out hsrc.out s2.out (by omega) s3.out ?_; rw [← hW.out])
  go_wp2
  go_ret
  exact ⟨rfl, by rw [X.out]⟩
theorem ownI {C : Cx} {s : St} {γ : Nat → Option Nat} {κ : Nat → Nat} {a : Act} {W : World} (hC : Conc C s γ κ a W) {id : Nat} {l : List Int} (hb : s.hp[id]? = some ⟨3, 1, l.map (cK .i64)⟩) (h0 : l ≠ []) :
    ∃ g sp, γ id = some g ∧ W.heap[g]? = some (.cells (l.map (Value.int .i64) ++ sp).toArray 3 (0, 0)) ∧ l.length + sp.length = κ id := by
  have hB := hC.blk id _ hb
  rcases hB.mem with ⟨h1, h2, h3⟩ | ⟨g, ys, sp, h1, h2, h3, h4⟩
  · exact absurd (List.map_eq_nil_iff.1 h2) h0
  · have e := cK_vals h4
    subst e
    exact ⟨g, sp, h1, h2, by have h3' : _ = κ id * 1 := h3; simpa using h3'⟩
/-- The list without the element at i, a nought behind. -/
def delL (l : List Int) (i : Nat) : List Int := l.take i ++ l.drop (i + 1) ++ [0]
theorem delL_len (l : List Int) (i : Nat) (hi : i < l.length) : (delL l i).length = l.length := by
  unfold delL
  simp only [List.length_append, List.length_take, List.length_drop, List.length_singleton]
  omega
theorem delL_take (l : List Int) (i : Nat) (hi : i < l.length) : (delL l i).take (l.length - 1) = l.take i ++ l.drop (i + 1) := by
  unfold delL
  exact List.take_left' (by simp only [List.length_append, List.length_take, List.length_drop]; omega)
theorem spliceD {α : Type} (ys sp D : List α) (z : α) (i : Nat) (hi : i < ys.length) (hD : D.length = ys.length - (i + 1)) :
    (((ys ++ sp).take i ++ D ++ (ys ++ sp).drop (i + D.length)).take (ys.length - 1) ++ [z] ++ ((ys ++ sp).take i ++ D ++ (ys ++ sp).drop (i + D.length)).drop (ys.length - 1 + [z].length)) = (ys.take i ++ D ++ [z]) ++ sp := by
  have h1 : (ys ++ sp).take i = ys.take i := List.take_append_of_le_length (by omega)
  have h2 : (ys.take i ++ D).length = ys.length - 1 := by simp; omega
  have h3 : (ys.take i ++ D).drop (ys.length - 1 + [z].length) = [] := List.drop_eq_nil_of_le (by rw [h2]; simp)
  rw [h1, List.take_left' h2, List.drop_append, h2, h3, List.nil_append, List.drop_drop]
  rw [show i + D.length + (ys.length - 1 + [z].length - (ys.length - 1)) = ys.length by simp; omega, List.drop_left' rfl]
set_option maxHeartbeats 4000000 in
set_option maxRecDepth 100000 in
theorem coreDelI {C : Cx} {s : St} {γ : Nat → Option Nat} {κ : Nat → Nat} {a : Act} {W : World} (hC : Conc C s γ κ a W) {id : Nat} {l : List Int} (hb : s.hp[id]? = some ⟨3, 1, l.map (cK .i64)⟩) {i : Nat} (hi : i < l.length) (hl : l.length ≤ 1000000000) :
    Calls Tryz.prog 201 #[.slice ((γ id).map fun g => ⟨g, 0, none⟩) l.length (κ id), .int .i64 i, .int .i64 ((i + 1 : Nat) : Int)] W fun e W' => ∃ x γ' κ', e = .returned x ∧
      Conc C ⟨s.env, s.hp.set id ⟨3, 1, (delL l i).map (cK .i64)⟩⟩ γ' κ' a W' ∧ RepA (St.mm ⟨s.env, s.hp.set id ⟨3, 1, (delL l i).map (cK .i64)⟩⟩ C γ' κ' W') (.sub id (delL l i).length 0 (l.length - 1)) x := by
  have hid : id < s.hp.length := (List.getElem?_eq_some_iff.1 hb).1
  obtain ⟨g, sp, hg, hmem, hcap⟩ := ownI hC hb (fun e => by rw [e] at hi; simp at hi)
  have hmax' : κ id ≤ maxLen := (hC.blk id _ hb).capm
  have hc63 : κ id ≤ 9223372036854775807 := by unfold maxLen at hmax'; omega
  rw [hg]
  have hcell : ∀ j, W.cell? ⟨g, j, none⟩ = (l.map (Value.int .i64) ++ sp)[j]? := fun j => by rw [blk_cell hmem]; simp
  have hcs : ∀ j y, (l.map (Value.int .i64))[j]? = some y → W.cell? ⟨g, j, none⟩ = some y := fun j y hy => by
    rw [hcell, List.getElem?_append_left (List.getElem?_eq_some_iff.1 hy).1]; exact hy
  have h1c : ∀ u : List Int, ∀ y ∈ u.map (Value.int .i64), y.oneCell' = true := by
    intro u y hy
    obtain ⟨z, _, rfl⟩ := List.mem_map.1 hy
    rfl
  have hml := delL_len l i hi
  have hnew : ((delL l i).map (cK .i64)).length = (delL l i).length := List.length_map _
  have hrep : All2 (RepA (s.mm C γ κ W)) ((delL l i).map (cK .i64)).flatten ((delL l i).map (Value.int .i64)) := cK_rep _ _
  have e2 : (l.map (Value.int .i64)).take i ++ (l.map (Value.int .i64)).drop (i + 1) ++ [Value.int .i64 0] = (delL l i).map (Value.int .i64) := by
    unfold delL; simp
  have hsub : ∀ {γ' : Nat → Option Nat} {κ' : Nat → Nat} {W' : World} {g' k' : Nat}, γ' id = some g' → l.length - 1 ≤ k' → RepA (St.mm ⟨s.env, s.hp.set id ⟨3, 1, (delL l i).map (cK .i64)⟩⟩ C γ' κ' W') (.sub id (delL l i).length 0 (l.length - 1)) (.slice (some ⟨g', 0, none⟩) (l.length - 1) k') := by
    intro γ' κ' W' g' k' h1 h2
    refine .sub id _ 0 _ ⟨3, 1, (delL l i).map (cK .i64)⟩ _ _ (List.getElem?_set_self hid) (Nat.le_of_eq hnew.symm) (fun _ => ⟨by omega, fun _ => ⟨g', h1, by simp⟩⟩) h2
  have hll : (l.map (Value.int .i64)).length = l.length := by simp
  have hspc : ∀ k, k < κ id → (W.cell? ⟨g, k, none⟩).isSome = true := fun k hk => by
    rw [hcell, List.getElem?_eq_getElem (by simp only [List.length_append, List.length_map]; omega)]; rfl
  refine (nDelI g l.length (κ id) i (i + 1) _ W (by omega) (by omega) (by omega) hc63 hll hcs hspc (fun k => blk_frozen hmem k) (h1c l)).mono ?_
  rintro e W' ⟨rfl, rfl⟩
  rw [show i + (l.length - (i + 1)) = l.length - 1 by omega, show l.length - (l.length - 1) = 1 by omega]
  have h1 := setCells_at ((l.map (Value.int .i64)).drop (i + 1)) i W.drew _ hmem (by simp only [List.length_append, List.length_map, List.length_drop]; omega)
  have h2 := setCells_at (List.replicate 1 (Value.int .i64 0)) (l.length - 1) _ _ h1 (by simp only [List.length_append, List.length_map, List.length_take, List.length_drop, List.length_replicate]; omega)
  have hsp2 := spliceD (l.map (Value.int .i64)) sp ((l.map (Value.int .i64)).drop (i + 1)) (Value.int .i64 0) i (by simpa using hi) (by simp)
  rw [hll] at hsp2
  rw [show List.replicate 1 (Value.int .i64 0) = [Value.int .i64 0] from rfl] at h2 ⊢
  rw [hsp2, e2] at h2
  have hs1 := setCells_same g ((l.map (Value.int .i64)).drop (i + 1)) i W.drew
  have hs2 := setCells_same g [Value.int .i64 0] (l.length - 1) (W.drew.setCells g i ((l.map (Value.int .i64)).drop (i + 1)))
  obtain ⟨γ', κ', k1, k2, k3⟩ := hC.swap (b := ⟨3, 1, l.map (cK .i64)⟩) hb (g' := g) (k' := κ id) (rows' := (delL l i).map (cK .i64)) h2
    (fun x hx _ => (setCells_far g x hx _ _ _).trans (setCells_far g x hx _ _ _)) (by rw [hs2.2.2.2, hs1.2.2.2]; exact Nat.le_refl _) (hs2.1.trans hs1.1) (hs2.2.1.trans hs1.2.1) (hs2.2.2.1.trans hs1.2.2.1) (.inl hg)
    (fun _ => ⟨hg, rfl⟩) (by rw [hnew, hml, List.length_map]; omega) (cK_row _) (cK_cell _) (by rw [hnew, hml]; omega) hmax' (by simp only [List.length_append, List.length_map, hml]; show _ = κ id * 1; omega) hrep
  exact ⟨_, γ', κ', rfl, k1, hsub k2 (by omega)⟩
end Go.Proofs.YtjjdabihnmilgaaGreat.A
namespace Go.Proofs.YtjjdabihnmilgaaGreat.A
open Go.RowKit
set_option linter.unusedVariables false
set_option linter.unusedSimpArgs false
set_option maxRecDepth 100000
set_option maxHeartbeats 4000000
theorem call201 : Callable Tryz.prog 201 := fun vs w => by
  unfold callFunc
  have hp : (program).run Tryz.prog w = .ok Tryz.prog w := rfl
  rw [run_bind hp, Tryz.func201]
  rfl
theorem iav_val {M : Mm} {n : Int} {v : Value} (h : RepA M (iav n) v) : v = .int .i64 n := by
  cases h with | imm _ _ h => exact h.int_inv
theorem delI_c (l : List Int) (i : Int) (h0 : 0 ≤ i) (h1 : i < l.length) (hl : l.length ≤ 1000000000) : GenC Tryz.prog 201 [⟨3, 1, l.map cI⟩] [.os 0 l.length, iav i, iav (i + 1)] (.sub 0 (delL l i.toNat).length 0 (l.length - 1)) [⟨3, 1, (delL l i.toNat).map cI⟩] := by
  refine ⟨call201, fun W X γ κ xs hC hargs => ?_⟩
  obtain ⟨k, rfl⟩ : ∃ k : Nat, i = k := ⟨i.toNat, by omega⟩
  have hk : k < l.length := by omega
  rw [Int.toNat_natCast]
  cases hargs with
  | cons a0 t =>
    cases t with
    | cons a1 t =>
      cases t with
      | cons a2 t =>
        cases t
        have e0 := a0.os_val (b := ⟨3, 1, l.map cI⟩) rfl (by simp)
        have e2 := iav_val a2
        have e1 := iav_val a1
        subst e0 e1 e2
        have h := coreDelI hC (id := 0) (l := l) (i := k) rfl hk hl
        refine h.mono ?_
        rintro e W' ⟨y, γ', κ', rfl, hC', hr⟩
        exact ⟨y, γ', κ', rfl, hC', hr⟩
def cutL (l : List Int) (i : Int) : List Int := l.take i.toNat ++ l.drop (i.toNat + 1)
theorem cutL_len (l : List Int) (i : Int) (h0 : 0 ≤ i) (h1 : i < l.length) : (cutL l i).length = l.length - 1 := by
  unfold cutL
  simp only [List.length_append, List.length_take, List.length_drop]; omega
theorem cutL_del (l : List Int) (i : Int) (h0 : 0 ≤ i) (h1 : i < l.length) : (delL l i.toNat).take (l.length - 1) = cutL l i := delL_take l i.toNat (by omega)
def remFM (f : List Node) (node parent idx : Int) : List Node :=
  updAt (updAt f (parent - 1) { atI f (parent - 1) with kids := cutL (atI f (parent - 1)).kids idx }) (node - 1)
    { atI (updAt f (parent - 1) { atI f (parent - 1) with kids := cutL (atI f (parent - 1)).kids idx }) (node - 1) with parent := 0 }
theorem remFM_len (f : List Node) (node parent idx : Int) : (remFM f node parent idx).length = f.length := by unfold remFM updAt; simp
theorem remove_c (f : List Node) (c : Change) (hf : Fit f) (h1 : 1 ≤ c.node) (h2 : c.node ≤ f.length) (h3 : 1 ≤ c.parent) (h4 : c.parent ≤ f.length) (hi0 : 0 ≤ c.index) (hi1 : c.index < (atI f (c.parent - 1)).kids.length) (hkid : atI (atI f (c.parent - 1)).kids c.index = c.node) : GenC Tryz.prog 148 [⟨24, 1, [[.os 1 f.length]]⟩, ⟨81, 16, rowsK f (c.parent - 1) (.os 2 (atI f (c.parent - 1)).kids.length)⟩, ⟨3, 1, (atI f (c.parent - 1)).kids.map cI⟩] [.ptr 0 1 0 0, c.av] (bav true) [⟨24, 1, [[.os 1 f.length]]⟩, ⟨81, 16, rowsK (remFM f c.node c.parent c.index) (c.parent - 1) (.sub 2 (delL (atI f (c.parent - 1)).kids c.index.toNat).length 0 ((atI f (c.parent - 1)).kids.length - 1))⟩, ⟨3, 1, (delL (atI f (c.parent - 1)).kids c.index.toNat).map cI⟩] := by
  have hl := hf.len
  have hR := rowsK_len f (c.parent - 1) (.os 2 (atI f (c.parent - 1)).kids.length)
  have hsc : (rowsK f (c.parent - 1) (.os 2 (atI f (c.parent - 1)).kids.length)).all (fun r => r.all (AV.sc1 3)) = true := rowsK_sc f _ _ 3 rfl
  have eN : ∀ n, renB (rho [0, 1, 2] n) ⟨81, 16, rowsK f (c.parent - 1) (.os 2 (atI f (c.parent - 1)).kids.length)⟩ = ⟨81, 16, rowsK f (c.parent - 1) (.os 2 (atI f (c.parent - 1)).kids.length)⟩ := fun n => renB_id (rho3 n) hsc
  have eK : ∀ n, renB (rho [0, 1, 2] n) ⟨3, 1, (atI f (c.parent - 1)).kids.map cI⟩ = ⟨3, 1, (atI f (c.parent - 1)).kids.map cI⟩ := fun n => renB_cI _ _ _ _
  obtain ⟨nd, hnd⟩ : ∃ nd, nd = atI f (c.node - 1) := ⟨_, rfl⟩
  obtain ⟨kk, hkk, hnode⟩ : ∃ kk : AV, kk = (if c.node - 1 = c.parent - 1 then (.os 2 (atI f (c.parent - 1)).kids.length) else .imm (.sl (nd.kids.map i64))) ∧ atI (rowsK f (c.parent - 1) (.os 2 (atI f (c.parent - 1)).kids.length)) (c.node - 1) = nodeRow nd kk := by
    refine ⟨_, rfl, ?_⟩
    rw [rowsK_at f _ _ (by omega) (by omega) _ (by omega) (by omega), hnd]
    split
    · rename_i e; rw [e]
    · rfl
  have hpar : atI (rowsK f (c.parent - 1) (.os 2 (atI f (c.parent - 1)).kids.length)) (c.parent - 1) = nodeRow (atI f (c.parent - 1)) (.os 2 (atI f (c.parent - 1)).kids.length) := by
    rw [rowsK_at f _ _ (by omega) (by omega) _ (by omega) (by omega), if_pos rfl]
  obtain ⟨R1, hR1⟩ : ∃ R1, R1 = (rowsK f (c.parent - 1) (.os 2 (atI f (c.parent - 1)).kids.length)).set (c.parent - 1).toNat (nodeRow (atI f (c.parent - 1)) (.sub 2 (delL (atI f (c.parent - 1)).kids c.index.toNat).length 0 ((atI f (c.parent - 1)).kids.length - 1))) := ⟨_, rfl⟩
  have hR1l : R1.length = f.length := by rw [hR1, List.length_set, hR]
  obtain ⟨kk2, hkk2, hnode2⟩ : ∃ kk2 : AV, kk2 = (if c.node - 1 = c.parent - 1 then (.sub 2 (delL (atI f (c.parent - 1)).kids c.index.toNat).length 0 ((atI f (c.parent - 1)).kids.length - 1)) else .imm (.sl (nd.kids.map i64))) ∧ atI R1 (c.node - 1) = nodeRow nd kk2 := by
    refine ⟨_, rfl, ?_⟩
    rw [hR1, atI_set _ _ _ _ (by omega) (by omega) (by omega), hnd]
    split
    · rename_i e; rw [e]
    · rename_i e
      rw [rowsK_at f _ _ (by omega) (by omega) _ (by omega) (by omega), if_neg e]; rfl
  have hfin : R1.set (c.node - 1).toNat (nodeRow { nd with parent := 0 } kk2) = rowsK (remFM f c.node c.parent c.index) (c.parent - 1) (.sub 2 (delL (atI f (c.parent - 1)).kids c.index.toNat).length 0 ((atI f (c.parent - 1)).kids.length - 1)) := by
    have hil := remFM_len f c.node c.parent c.index
    have hul : ∀ n, (updAt f (c.parent - 1) n).length = f.length := fun n => by unfold updAt; simp
    refine ext_atI (by rw [List.length_set, rowsK_len, hil, hR1l]) fun i g0 g1 => ?_
    rw [List.length_set] at g1
    rw [atI_set _ _ _ _ (by omega) (by omega) g0, rowsK_at _ _ _ (by omega) (by omega) _ g0 (by omega)]
    have hat : ∀ j : Int, 0 ≤ j → j < f.length → atI (remFM f c.node c.parent c.index) j = if j = c.node - 1 then { (if c.node - 1 = c.parent - 1 then { atI f (c.parent - 1) with kids := cutL (atI f (c.parent - 1)).kids c.index } else atI f (c.node - 1)) with parent := 0 } else if j = c.parent - 1 then { atI f (c.parent - 1) with kids := cutL (atI f (c.parent - 1)).kids c.index } else atI f j := by
      intro j j0 j1
      unfold remFM
      rw [show updAt (updAt f (c.parent - 1) { atI f (c.parent - 1) with kids := cutL (atI f (c.parent - 1)).kids c.index }) (c.node - 1) { atI (updAt f (c.parent - 1) { atI f (c.parent - 1) with kids := cutL (atI f (c.parent - 1)).kids c.index }) (c.node - 1) with parent := 0 } = (updAt f (c.parent - 1) { atI f (c.parent - 1) with kids := cutL (atI f (c.parent - 1)).kids c.index }).set (c.node - 1).toNat { atI (updAt f (c.parent - 1) { atI f (c.parent - 1) with kids := cutL (atI f (c.parent - 1)).kids c.index }) (c.node - 1) with parent := 0 } from rfl]
      rw [atI_set _ _ _ _ (by omega) (by rw [hul]; omega) j0]
      unfold updAt
      rw [atI_set _ _ _ _ (by omega) (by omega) (by omega), atI_set _ _ _ _ (by omega) (by omega) j0]
    by_cases e1 : i = c.node - 1
    · rw [if_pos e1]
      by_cases e2 : c.node - 1 = c.parent - 1
      · rw [if_pos (by omega), hat _ (by omega) (by omega), if_pos (by omega), if_pos e2, hkk2, if_pos e2, hnd, e2]; rfl
      · rw [if_neg (by omega), hat _ g0 (by omega), if_pos e1, if_neg e2, hkk2, if_neg e2, hnd]; rfl
    · rw [if_neg e1, hR1, atI_set _ _ _ _ (by omega) (by omega) g0]
      by_cases e2 : i = c.parent - 1
      · rw [if_pos e2, if_pos e2, hat _ (by omega) (by omega), if_neg (by omega), if_pos rfl]; rfl
      · rw [if_neg e2, if_neg e2, rowsK_at f _ _ (by omega) (by omega) _ g0 (by omega), if_neg e2, hat _ g0 (by omega), if_neg e1, if_neg e2]
  have hscF : (rowsK (remFM f c.node c.parent c.index) (c.parent - 1) (.sub 2 (delL (atI f (c.parent - 1)).kids c.index.toNat).length 0 ((atI f (c.parent - 1)).kids.length - 1))).all (fun r => r.all (AV.sc1 3)) = true := rowsK_sc _ _ _ 3 rfl
  have gnode := get_atI (by omega) (by omega) hnode
  have gpar := get_atI (by omega) (by omega) hpar
  have gnode2 := get_atI (by omega) (by omega) hnode2
  refine GenC.mk tabs Tryz.func148 59 [.tmp 4] rfl rfl rfl rfl rfl ?_; intro w0 X γ κ
  have gkid : ((atI f (c.parent - 1)).kids.map cI)[c.index.toNat]? = some (cI c.node) := by
    rw [List.getElem?_map, atI_get hi0 hi1, hkid]; rfl
  have hkb := (hf.atI (c.parent - 1) (by omega) (by omega)).kids
  (repeat' (first | ((with_reducible show AL _ _ _ _ _); first | (refine AL.step tabs rfl ?_; try dsimp only [len, List.nil_append, List.cons_append]) | refine AL.callG [0, 1, 2] 4 rfl rfl rfl rfl rfl (caps := []) rfl (ends2_c f (rowsK f (c.parent - 1) (.os 2 (atI f (c.parent - 1)).kids.length)) (atI f (c.parent - 1)).kids c hR hl hsc h1 h2 h3 h4) rfl (by simp only [List.map_cons, List.map_nil, eN, eK]; rfl) rfl rfl (by simp only [List.all_cons, List.all_nil, Bool.and_true, Bool.and_eq_true]; exact ⟨rfl, hsc, (by simp only [List.all_cons, List.all_nil, List.all_map, Function.comp_def, cI, cB, iav, bav, AV.sc1, AV.sc0, Bool.and_true, Bool.and_self, all_tt]; try rfl)⟩) rfl (by simp only [List.all_cons, List.all_nil, Bool.and_true, Bool.and_eq_true]; exact ⟨rfl, hsc, (by simp only [List.all_cons, List.all_nil, List.all_map, Function.comp_def, cI, cB, iav, bav, AV.sc1, AV.sc0, Bool.and_true, Bool.and_self, all_tt]; try rfl)⟩) rfl (hpA := [⟨24, 1, [[.os 1 f.length]]⟩, ⟨81, 16, rowsK f (c.parent - 1) (.os 2 (atI f (c.parent - 1)).kids.length)⟩, ⟨3, 1, (atI f (c.parent - 1)).kids.map cI⟩]) (by simp only [List.map_cons, List.map_nil, eN, eK]; rfl) (r' := .tup [.ptr 1 f.length (c.node - 1).toNat 0, .ptr 1 f.length (c.parent - 1).toNat 0]) rfl rfl ?_ | refine AL.ope rfl (OpOK.nilCheckO (b := ⟨81, 16, R1⟩) rfl rfl rfl (by rw [hR1]; rfl) hR1l.symm) rfl ?_ | refine AL.ope rfl (OpOK.fieldAddrO (b := ⟨81, 16, R1⟩) tabs rfl rfl rfl rfl rfl rfl rfl (by rw [hR1]; rfl) hR1l.symm) rfl ?_ | refine AL.ope rfl (OpOK.store_own (i := ti3) (v := iav 0) (b := ⟨81, 16, R1⟩) (r := nodeRow nd kk2) tabs rfl rfl rfl rfl rfl (by rw [← nth_eq, hR1]; rfl) hR1l.symm rfl rfl (Nat.le_of_ble_eq_true rfl) gnode2) rfl ?_ | refine AL.nil ?_ | (refine AL.gsplitE rfl rfl rfl (fun hc => ?_) (fun hc => ?_) <;> (fail_if_success (exact absurd hc (by decide))) <;> (try simp only [hsx] at hc) <;> (try first | (exfalso; omega) | contradiction | (exfalso; simp [dec_eq] at hc; done))) | (refine AL.op rfl (OpOK.ari64 rfl rfl rfl rfl rfl (by omega) (by omega)) ?_) | (refine AL.op rfl (OpOK.index_map tabs rfl rfl rfl rfl rfl rfl rfl (fun _ => rfl) (by decide) (by omega) (by omega)) ?_)) | ((with_reducible show DQ _ _ _ _ _ _); first | refine DQ.stepc (LS.ari64 rfl rfl rfl rfl rfl rfl (by omega) (by omega)) rfl rfl rfl rfl rfl ?_ | refine DQ.stepc (LS.ptrnil (b := ⟨81, 16, rowsK f (c.parent - 1) (.os 2 (atI f (c.parent - 1)).kids.length)⟩) tabs rfl rfl rfl u205 rfl rfl hR.symm rfl) rfl rfl rfl rfl rfl ?_ | refine DQ.stepc (LS.nilCheck (b := ⟨81, 16, rowsK f (c.parent - 1) (.os 2 (atI f (c.parent - 1)).kids.length)⟩) rfl rfl rfl rfl rfl hR.symm) rfl rfl rfl rfl rfl ?_ | refine DQ.stepc (LS.fieldAddr (b := ⟨81, 16, rowsK f (c.parent - 1) (.os 2 (atI f (c.parent - 1)).kids.length)⟩) tabs rfl rfl rfl rfl rfl rfl rfl rfl rfl hR.symm) rfl rfl rfl rfl rfl ?_ | refine DQ.stepc (LS.load_own (i := ti78) (r := nodeRow (atI f (c.parent - 1)) (.os 2 (atI f (c.parent - 1)).kids.length)) (b := ⟨81, 16, rowsK f (c.parent - 1) (.os 2 (atI f (c.parent - 1)).kids.length)⟩) (row := (c.parent - 1).toNat) tabs rfl rfl rfl rfl rfl rfl hR.symm gpar rfl) rfl rfl rfl rfl rfl ?_ | refine DQ.stepc (LS.len_os (b := ⟨3, 1, (atI f (c.parent - 1)).kids.map cI⟩) tabs rfl rfl rfl rfl rfl rfl rfl (by simp)) rfl rfl rfl rfl rfl ?_ | refine DQ.stepc (LS.index_own (b := ⟨3, 1, (atI f (c.parent - 1)).kids.map cI⟩) tabs rfl rfl rfl rfl rfl rfl rfl rfl rfl (by simp) rfl (by omega) (by omega)) rfl rfl rfl rfl rfl ?_ | refine DQ.stepc (LS.load_own (i := ti3) (r := cI c.node) (b := ⟨3, 1, (atI f (c.parent - 1)).kids.map cI⟩) (row := c.index.toNat) tabs rfl rfl rfl rfl rfl rfl (by simp) gkid rfl) rfl rfl rfl rfl rfl ?_ | refine DQ.stepc (LS.store (i := ti78) (v := (.sub 2 (delL (atI f (c.parent - 1)).kids c.index.toNat).length 0 ((atI f (c.parent - 1)).kids.length - 1))) (ty := 81) (sz := 16) (rows := rowsK f (c.parent - 1) (.os 2 (atI f (c.parent - 1)).kids.length)) (r := nodeRow (atI f (c.parent - 1)) (.os 2 (atI f (c.parent - 1)).kids.length)) tabs rfl rfl rfl rfl rfl rfl rfl hR.symm rfl rfl (by decide) gpar) rfl rfl rfl rfl rfl ?_ | refine DQ.stepc (LS.val tabs rfl rfl rfl) rfl rfl rfl rfl rfl ?_ | refine DQ.stepc (LS.skip rfl rfl) rfl rfl rfl rfl rfl ?_ | refine DQ.nilM (by kernel_rfl) ?_ | refine DQ.stepc (LS.ari64 rfl rfl rfl rfl rfl rfl (by omega) (by omega)) rfl rfl rfl rfl rfl ?_ | refine DQ.stepc (LS.index_map tabs rfl rfl rfl rfl rfl rfl rfl rfl (fun _ => rfl) (by decide) (by omega) (by omega)) rfl rfl rfl rfl rfl ?_ | (refine DQ.gsplitE rfl rfl rfl (fun hc => ?_) (fun hc => ?_) <;> (fail_if_success (exact absurd hc (by decide))) <;> (try simp only [hsx] at hc) <;> (try first | (exfalso; omega) | contradiction | (exfalso; simp [dec_eq] at hc; done)))) | ((with_reducible show M2.DQ _ _ _ _ _ _); first | refine M2.DQ.step2 (M2.LS.callG [2] (caps := []) rfl rfl rfl rfl rfl (delI_c (atI f (c.parent - 1)).kids c.index hi0 hi1 hkb) (fun _ => rfl) (bs := [⟨3, 1, (atI f (c.parent - 1)).kids.map cI⟩]) rfl (fun n => by simp only [List.map_cons, List.map_nil, renB_cI]) rfl rfl (by simp only [List.all_cons, List.all_nil, List.all_map, Function.comp_def, cI, cB, iav, bav, AV.sc1, AV.sc0, Bool.and_true, Bool.and_self, all_tt]; try rfl) rfl (by simp only [List.all_cons, List.all_nil, List.all_map, Function.comp_def, cI, cB, iav, bav, AV.sc1, AV.sc0, Bool.and_true, Bool.and_self, all_tt]; try rfl) rfl (hpA := [⟨3, 1, (delL (atI f (c.parent - 1)).kids c.index.toNat).map cI⟩]) (fun n => by simp only [List.map_cons, List.map_nil, renB_cI]) (r' := .sub 2 (delL (atI f (c.parent - 1)).kids c.index.toNat).length 0 ((atI f (c.parent - 1)).kids.length - 1)) (fun _ => rfl)) rfl rfl rfl rfl rfl ?_ | refine M2.DQ.stepc (LS.ari64 rfl rfl rfl rfl rfl rfl (by omega) (by omega)) rfl rfl rfl rfl rfl ?_ | refine M2.DQ.stepc (LS.ptrnil (b := ⟨81, 16, rowsK f (c.parent - 1) (.os 2 (atI f (c.parent - 1)).kids.length)⟩) tabs rfl rfl rfl u205 rfl rfl hR.symm rfl) rfl rfl rfl rfl rfl ?_ | refine M2.DQ.stepc (LS.nilCheck (b := ⟨81, 16, rowsK f (c.parent - 1) (.os 2 (atI f (c.parent - 1)).kids.length)⟩) rfl rfl rfl rfl rfl hR.symm) rfl rfl rfl rfl rfl ?_ | refine M2.DQ.stepc (LS.fieldAddr (b := ⟨81, 16, rowsK f (c.parent - 1) (.os 2 (atI f (c.parent - 1)).kids.length)⟩) tabs rfl rfl rfl rfl rfl rfl rfl rfl rfl hR.symm) rfl rfl rfl rfl rfl ?_ | refine M2.DQ.stepc (LS.load_own (i := ti78) (r := nodeRow (atI f (c.parent - 1)) (.os 2 (atI f (c.parent - 1)).kids.length)) (b := ⟨81, 16, rowsK f (c.parent - 1) (.os 2 (atI f (c.parent - 1)).kids.length)⟩) (row := (c.parent - 1).toNat) tabs rfl rfl rfl rfl rfl rfl hR.symm gpar rfl) rfl rfl rfl rfl rfl ?_ | refine M2.DQ.stepc (LS.len_os (b := ⟨3, 1, (atI f (c.parent - 1)).kids.map cI⟩) tabs rfl rfl rfl rfl rfl rfl rfl (by simp)) rfl rfl rfl rfl rfl ?_ | refine M2.DQ.stepc (LS.index_own (b := ⟨3, 1, (atI f (c.parent - 1)).kids.map cI⟩) tabs rfl rfl rfl rfl rfl rfl rfl rfl rfl (by simp) rfl (by omega) (by omega)) rfl rfl rfl rfl rfl ?_ | refine M2.DQ.stepc (LS.load_own (i := ti3) (r := cI c.node) (b := ⟨3, 1, (atI f (c.parent - 1)).kids.map cI⟩) (row := c.index.toNat) tabs rfl rfl rfl rfl rfl rfl (by simp) gkid rfl) rfl rfl rfl rfl rfl ?_ | refine M2.DQ.stepc (LS.store (i := ti78) (v := (.sub 2 (delL (atI f (c.parent - 1)).kids c.index.toNat).length 0 ((atI f (c.parent - 1)).kids.length - 1))) (ty := 81) (sz := 16) (rows := rowsK f (c.parent - 1) (.os 2 (atI f (c.parent - 1)).kids.length)) (r := nodeRow (atI f (c.parent - 1)) (.os 2 (atI f (c.parent - 1)).kids.length)) tabs rfl rfl rfl rfl rfl rfl rfl hR.symm rfl rfl (by decide) gpar) rfl rfl rfl rfl rfl ?_ | refine M2.DQ.stepc (LS.val tabs rfl rfl rfl) rfl rfl rfl rfl rfl ?_ | refine M2.DQ.stepc (LS.skip rfl rfl) rfl rfl rfl rfl rfl ?_ | refine M2.DQ.nilM (by kernel_rfl) ?_ | refine M2.DQ.stepc (LS.ari64 rfl rfl rfl rfl rfl rfl (by omega) (by omega)) rfl rfl rfl rfl rfl ?_ | refine M2.DQ.stepc (LS.index_map tabs rfl rfl rfl rfl rfl rfl rfl rfl (fun _ => rfl) (by decide) (by omega) (by omega)) rfl rfl rfl rfl rfl ?_ | (refine M2.DQ.gsplitE rfl rfl rfl (fun hc => ?_) (fun hc => ?_) <;> (fail_if_success (exact absurd hc (by decide))) <;> (try simp only [hsx] at hc) <;> (try first | (exfalso; omega) | contradiction | (exfalso; simp [dec_eq] at hc; done)))) | refine M2.drawW (id := 4) mixed (by kernel_rfl) ?_ | refine AW.seq ?_ | refine AW.region ?_ | refine Then.norm ?_ | refine AW.skip ?_ | refine AW.condT rfl ?_ | refine AW.condF rfl ?_ | (refine AW.cond rfl (fun hc => ?_) (fun hc => ?_) <;> (try simp only [hsx] at hc) <;> (try first | (exfalso; omega) | contradiction | (exfalso; simp [dec_eq] at hc; done))) | refine AW.ret ?_ | refine Then.ret ?_ | refine AW.drawW mixed (by kernel_rfl) ?_))
  all_goals first
    | (exfalso; omega)
    | (refine RG.ret 3 rfl rfl (by rw [← hfin]; rfl) rfl ?_ (by simp [cxG])
       simp only [List.all_cons, List.all_nil, Bool.and_true, Bool.and_eq_true]
       exact ⟨rfl, hscF, (by simp only [List.all_cons, List.all_nil, List.all_map, Function.comp_def, cI, cB, iav, bav, AV.sc1, AV.sc0, Bool.and_true, Bool.and_self, all_tt]; try rfl)⟩)
    | (trace_state; sorry)
end Go.Proofs.YtjjdabihnmilgaaGreat.A
