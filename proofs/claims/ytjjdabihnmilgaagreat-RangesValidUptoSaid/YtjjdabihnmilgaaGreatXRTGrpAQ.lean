/- Range over functions, part 10: the rule. -/
import Derived.Test.YtjjdabihnmilgaaGreatXRTGrpAP
import Derived.Test.YtjjdabihnmilgaaGreatXRTGrpAN
import Derived.Test.YtjjdabihnmilgaaGreatXRTGrpAK
namespace Go.Proofs.YtjjdabihnmilgaaGreat.A
open Go.RowKit
set_option linter.unusedVariables false
set_option linter.unusedSimpArgs false
section
variable {C : Cx}
theorem MkOK.of {W W' : World} {Ds : List Nat} (hm : MkOK C W Ds) (h : ∀ D ∈ Ds, W'.heap[D]? = some (.deferred (some []))) : MkOK C W' Ds := ⟨hm.nodup, fun D hD => ⟨(hm.mem D hD).1, h D hD⟩⟩
theorem AWM.rangeFuncP {s : St} {Q : Exit → St → Prop} {g : Operand} {p d id : Nat} {o : Oper} {body : Code} (env0 : List (Nat × AV)) (hpf hps : List Int → List Blk) (hq : List Blk) (xs : List Int) (go stop : List Int → Prop) {gf : Nat} {caps : List AV} (hg : s.ev g = some (.fn gf caps)) (tys : List TypeId) (hit : IterP C.P tys gf (hpf []) hq caps xs)
    (hty : ∀ pre, ∀ b ∈ hpf pre, b.ty ∈ tys) (he : ∀ t v, get env0 t = some v → get s.env t = some v) (hh : s.hp = hpf [] ++ hq) (hse : env0.all (fun q => q.2.sc (hpf []).length) = true) (hsb : (hpf []).all (fun b => b.rows.all fun r => r.all (AV.sc1 (hpf []).length)) = true) (hlh : C.hp0.length ≤ (hpf []).length)
    (hnm : ∀ pre, nmS ⟨env0, hpf pre⟩ = true) (hnx : ∀ pre, nmS ⟨env0, hps pre⟩ = true) (ho : o.op = .assign (.tmp p)) (hod : o.dst = some d) (hog : o.guard = none) (hp : p < C.nt) (hd : d < C.nt) (h0 : go [])
    (hbody : ∀ (pre : List Int) (x : Int), pre.length < xs.length → go pre → ∀ l w0 X γ κ, AWM (some l) (cxG C.P X (hpf pre) γ κ w0 C.nt) body (RX (cxG C.P X (hpf pre) γ κ w0 C.nt) (hpf (pre ++ [x])) (hps (pre ++ [x])) (go (pre ++ [x])) (stop (pre ++ [x]))) ⟨(d, .imm (.int .i64 x)) :: (p, .imm (.int .i64 x)) :: env0, hpf pre⟩)
    (h : go xs → Q .normal ⟨env0, hpf xs⟩) (hx : ∀ pre, pre <+: xs → stop pre → Q .ret ⟨env0, hps pre⟩) : AWM none C (.rangeFunc g #[p] (.region id #[o] false) body) Q s := by
  intro n γ κ a W Ds hC ha hm
  refine wpIn_anyN (n := n + 2) rfl ?_
  obtain ⟨k, hk⟩ : ∃ k, k = (hpf []).length := ⟨_, rfl⟩
  have htk : s.hp.take k = hpf [] := by rw [hh, hk]; exact List.take_left
  have hkl : k ≤ s.hp.length := by rw [hh, hk]; simp
  have hgv := hC.evM hg
  obtain ⟨lb, hev, hcap⟩ : ∃ lb, a.eval g = .func (.func gf) #[] lb.toArray ∧ All2 (RepA (s.mm C γ κ W)) caps lb := by
    generalize a.eval g = v at hgv
    cases hgv with
    | fn _ _ xs h => exact ⟨xs, rfl, h⟩
  have hCG : Conc (cxG C.P C.X (hpf [] ++ hq) γ κ W 0) ⟨[], hpf [] ++ hq⟩ γ κ noact W := by
    rw [← hh]
    exact ⟨rfl, rfl, (by intro t v h; cases h), hC.blk, hC.inj, fun i g hi hg => ⟨(hC.own i g hi hg).1, .inr ⟨i, hi, hg⟩⟩, fun b hb => Nat.lt_of_lt_of_le (hC.xlt b hb) hC.hsize, fun _ _ _ => rfl, rfl, rfl, rfl, Nat.le_refl _, fun i b0 hb => ⟨b0, hb, rfl, Nat.le_refl _, fun _ => ⟨rfl, rfl⟩⟩⟩
  have hcap' : All2 (RepA (St.mm ⟨[], hpf [] ++ hq⟩ (cxG C.P C.X (hpf [] ++ hq) γ κ W 0) γ κ W)) caps lb := by
    rw [← hh]
    exact hcap
  have hseq := hit.2 (n + 1) W C.X γ κ lb hCG hcap'
  rw [← hh, ← hk] at hseq
  obtain ⟨C1, hC1⟩ : ∃ C1, C1 = C.park W s γ k := ⟨_, rfl⟩
  have hP1 : Conc C1 ⟨env0, hpf []⟩ γ κ ⟨a.tmps, []⟩ W := by
    have := Conc.park (s := s) k (env1 := env0) hkl he (by rw [hk]; exact hse) (by rw [htk, hk]; exact hsb) (by rw [hk]; exact hlh) (hC : Conc C s γ κ ⟨a.tmps, []⟩ W)
    rw [htk] at this
    rw [hC1]; exact this
  have e1 : C1.P = C.P := by rw [hC1]; rfl
  have e2 : C1.nt = C.nt := by rw [hC1]; rfl
  have e3 : C1.w0 = W := by rw [hC1]; rfl
  have e4 : ∀ b, parked γ k s.hp.length b → C1.X b ∧ C1.may b := by
    rintro b ⟨i, h1, h2, h3⟩
    rw [hC1]
    exact ⟨.inr ⟨i, h1, h2, h3⟩, i, h2, h3⟩
  have e5 : ∀ b, ¬ C1.X b → C1.may b → ownOf ⟨[], hpf []⟩ γ b := by
    intro b h1 h2
    rw [hC1] at h1 h2
    obtain ⟨i, h3, h4⟩ := h2
    refine ⟨i, ?_, h4⟩
    show i < (hpf []).length
    rw [← hk]
    apply Classical.byContradiction
    intro h5
    exact h1 (.inr ⟨i, by omega, h3, h4⟩)
  have hsz : a.tmps.size = C.nt := hC.size
  -- what is turned in a round
  have rnd : ∀ (hpn : List Blk) (pre : List Int) (x : Int) (W1 : World) (γ1 : Nat → Option Nat) (κ1 : Nat → Nat) (W' : World) (s' : St) (γ' : Nat → Option Nat) (κ' : Nat → Nat) (a' : Act), Conc C1 ⟨env0, hpf pre⟩ γ1 κ1 ⟨a.tmps, []⟩ W1 → (∀ D ∈ Ds, W1.heap[D]? = some (.deferred (some []))) → Conc (cxG C.P C1.X (hpf pre) γ1 κ1 W1 C.nt) s' γ' κ' a' W' →
      (∃ k, hpn = s'.hp.take k ∧ hpn.all (fun b => b.rows.all fun r => r.all (AV.sc1 k)) = true ∧ (hpf pre).length ≤ k) →
      KeepsOthers W1 W' ∧ KpM tys W.heap.size (ownOf ⟨[], hpf []⟩ γ) W1 W' ∧ ∃ γ2 κ2, Conc C1 ⟨env0, hpn⟩ γ2 κ2 ⟨a.tmps, []⟩ W' ∧ ∀ D ∈ Ds, W'.heap[D]? = some (.deferred (some [])) := by
    rintro hpn pre x W1 γ1 κ1 W' s' γ' κ' a' h1 hD1 h2 ⟨k, hk, hsc, hle⟩
    have hcut := Le.cut_same (s1 := ⟨[], s'.hp.take k⟩) k rfl trivial rfl (by rw [← hk]; exact hsc) hle h2
    rw [← hk] at hcut
    have hno : ∀ (b : Nat) (o : Obj), W1.heap[b]? = some o → o.isCells = false → W'.heap[b]? = some o := by
      intro b o hb hc
      refine (h2.old b (Array.getElem?_eq_some_iff.1 hb).1 ?_).trans hb
      rintro hmay
      obtain ⟨o', h3, h4⟩ := h1.ownCells (g := b) hmay
      rw [hb] at h3; cases h3
      rw [hc] at h4; cases h4
    refine ⟨⟨h2.hsize, fun b o hb hc => hno b o hb hc⟩, ⟨h2.hsize, ?_, ?_⟩, γ', κ', ?_, fun D hD => hno D _ (hD1 D hD) rfl⟩
    · intro b hb hnb
      have hsz1 : W.heap.size ≤ W1.heap.size := by rw [← e3]; exact h1.hsize
      refine h2.old b (by have h9 : (cxG C.P C1.X (hpf pre) γ1 κ1 W1 C.nt).w0 = W1 := rfl; rw [h9]; omega) ?_
      rintro ⟨i, hi, hgi⟩
      obtain ⟨h3, h4⟩ := h1.own i b hi hgi
      rcases h4 with h4 | h4
      · rw [e3] at h4
        omega
      · exact hnb (e5 b h3 h4)
    · intro b vs t z hb htn
      refine (h2.old b (Array.getElem?_eq_some_iff.1 hb).1 ?_).trans hb
      rintro ⟨i, hi, hgi⟩
      have hbi : (hpf pre)[i]? = some (hpf pre)[i] := List.getElem?_eq_getElem hi
      rcases (h1.blk i _ hbi).mem with ⟨h3, _⟩ | ⟨g', ys, sp, h3, h4, _⟩
      · have h3 : γ1 i = none := h3
        rw [hgi] at h3; cases h3
      · have h3 : γ1 i = some g' := h3
        rw [hgi] at h3; cases h3
        have h4 : W1.heap[b]? = _ := h4
        rw [hb] at h4
        cases h4
        exact htn (hty pre _ (List.getElem_mem hi))
    · rw [← e1] at hcut
      exact h1.roundEnd hcut
  refine wpIn_rangeFunc_P (F := fro none) (n := n + 2) (Pk := parked γ k s.hp.length) ?_ rfl (by omega) (gf := gf) (lb := lb.toArray) hev trivial hit.1 hseq (fun h k => h.trans k)
    (fun W1 l o1 o2 hl h1 h2 h3 => ⟨(grownBy_putObj' W1 l o2).size, fun b hb _ => World.putObj_heap_other (by omega), fun b vs t z hb _ => (World.putObj_heap_other (fun e => by subst e; rw [hb] at h1; cases h1; cases h2)).trans hb⟩) (fun _ => rfl)
    (fun pre W1 => go pre ∧ ∃ γ1 κ1, Conc C1 ⟨env0, hpf pre⟩ γ1 κ1 ⟨a.tmps, []⟩ W1 ∧ ∀ D ∈ Ds, W1.heap[D]? = some (.deferred (some [])))
    (fun pre W1 => stop pre ∧ ∃ γ1 κ1, Conc C1 ⟨env0, hps pre⟩ γ1 κ1 ⟨a.tmps, []⟩ W1 ∧ ∀ D ∈ Ds, W1.heap[D]? = some (.deferred (some []))) ?_ ?_ ?_ ⟨h0, γ, κ, hP1, fun D hD => (hm.mem D hD).2⟩
    (fun x => ({ tmps := a.tmps.setIfInBounds p (.int .i64 x), defers := [] } : Act).put (some d) (.int .i64 x)) ?_ ?_ ?_ ?_
  · intro b hb
    have := hP1.xlt b (e4 b hb).1
    rw [e3] at this
    exact this
  · rintro pre W1 W2 row ⟨hgo, γ1, κ1, h1, hD⟩ hgr hrow
    refine ⟨hgo, γ1, κ1, h1.turned (hnm pre) (by rw [e3]; exact Nat.le_refl _) hgr hrow, fun D hDm => ?_⟩
    have h2 := hD D hDm
    refine (hgr.block D (Array.getElem?_eq_some_iff.1 h2).1 ?_).trans h2
    intro e
    have h3 := (hrow D e.symm).1
    have h4 := (Array.getElem?_eq_some_iff.1 (hm.mem D hDm).2).1
    omega
  · rintro pre W1 W2 row ⟨hgo, γ1, κ1, h1, hD⟩ hgr hrow
    refine ⟨hgo, γ1, κ1, h1.turned (hnx pre) (by rw [e3]; exact Nat.le_refl _) hgr hrow, fun D hDm => ?_⟩
    have h2 := hD D hDm
    refine (hgr.block D (Array.getElem?_eq_some_iff.1 h2).1 ?_).trans h2
    intro e
    have h3 := (hrow D e.symm).1
    have h4 := (Array.getElem?_eq_some_iff.1 (hm.mem D hDm).2).1
    omega
  · rintro pre A B ⟨hgo, γ1, κ1, h1, hD⟩ hps
    refine ⟨hgo, γ1, κ1, h1.pk hps e4, fun D hDm => ?_⟩
    refine (hps.same D fun hpk => ?_).trans (hD D hDm)
    obtain ⟨i, _, h2, h3⟩ := hpk
    obtain ⟨o, h4, h5⟩ := hC.ownCells (g := D) ⟨i, h2, h3⟩
    rw [(hm.mem D hDm).2] at h4
    cases h4
    cases h5
  · intro l x W1 K hK
    refine round_assign ho hod hog (fun _ => trivial) ?_
    have hsz : p < a.tmps.size := by omega
    have e : ({ tmps := a.tmps.setIfInBounds p (.int .i64 x), defers := [] } : Act).eval (.tmp p) = .int .i64 x := by
      show (a.tmps.setIfInBounds p (.int .i64 x)).getD p undef = _
      rw [Array.getD_eq_getD_getElem?, Array.getElem?_setIfInBounds_self_of_lt hsz]
      rfl
    have e2 : ({ tmps := ((#[p] : Array Tmp).zip #[Value.int .i64 x]).foldl (fun t (q, v) => t.setIfInBounds q v) a.tmps, defers := [] } : Act) = { tmps := a.tmps.setIfInBounds p (.int .i64 x), defers := [] } := by simp
    rw [e2, e]
    exact hK
  · rintro l pre x W1 ⟨hgo, γ1, κ1, h1, hD1⟩ hlt
    have hszp : p < a.tmps.size := by omega
    have hszd : d < a.tmps.size := by omega
    have hG : Conc (cxG C.P C1.X (hpf pre) γ1 κ1 W1 C.nt) ⟨(d, .imm (.int .i64 x)) :: (p, .imm (.int .i64 x)) :: env0, hpf pre⟩ γ1 κ1 (clr (({ tmps := a.tmps.setIfInBounds p (.int .i64 x), defers := [] } : Act).put (some d) (.int .i64 x))) W1 := by
      refine ⟨?_, rfl, ?_, h1.blk, h1.inj, fun i g hi hg => ⟨(h1.own i g hi hg).1, .inr ⟨i, hi, hg⟩⟩, fun b hb => Nat.lt_of_lt_of_le (h1.xlt b hb) h1.hsize, fun _ _ _ => rfl, rfl, rfl, rfl, Nat.le_refl _, fun i b0 hb => ⟨b0, hb, rfl, Nat.le_refl _, fun _ => ⟨rfl, rfl⟩⟩⟩
      · show ((a.tmps.setIfInBounds p _).setIfInBounds d _).size = C.nt
        simp only [Array.size_setIfInBounds]
        exact hsz
      · intro t v hv
        show ∃ y, ((a.tmps.setIfInBounds p (.int .i64 x)).setIfInBounds d (.int .i64 x))[t]? = some y ∧ _
        simp only [get] at hv
        by_cases hdt : d = t
        · subst hdt
          rw [show Nat.beq d d = true from Nat.beq_refl d] at hv
          obtain rfl := Option.some.inj hv
          exact ⟨_, Array.getElem?_setIfInBounds_self_of_lt (by simpa using hszd), .imm _ _ (.int _ _)⟩
        · rw [show Nat.beq d t = false by rw [← Bool.not_eq_true, Nat.beq_eq]; exact hdt] at hv
          rw [Array.getElem?_setIfInBounds_ne hdt]
          by_cases hpt : p = t
          · subst hpt
            rw [show Nat.beq p p = true from Nat.beq_refl p] at hv
            obtain rfl := Option.some.inj hv
            exact ⟨_, Array.getElem?_setIfInBounds_self_of_lt hszp, .imm _ _ (.int _ _)⟩
          · rw [show Nat.beq p t = false by rw [← Bool.not_eq_true, Nat.beq_eq]; exact hpt] at hv
            rw [Array.getElem?_setIfInBounds_ne hpt]
            exact h1.env t v hv
    have hmk : MkOK (cxG C.P C1.X (hpf pre) γ1 κ1 W1 C.nt) W1 [] := ⟨List.nodup_nil, by simp⟩
    refine wpIn_mono (hbody pre x hlt hgo l W1 C1.X γ1 κ1 (n + 2 - 1 - 1) γ1 κ1 _ W1 [] hG rfl hmk) ?_
    rintro e a' W' ⟨s', γ', κ', Ds', h2, _, _, hRX⟩
    cases e with
    | normal =>
      obtain ⟨hgo', hr⟩ := hRX
      obtain ⟨h3, h4, h5⟩ := rnd _ pre x W1 γ1 κ1 W' s' γ' κ' _ h1 hD1 h2 hr
      exact ⟨h3, h4, hgo', h5⟩
    | ret =>
      obtain ⟨hst, hr⟩ := hRX
      obtain ⟨h3, h4, h5⟩ := rnd _ pre x W1 γ1 κ1 W' s' γ' κ' _ h1 hD1 h2 hr
      exact ⟨h3, hst, h5⟩
    | _ => exact hRX.elim
  · rintro D xs' W1 hDB rfl ⟨hgo, γ1, κ1, h1, hD1⟩ hWD
    rw [hC1] at h1
    refine ⟨⟨env0, hpf xs'⟩, γ1, κ1, D :: Ds, Conc.unpark (a := clr a) hC h1, by show _ :: a.defers = _; rw [ha]; rfl, ⟨?_, ?_⟩, h hgo⟩
    · rw [List.nodup_cons]
      refine ⟨fun hmem => ?_, hm.nodup⟩
      have := (Array.getElem?_eq_some_iff.1 (hm.mem D hmem).2).1
      omega
    · intro D' hD'
      rcases List.mem_cons.1 hD' with e | e
      · subst e
        exact ⟨Nat.le_trans hC.hsize hDB, hWD⟩
      · exact ⟨(hm.mem D' e).1, hD1 D' e⟩
  · rintro D pre W1 hDB hpre ⟨hst, γ1, κ1, h1, hD1⟩ hWD
    rw [hC1] at h1
    refine wpIn_ret ⟨⟨env0, hps pre⟩, γ1, κ1, D :: Ds, Conc.unpark (a := clr a) hC h1, by show _ :: a.defers = _; rw [ha]; rfl, ⟨?_, ?_⟩, hx pre hpre hst⟩
    · rw [List.nodup_cons]
      refine ⟨fun hmem => ?_, hm.nodup⟩
      have := (Array.getElem?_eq_some_iff.1 (hm.mem D hmem).2).1
      omega
    · intro D' hD'
      rcases List.mem_cons.1 hD' with e | e
      · subst e
        exact ⟨Nat.le_trans hC.hsize hDB, hWD⟩
      · exact ⟨(hm.mem D' e).1, hD1 D' e⟩
end
end Go.Proofs.YtjjdabihnmilgaaGreat.A
namespace Go.Proofs.YtjjdabihnmilgaaGreat.A
open Go.Shelf Go.RowKit
set_option linter.unusedVariables false
set_option linter.unusedSimpArgs false
set_option maxHeartbeats 4000000
set_option maxRecDepth 100000
attribute [local go_sem] Oper.semAt_some
def upL (f : List Node) : Nat → Int → List Int
  | 0, _ => []
  | m + 1, h => if h = 0 then [] else h :: upL f m (nodeAt f h).parent
def UpOK (f : List Node) : Nat → Int → Prop
  | 0, h => h = 0
  | m + 1, h => h = 0 ∨ UpOK f m (nodeAt f h).parent
theorem parent_old (f : List Node) (hl : f.length ≤ 1000000000) (h : Int) (W : World) (N : Nat → Prop) (v : Value) (hv : RepI W N (.sl (f.map Node.iv)) v) :
    Calls Tryz.prog 57 #[.agg #[v], .int .i64 h] W fun e W' => ∃ (a0 a1 a2 a3 a4 a5 a6 a7 a9 a10 a11 a12 a13 a14 a15 : Value), e = .returned (.agg #[a0, a1, a2, a3, a4, a5, a6, a7, .int .i64 (nodeAt f h).parent, a9, a10, a11, a12, a13, a14, a15]) ∧ Below W.heap.size W W' := by
  refine (at_old f hl h W N v hv).mono ?_
  rintro e W' ⟨xs, rfl, hb, hr⟩
  unfold Node.iv at hr
  obtain ⟨_, _, rfl, q0, hr⟩ := hr.uncons
  obtain ⟨_, _, rfl, q1, hr⟩ := hr.uncons
  obtain ⟨_, _, rfl, q2, hr⟩ := hr.uncons
  obtain ⟨_, _, rfl, q3, hr⟩ := hr.uncons
  obtain ⟨_, _, rfl, q4, hr⟩ := hr.uncons
  obtain ⟨_, _, rfl, q5, hr⟩ := hr.uncons
  obtain ⟨_, _, rfl, q6, hr⟩ := hr.uncons
  obtain ⟨_, _, rfl, q7, hr⟩ := hr.uncons
  obtain ⟨_, _, rfl, q8, hr⟩ := hr.uncons
  obtain ⟨_, _, rfl, q9, hr⟩ := hr.uncons
  obtain ⟨_, _, rfl, q10, hr⟩ := hr.uncons
  obtain ⟨_, _, rfl, q11, hr⟩ := hr.uncons
  obtain ⟨_, _, rfl, q12, hr⟩ := hr.uncons
  obtain ⟨_, _, rfl, q13, hr⟩ := hr.uncons
  obtain ⟨_, _, rfl, q14, hr⟩ := hr.uncons
  obtain ⟨_, _, rfl, q15, hr⟩ := hr.uncons
  cases hr
  obtain rfl := q8.int_inv
  exact ⟨_, _, _, _, _, _, _, _, _, _, _, _, _, _, _, rfl, hb⟩
theorem field6 (a0 a1 a2 a3 a4 a5 a6 a7 x a9 a10 a11 a12 a13 a14 a15 : Value) (W : World) : (Instr.field 81 (.agg #[a0, a1, a2, a3, a4, a5, a6, a7, x, a9, a10, a11, a12, a13, a14, a15]) 6).run Tryz.prog W = .ok x W := by
  obtain ⟨fs, fd, h1, h2, h3, h4, h5⟩ := tk81.fld (f := 6) rfl (show ti81.flds[6]? = some (8, 1, false) from rfl)
  exact field_run h1 h2 (part_one (h5 W) [a0, a1, a2, a3, a4, a5, a6, a7, x, a9, a10, a11, a12, a13, a14, a15] _ (by rw [h3]; rfl))
/-- What a box holds. -/
def Bx (W : World) (g : Nat) (t : TypeId) (v : Value) : Prop := ∃ c, W.heap[g]? = some (.cells c t (0, 0)) ∧ c[0]? = some v
theorem Bx.cell {W : World} {g : Nat} {t : TypeId} {v : Value} (h : Bx W g t v) : W.cell? ⟨g, 0, none⟩ = some v := by
  obtain ⟨c, h1, h2⟩ := h
  rw [blk_cell h1]
  exact h2
theorem Bx.free {W : World} {g : Nat} {t : TypeId} {v : Value} (h : Bx W g t v) : W.frozen? ⟨g, 0, none⟩ = false := by
  obtain ⟨c, h1, h2⟩ := h
  simp [World.frozen?, h1]
theorem Bx.keep {W W' : World} {g : Nat} {t : TypeId} {v : Value} (h : Bx W g t v) (e : W'.heap[g]? = W.heap[g]?) : Bx W' g t v := by
  obtain ⟨c, h1, h2⟩ := h
  exact ⟨c, e.trans h1, h2⟩
theorem setCell_other (W : World) (g b : Nat) (v : Value) (h : b ≠ g) : (W.setCell ⟨g, 0, none⟩ v).heap[b]? = W.heap[b]? := by
  unfold World.setCell
  simp only [Array.getElem?_modify]
  rw [if_neg (by omega)]
theorem Bx.set {W : World} {g : Nat} {t : TypeId} {v : Value} (h : Bx W g t v) (u : Value) : Bx (W.setCell ⟨g, 0, none⟩ u) g t u := by
  obtain ⟨c, h1, h2⟩ := h
  refine ⟨c.setIfInBounds 0 u, ?_, ?_⟩
  · unfold World.setCell
    simp only [Array.getElem?_modify]
    simp only [if_true, h1]
    rfl
  · rw [Array.getElem?_setIfInBounds_self_of_lt (Array.getElem?_eq_some_iff.1 h2).1]
theorem PkStep.setCell {Pk : Nat → Prop} {g : Nat} (hg : Pk g) (W : World) (v : Value) : PkStep Pk W (W.setCell ⟨g, 0, none⟩ v) :=
  ⟨rfl, rfl, rfl, by unfold World.setCell; simp, fun b hb => setCell_other W g b v (fun e => hb (e ▸ hg))⟩
theorem UpOK.mono {f : List Node} : ∀ {m m' : Nat} {h : Int}, m ≤ m' → UpOK f m h → UpOK f m' h
  | 0, 0, _, _, H => H
  | 0, m' + 1, _, _, H => .inl H
  | m + 1, 0, _, hle, _ => absurd hle (by omega)
  | m + 1, m' + 1, _, hle, H => H.imp id fun H => UpOK.mono (by omega) H
theorem upL_zero (f : List Node) : ∀ m, upL f m 0 = []
  | 0 => rfl
  | m + 1 => by unfold upL; rw [if_pos rfl]
theorem upL_mono {f : List Node} : ∀ {m m' : Nat} {h : Int}, m ≤ m' → UpOK f m h → upL f m' h = upL f m h
  | 0, m', _, _, H => by
    have H : _ = (0 : Int) := H
    rw [H, upL_zero, upL_zero]
  | m + 1, 0, _, hle, _ => absurd hle (by omega)
  | m + 1, m' + 1, h, hle, H => by
    unfold upL
    by_cases e : h = 0
    · rw [if_pos e, if_pos e]
    · rw [if_neg e, if_neg e, upL_mono (by omega) (H.resolve_left e)]
theorem upL_step {f : List Node} {m : Nat} {h : Int} (H : UpOK f m h) (h0 : h ≠ 0) : upL f m h = h :: upL f m (nodeAt f h).parent ∧ UpOK f m (nodeAt f h).parent := by
  cases m with
  | zero => exact absurd H h0
  | succ m =>
    have Hp := H.resolve_left h0
    refine ⟨?_, Hp.mono (Nat.le_succ m)⟩
    rw [upL_mono (Nat.le_succ m) Hp]
    show (if h = 0 then [] else _) = _
    rw [if_neg h0]
def muU (f : List Node) (m : Nat) (g1 : Nat) (W : World) : Nat := match W.cell? ⟨g1, 0, none⟩ with | some (.int _ i) => (upL f m i).length | _ => 0
theorem muU_eq {f : List Node} {m g1 : Nat} {W : World} {h : Int} (hb : Bx W g1 3 (.int .i64 h)) : muU f m g1 W = (upL f m h).length := by unfold muU; rw [hb.cell]
theorem upw_in {f : List Node} (hl : f.length ≤ 1000000000) {tys : List TypeId} (B0 : Nat) (M N : Nat → Prop) (hN : ∀ b, ¬ N b → b < B0 ∧ ¬ M b) (g0 g1 : Nat) (hg0 : g0 < B0 ∧ ¬ M g0) (hg1 : g1 < B0 ∧ ¬ M g1) (hne : g0 ≠ g1) (Pk : Nat → Prop) (hpk : Pk g1) (hNk : N g1) (l NN B1 : Nat) (J Jx : List Int → World → Prop) (hJ : AbidesFrom B1 J) (hJp : ∀ s A B, J s A → PkStep Pk A B → J s B)
    (hY : ∀ pre x W, J pre W → pre.length < NN → YieldAt Fence.wide 0 Tryz.prog l #[.int .i64 x] W fun e W' => (e = .returned (.bool true) ∧ J (pre ++ [x]) W' ∧ KpM tys B0 M W W') ∨ (e = .returned (.bool false) ∧ Jx (pre ++ [x]) W'))
    (v : Value) (n m : Nat) (h : Int) (W : World) (hB0 : B0 ≤ W.heap.size) (hb0 : Bx W g0 24 v) (hb1 : Bx W g1 3 (.int .i64 h)) (hv : RepI W N (.sl (f.map Node.iv)) v) (hJ0 : J [] W) (hH : UpOK f m h) (hlen : (upL f m h).length ≤ NN) :
    CallsIn Fence.wide n Tryz.prog 171 #[.func (.yield l) #[] #[], .pointer (some ⟨g1, 0, none⟩), .pointer (some ⟨g0, 0, none⟩)] W fun e W' => (∃ v, e = .returned v) ∧ ((∃ xs, xs = upL f m h ∧ J xs W') ∨ ∃ q, q <+: upL f m h ∧ Jx q W') := by
  have hdd : ∀ k : Nat, (Fence.wide.depth.isSome = true → 1 ≤ k) := fun k h => by simp [Fence.wide] at h
  have hfd := field6
  refine callsIn_of_wp Tryz.func171 rfl trivial ?_ rfl
  simp only [Tryz.ntmps171, List.size_toArray, List.length_cons, List.length_nil, Nat.reduceAdd, Nat.reduceSub, Array.replicate_succ, Array.replicate_zero, List.push_toArray, List.append_toArray, List.nil_append, List.cons_append]
  gi_wp2
  refine wpIn_loop (fun a W' => ∃ (h' : Int) (pre : List Int) (x4 x5 x6 x7 x8 x9 x10 x11 x12 x13 : Value), a = { tmps := #[Value.func (Fn.yield l) #[] #[], Value.pointer (some { block := g1, off := 0 }), Value.pointer (some { block := g0, off := 0 }), undef, x4, x5, x6, x7, x8, x9, x10, x11, x12, x13], defers := [] } ∧
      UpOK f m h' ∧ pre ++ upL f m h' = upL f m h ∧ J pre W' ∧ Bx W' g0 24 v ∧ Bx W' g1 3 (.int .i64 h') ∧ RepI W' N (.sl (f.map Node.iv)) v ∧ B0 ≤ W'.heap.size)
    (fun _ W' => muU f m g1 W') ⟨h, [], _, _, _, _, _, _, _, _, _, _, rfl, hH, rfl, hJ0, hb0, hb1, hv, hB0⟩ ?_
  rintro a W1 ⟨h', pre, x4, x5, x6, x7, x8, x9, x10, x11, x12, x13, rfl, hH1, hpre, hJ1, hb01, hb11, hv1, hB1⟩
  have hc1 := hb11.cell
  by_cases hz : h' = 0
  · subst hz
    gi_wp2
    go_end0
    refine ⟨⟨_, rfl⟩, .inl ⟨_, rfl, ?_⟩⟩
    rw [← hpre, upL_zero, List.append_nil]
    exact hJ1
  · obtain ⟨p, hp⟩ : ∃ p, p = (nodeAt f h').parent := ⟨_, rfl⟩
    obtain ⟨hst, hHp⟩ := upL_step hH1 hz
    rw [← hp] at hst hHp
    have hlt : pre.length < NN := by
      have := congrArg List.length hpre
      rw [hst] at this
      simp only [List.length_append, List.length_cons] at this
      omega
    have hy := yieldAny (m' := n - 1) rfl (hY pre h' W1 hJ1 hlt)
    have hy1 := hy.mono (R' := fun e W2 => (e = .returned (.bool true) ∧ W2.cell? ⟨g0, 0, none⟩ = some v ∧ W2.cell? ⟨g1, 0, none⟩ = some (.int .i64 h') ∧ CallsIn Fence.wide (n - 1) Tryz.prog 57 #[.agg #[v], .int .i64 h'] W2 fun e W3 =>
        ∃ (a0 a1 a2 a3 a4 a5 a6 a7 a9 a10 a11 a12 a13 a14 a15 : Value), e = .returned (.agg #[a0, a1, a2, a3, a4, a5, a6, a7, .int .i64 p, a9, a10, a11, a12, a13, a14, a15]) ∧ W3.cell? ⟨g1, 0, none⟩ = some (.int .i64 h') ∧ W3.frozen? ⟨g1, 0, none⟩ = false ∧ J (pre ++ [h']) W3 ∧ Bx W3 g0 24 v ∧ Bx W3 g1 3 (.int .i64 h') ∧ RepI W3 N (.sl (f.map Node.iv)) v ∧ B0 ≤ W3.heap.size) ∨ (e = .returned (.bool false) ∧ Jx (pre ++ [h']) W2)) (by
      rintro e W2 (⟨rfl, hj, hk⟩ | ⟨rfl, hx⟩)
      · have k0 := hb01.keep (hk.same g0 hg0.1 hg0.2)
        have k1 := hb11.keep (hk.same g1 hg1.1 hg1.2)
        have hv2 := hv1.kpm hN hk
        refine .inl ⟨rfl, k0.cell, k1.cell, ?_⟩
        refine ((callsIn_wide (n := n - 1)).2 (parent_old f hl h' W2 N v hv2)).mono ?_
        rintro e W3 ⟨a0, a1, a2, a3, a4, a5, a6, a7, a9, a10, a11, a12, a13, a14, a15, rfl, hb⟩
        have hk3 : KpM tys B0 M W2 W3 := KpM.below hb (Nat.le_trans hB1 hk.size)
        have e0 := k0.keep (hk3.same g0 hg0.1 hg0.2)
        have e1 := k1.keep (hk3.same g1 hg1.1 hg1.2)
        exact ⟨a0, a1, a2, a3, a4, a5, a6, a7, a9, a10, a11, a12, a13, a14, a15, by rw [hp], e1.cell, e1.free, abides_below hJ hj hb, e0, e1, hv2.kpm hN hk3, Nat.le_trans hB1 (hk.trans hk3).size⟩
      · exact .inr ⟨rfl, hx⟩)
    clear hy
    obtain ⟨fn, tmps, assign, body, hyr, hR⟩ := hy1
    gi_wp2_with (first
      | ((try refine ⟨hdd _, ?_⟩); refine hR.mono ?_; clear hR; rintro e W2 (⟨rfl, hc2, hd2, hat⟩ | ⟨rfl, hx2⟩))
      | ((try refine ⟨trivial, hdd _, ?_⟩); gi_at_call 57; refine hat.mono ?_; clear hat; rintro e W3 ⟨a0, a1, a2, a3, a4, a5, a6, a7, a9, a10, a11, a12, a13, a14, a15, rfl, hc3, hf3, hJ3, e03, e13, hv3, hB3⟩))
    · subst hp
      refine ⟨⟨_, pre ++ [h'], _, _, _, _, _, _, _, _, _, _, rfl, hHp, ?_, hJp _ _ _ hJ3 (PkStep.setCell hpk W3 _), e03.keep (setCell_other _ _ _ _ hne), e13.set _, hv3.keep fun b hb _ => ⟨setCell_other _ _ _ _ (fun e => hb (e ▸ hNk)), hb⟩, ?_⟩, ?_⟩
      · rw [← hpre, hst]; simp
      · rw [(PkStep.setCell hpk W3 (.int .i64 (nodeAt f h').parent)).size]; exact hB3
      · have e1 := muU_eq (f := f) (m := m) (e13.set (.int .i64 (nodeAt f h').parent))
        have e2 := muU_eq (f := f) (m := m) hb11
        rw [e2, hst]
        refine Nat.lt_of_le_of_lt (Nat.le_of_eq e1) ?_
        simp
    · refine ⟨rfl, _, results_none rfl _ _ _, ⟨_, rfl⟩, .inr ⟨pre ++ [h'], ?_, hx2⟩⟩
      rw [← hpre, hst]
      exact ⟨upL f m p, by simp⟩
end Go.Proofs.YtjjdabihnmilgaaGreat.A
namespace Go.Proofs.YtjjdabihnmilgaaGreat.A
open Go.Shelf Go.RowKit
set_option linter.unusedVariables false
set_option linter.unusedSimpArgs false
set_option maxHeartbeats 4000000
set_option maxRecDepth 100000
attribute [local go_sem] Oper.semAt_some
theorem RepA.im_val {M : Mm} {v : IV} {x : Value} (h : RepA M (.imm v) x) : RepI M.W M.N v x := by
  cases h with | imm _ _ h => exact h
theorem iterUp {f : List Node} (hl : f.length ≤ 1000000000) {tys : List TypeId} (hp : List Blk) (m : Nat) (h : Int) (hH : UpOK f m h) :
    IterP Tryz.prog tys 171 hp [⟨24, 1, [[.imm (.sl (f.map Node.iv))]]⟩, ⟨3, 1, [[iav h]]⟩] [.ptr (hp.length + 1) 1 0 0, .ptr hp.length 1 0 0] (upL f m h) := by
  refine ⟨enters_of Tryz.func171 (by kernel_rfl) rfl, ?_⟩
  intro n W X γ κ lb hC hlb
  obtain ⟨x1, _, rfl, q1, hlb⟩ := hlb.uncons
  obtain ⟨x2, _, rfl, q2, hlb⟩ := hlb.uncons
  cases hlb
  have b0 := hC.blk hp.length ⟨24, 1, [[.imm (.sl (f.map Node.iv))]]⟩ (by simp)
  have b1 := hC.blk (hp.length + 1) ⟨3, 1, [[iav h]]⟩ (by simp)
  obtain ⟨g0, ys0, sp0, k0, m0, c0, r0⟩ := b0.mem.resolve_left (fun e => by have := e.2.1; simp at this)
  obtain ⟨g1, ys1, sp1, k1, m1, c1, r1⟩ := b1.mem.resolve_left (fun e => by have := e.2.1; simp at this)
  change γ hp.length = some g0 at k0
  change γ (hp.length + 1) = some g1 at k1
  change W.heap[g0]? = some (.cells (ys0 ++ sp0).toArray 24 (0, 0)) at m0
  change W.heap[g1]? = some (.cells (ys1 ++ sp1).toArray 3 (0, 0)) at m1
  simp only [List.flatten_cons, List.flatten_nil, List.append_nil] at r0 r1
  obtain ⟨v, _, rfl, s0, e0⟩ := r0.uncons
  cases e0
  obtain ⟨v1, _, rfl, s1, e1⟩ := r1.uncons
  cases e1
  have r0 := s0.im_val
  obtain rfl := s1.im_val.int_inv
  obtain ⟨g1', k1', rfl⟩ := q1.ptr_val (b := ⟨3, 1, [[iav h]]⟩) (by show (hp ++ _)[hp.length + 1]? = _; simp) rfl
  obtain rfl : g1 = g1' := Option.some.inj (k1.symm.trans k1')
  obtain ⟨g0', k0', rfl⟩ := q2.ptr_val (b := ⟨24, 1, [[.imm (.sl (f.map Node.iv))]]⟩) (by show (hp ++ _)[hp.length]? = _; simp) rfl
  obtain rfl : g0 = g0' := Option.some.inj (k0.symm.trans k0')
  intro l J Jx W1 hbel hJ hJp hJx hY h0
  have hl0 := (Array.getElem?_eq_some_iff.1 m0).1
  have hl1 := (Array.getElem?_eq_some_iff.1 m1).1
  have hne : g0 ≠ g1 := fun e => by
    have := hC.inj hp.length (hp.length + 1) g0 (by simp) (by simp) k0 (e ▸ k1)
    omega
  have hv : RepI W1 (fun b => W.heap.size ≤ b ∨ nset X γ (hp.length + 2) b) (.sl (f.map Node.iv)) v := by
    refine r0.keep fun b hb ⟨o, ho⟩ => ?_
    have hlt := (Array.getElem?_eq_some_iff.1 ho).1
    refine ⟨hbel.block b hlt, ?_⟩
    rintro (h1 | h1)
    · have hlt' : b < W.heap.size := hlt
      omega
    · exact hb (by show nset X γ (hp ++ _).length b; simpa using h1)
  have hx0 : Bx W1 g0 24 v := ⟨_, (hbel.block g0 hl0).trans m0, by simp⟩
  have hx1 : Bx W1 g1 3 (.int .i64 h) := ⟨_, (hbel.block g1 hl1).trans m1, by simp⟩
  refine upw_in hl (tys := tys) W.heap.size (ownOf ⟨[], hp⟩ γ) (fun b => W.heap.size ≤ b ∨ nset X γ (hp.length + 2) b) (fun b hb => ⟨by
      apply Classical.byContradiction
      intro hx
      exact hb (.inl (by omega)), fun ⟨i, hi, hg⟩ => hb (.inr (.inr ⟨i, by have hi : i < hp.length := hi; omega, hg⟩))⟩) g0 g1 ⟨hl0, fun ⟨i, hi, hg⟩ => by
        have hi : i < hp.length := hi
        have := hC.inj i hp.length g0 (by simp; omega) (by simp) hg k0
        omega⟩ ⟨hl1, fun ⟨i, hi, hg⟩ => by
        have hi : i < hp.length := hi
        have := hC.inj i (hp.length + 1) g1 (by simp; omega) (by simp) hg k1
        omega⟩ hne (parked γ hp.length (hp ++ ([⟨24, 1, [[.imm (.sl (f.map Node.iv))]]⟩, ⟨3, 1, [[iav h]]⟩] : List Blk)).length) ⟨hp.length + 1, by omega, by simp, k1⟩ (.inr (.inr ⟨hp.length + 1, by omega, k1⟩)) l (upL f m h).length W1.heap.size J Jx hJ hJp
    (fun pre x W2 hj hlt => yieldAny rfl 0 (hY pre x W2 hj hlt)) v n m h W1 hbel.size hx0 hx1 hv h0 hH (Nat.le_refl _)
end Go.Proofs.YtjjdabihnmilgaaGreat.A
namespace Go.Proofs.YtjjdabihnmilgaaGreat.A
open Go.Shelf Go.RowKit
set_option linter.unusedVariables false
set_option linter.unusedSimpArgs false
set_option maxHeartbeats 4000000
set_option maxRecDepth 100000
attribute [local go_sem] Oper.semAt_some
theorem RepA.pin1 {M : Mm} {v : IV} {x : Value} (h : RepA M (.pin [v]) x) : ∃ (ad : Addr) (y : Value), x = .pointer (some ad) ∧ ¬ M.N ad.block ∧ M.W.cell? ad = some y ∧ RepI M.W M.N v y := by
  cases h with
  | pin _ ad ys h0 hb hy h =>
    obtain ⟨y, zs, rfl, h1, h2⟩ := h.uncons
    refine ⟨ad, y, rfl, hb, ?_, h1⟩
    exact hy 0 y rfl
theorem callW_in {f : List Node} (hl : f.length ≤ 1000000000) (l : Nat) (h : Int) (n : Nat) (W : World) (ad1 ad2 : Addr) (v : Value) (hc1 : W.cell? ad1 = some v) (hc2 : W.cell? ad2 = some (.int .i64 h)) {R : Ending → World → Prop}
    (hcall : CallsIn Fence.wide (n - 1) Tryz.prog 175 #[.agg #[v], .int .i64 h, .func (.yield l) #[] #[]] W fun e W' => (e = .returned (.bool true) ∨ e = .returned (.bool false)) ∧ R (.returned (.tuple #[])) W') :
    CallsIn Fence.wide n Tryz.prog 174 #[.func (.yield l) #[] #[], .pointer (some ad1), .pointer (some ad2)] W fun e W' => (∃ v, e = .returned v) ∧ R (.returned (.tuple #[])) W' := by
  have hdd : ∀ k : Nat, (Fence.wide.depth.isSome = true → 1 ≤ k) := fun k h => by simp [Fence.wide] at h
  refine callsIn_of_wp Tryz.func174 rfl trivial ?_ rfl
  simp only [Tryz.ntmps174, List.size_toArray, List.length_cons, List.length_nil, Nat.reduceAdd, Nat.reduceSub, Array.replicate_succ, Array.replicate_zero, List.push_toArray, List.append_toArray, List.nil_append, List.cons_append]
  gi_wp2_with ((try refine ⟨trivial, hdd _, ?_⟩); gi_at_call 175; refine hcall.mono ?_; clear hcall; rintro e W1 ⟨(rfl | rfl), hR⟩)
  · go_end0
    exact ⟨⟨_, rfl⟩, hR⟩
  · go_end0
    exact ⟨⟨_, rfl⟩, hR⟩
theorem iterW {f : List Node} (hl : f.length ≤ 1000000000) (hkl : ∀ h, (nodeAt f h).kids.length ≤ 1000000000) {tys : List TypeId} (h24 : 24 ∉ tys) (hp : List Blk) (m : Nat) (h : Int) (hH : Hgt f m h) : IterC Tryz.prog tys 174 hp [.pin [.sl (f.map Node.iv)], .pin [.int .i64 h]] (withinL f m h) := by
  refine ⟨enters_of Tryz.func174 (by kernel_rfl) rfl, ?_⟩
  intro n W X γ κ lb hC hlb
  obtain ⟨x1, _, rfl, q1, hlb⟩ := hlb.uncons
  obtain ⟨x2, _, rfl, q2, hlb⟩ := hlb.uncons
  cases hlb
  obtain ⟨ad1, v, rfl, n1, c1, r1⟩ := q1.pin1
  obtain ⟨ad2, w, rfl, n2, c2, r2⟩ := q2.pin1
  obtain rfl := r2.int_inv
  intro l J Jx W1 hbel hJ hJx hY h0
  obtain ⟨o1, ho1⟩ := cell_block c1
  obtain ⟨o2, ho2⟩ := cell_block c2
  have hc1 : W1.cell? ad1 = some v := (hbel.cell (p := ad1) (Array.getElem?_eq_some_iff.1 ho1).1).trans c1
  have hc2 : W1.cell? ad2 = some (.int .i64 h) := (hbel.cell (p := ad2) (Array.getElem?_eq_some_iff.1 ho2).1).trans c2
  have hv : RepI W1 (fun b => W.heap.size ≤ b ∨ nset X γ hp.length b) (.sl (f.map Node.iv)) v := by
    refine r1.keep fun b hb ⟨o, ho⟩ => ?_
    have hlt := (Array.getElem?_eq_some_iff.1 ho).1
    refine ⟨hbel.block b hlt, ?_⟩
    rintro (h1 | h1)
    · have hlt' : b < W.heap.size := hlt
      omega
    · exact hb h1
  have hcall := within_in hl hkl h24 W.heap.size (ownOf ⟨[], hp⟩ γ) (fun b => W.heap.size ≤ b ∨ nset X γ hp.length b) (fun b hb => ⟨by
      apply Classical.byContradiction
      intro hx
      exact hb (.inl (by omega)), fun hM => hb (.inr (.inr hM))⟩) l (withinL f m h).length W1.heap.size J Jx hJ
    (fun pre x W2 hj hlt => yieldAny rfl 0 (hY pre x W2 hj hlt)) m h (n - 1) [] W1 v hH hbel.size hv h0 (by simp)
  have := callW_in hl l h n W1 ad1 ad2 v hc1 hc2 (R := fun _ W' => (∃ xs, xs = withinL f m h ∧ J xs W') ∨ (∃ pre, pre <+: withinL f m h ∧ Jx pre W')) (hcall.mono (by
    rintro e W' (⟨rfl, hj, _⟩ | ⟨rfl, q, hq, hx⟩)
    · exact ⟨.inl rfl, .inl ⟨_, rfl, by simpa using hj⟩⟩
    · exact ⟨.inr rfl, .inr ⟨q, hq, by simpa using hx⟩⟩))
  exact this
end Go.Proofs.YtjjdabihnmilgaaGreat.A
namespace Go.Proofs.YtjjdabihnmilgaaGreat.A
open Go.RowKit
set_option linter.unusedVariables false
set_option linter.unusedSimpArgs false
set_option maxRecDepth 100000
set_option maxHeartbeats 4000000
theorem right_dup {f : List Node} (hr : rightP f) {q : Int} (hq : inR f q) : (nodeAt f q).kids.Nodup := (kidsGo_nodup _ _ (right_kidsB hr hq).1).1
theorem Hgt.mono {f : List Node} : ∀ {m m' : Nat} {h : Int}, m ≤ m' → Hgt f m h → Hgt f m' h
  | 0, _, _, _, hH => hH.elim
  | m + 1, 0, _, hle, _ => absurd hle (by omega)
  | m + 1, m' + 1, h, hle, hH => fun k hk => Hgt.mono (by omega) (hH k hk)
theorem hgt_ex {f : List Node} (hr : rightP f) : ∀ a : Int, ∃ m, Hgt f m a := by
  refine right_ind hr _ fun a ih => ?_
  have : ∀ l : List Int, (∀ k ∈ l, ∃ m, Hgt f m k) → ∃ m, ∀ k ∈ l, Hgt f m k := by
    intro l
    induction l with
    | nil => exact fun _ => ⟨0, fun k hk => by cases hk⟩
    | cons x l ihl =>
      intro h
      obtain ⟨m1, h1⟩ := h x (by simp)
      obtain ⟨m2, h2⟩ := ihl fun k hk => h k (by simp [hk])
      refine ⟨max m1 m2, fun k hk => ?_⟩
      rcases List.mem_cons.1 hk with e | e
      · subst e; exact h1.mono (by omega)
      · exact (h2 k e).mono (by omega)
  obtain ⟨m, hm⟩ := this _ ih
  exact ⟨m + 1, hm⟩
end Go.Proofs.YtjjdabihnmilgaaGreat.A
namespace Go.Proofs.YtjjdabihnmilgaaGreat.A
set_option linter.unusedVariables false
set_option linter.unusedSimpArgs false
set_option maxRecDepth 100000
set_option maxHeartbeats 4000000
def idxGo : List Int → Int → Int → Int
  | [], _, _ => -1
  | y :: l, x, k => if x = y then k else idxGo l x (k + 1)
def idx (l : List Int) (x : Int) : Int := idxGo l x 0
theorem idxGo_lt : ∀ (l : List Int) (x k : Int), 0 ≤ k → -1 ≤ idxGo l x k ∧ idxGo l x k < k + l.length ∨ (l = [] ∧ idxGo l x k = -1)
  | [], _, _, _ => .inr ⟨rfl, rfl⟩
  | y :: l, x, k, hk => by
    refine .inl ?_
    unfold idxGo
    split
    · simp only [List.length_cons]; omega
    · rcases idxGo_lt l x (k + 1) (by omega) with h | ⟨_, h⟩
      · simp only [List.length_cons]; omega
      · rw [h]; simp only [List.length_cons]; omega
theorem idx_lo (l : List Int) (x : Int) : -1 ≤ idx l x := by
  rcases idxGo_lt l x 0 (by omega) with h | ⟨_, h⟩
  · exact h.1
  · unfold idx; rw [h]; omega
theorem idx_hi (l : List Int) (x : Int) : idx l x < l.length ∨ idx l x = -1 := by
  rcases idxGo_lt l x 0 (by omega) with h | ⟨_, h⟩
  · left; have := h.2; unfold idx; omega
  · right; exact h
theorem index_c (l : List Int) (x : Int) (hl : l.length ≤ 1000000000) : PureC Tryz.prog 113 [.imm (.sl (l.map i64)), iav x] (iav (idx l x)) := by
  refine PureC.mk tabs Tryz.func113 19 [.tmp 4] rfl rfl rfl rfl rfl ?_; intro w0 X
  (repeat' (first | ((with_reducible show AL _ _ _ _ _); first | (refine AL.step tabs rfl ?_; try dsimp only [len, List.nil_append, List.cons_append]) | refine AL.nil ?_ | (refine AL.op rfl (OpOK.ari64 rfl rfl rfl rfl rfl (by omega) (by omega)) ?_) | (refine AL.op rfl (OpOK.index_map tabs rfl rfl rfl rfl rfl rfl rfl (fun _ => rfl) (by decide) (by omega) (by omega)) ?_)) | fail | refine AW.seq ?_ | refine AW.region ?_ | refine Then.norm ?_ | refine AW.skip ?_ | refine AW.block ?_ | refine InB.norm ?_ | refine AW.condT rfl ?_ | refine AW.condF rfl ?_ | (refine AW.cond rfl (fun hc => ?_) (fun hc => ?_) <;> (try simp only [hsx] at hc) <;> (try first | (exfalso; omega) | contradiction | (exfalso; simp [dec_eq] at hc; done))) | refine AW.ret ?_ | refine AW.exit ?_ | refine Then.ret ?_ | refine Then.exit ?_ | refine InB.ret ?_ | refine InB.here ?_ | refine InB.off rfl ?_ | refine Rnd.ret ?_ | refine Rnd.exit ?_))
  refine AW.loop (α := Int) (fun i => ⟨[(0, .imm (.sl (l.map i64))), (1, iav x), (7, iav (l.map i64).length), (8, iav i)], []⟩) (fun i => 0 ≤ i ∧ i ≤ l.length ∧ idx l x = idxGo (l.drop i.toNat) x i) (fun i => (l.length - i).toNat) 0 (Le.cut 0 rfl (by repeat' (first | exact trivial | refine ⟨rfl, ?_⟩)) rfl rfl (Nat.zero_le _)) ⟨by omega, by omega, rfl⟩ ?_
  intro i ⟨h0, h1, h2⟩
  (repeat' (first | ((with_reducible show AL _ _ _ _ _); first | (refine AL.step tabs rfl ?_; try dsimp only [len, List.nil_append, List.cons_append]) | refine AL.nil ?_ | (refine AL.op rfl (OpOK.ari64 rfl rfl rfl rfl rfl (by omega) (by omega)) ?_) | (refine AL.op rfl (OpOK.index_map tabs rfl rfl rfl rfl rfl rfl rfl (fun _ => rfl) (by decide) (by omega) (by omega)) ?_)) | refine AW.seq ?_ | refine AW.region ?_ | refine Then.norm ?_ | refine AW.skip ?_ | refine AW.block ?_ | refine InB.norm ?_ | refine AW.condT rfl ?_ | refine AW.condF rfl ?_ | (refine AW.cond rfl (fun hc => ?_) (fun hc => ?_) <;> (try simp only [hsx] at hc) <;> (try first | (exfalso; omega) | contradiction | (exfalso; simp [dec_eq] at hc; done))) | refine AW.ret ?_ | refine AW.exit ?_ | refine Then.ret ?_ | refine Then.exit ?_ | refine InB.ret ?_ | refine InB.here ?_ | refine InB.off rfl ?_ | refine Rnd.ret ?_ | refine Rnd.exit ?_))
  · rw [drop_next h0 (by assumption)] at h2
    unfold idxGo at h2
    rw [if_pos hc] at h2
    rw [h2]
    exact RQ.fin rfl rfl rfl
  · rw [drop_next h0 (by assumption)] at h2
    unfold idxGo at h2
    rw [if_neg hc] at h2
    exact Rnd.norm (i + 1) (Le.cut 0 rfl (by repeat' (first | exact trivial | refine ⟨rfl, ?_⟩)) rfl rfl (Nat.zero_le _)) ⟨by omega, by omega, h2⟩ (by omega)
  · rw [List.drop_eq_nil_of_le (by omega)] at h2
    rw [h2]
    exact RQ.fin rfl rfl rfl
def placeP (f : List Node) (h : Int) : Int := max (idx (nodeAt f (nodeAt f h).parent).kids h) 0
theorem place_c (f : List Node) (h : Int) (hf : Fit f) : PureC Tryz.prog 67 [fav f, iav h] (iav (placeP f h)) := by
  have hl := hf.len
  have c1 := treeAt_c f h hl
  have c2 := treeAt_c f (nodeAt f h).parent hl
  have c3 := index_c (nodeAt f (nodeAt f h).parent).kids h (hf.at _).kids
  refine PureC.mk tabs Tryz.func67 15 [.tmp 4] rfl rfl rfl rfl rfl ?_; intro w0 X
  (repeat' (first | ((with_reducible show AL _ _ _ _ _); first | (refine AL.step tabs rfl ?_; try dsimp only [len, List.nil_append, List.cons_append]) | refine AL.nil ?_) | ((with_reducible show DQ _ _ _ _ _ _); first | refine DQ.stepc (LS.call rfl rfl rfl rfl rfl c1 rfl) rfl rfl rfl rfl rfl ?_ | refine DQ.stepc (LS.call rfl rfl rfl rfl rfl c2 rfl) rfl rfl rfl rfl rfl ?_ | refine DQ.stepc (LS.call rfl rfl rfl rfl rfl c3 rfl) rfl rfl rfl rfl rfl ?_ | refine DQ.stepc (LS.max2 rfl rfl rfl rfl rfl) rfl rfl rfl rfl rfl ?_ | refine DQ.stepc (LS.val tabs rfl rfl rfl) rfl rfl rfl rfl rfl ?_ | refine DQ.stepc (LS.skip rfl rfl) rfl rfl rfl rfl rfl ?_ | refine DQ.nilM (by kernel_rfl) ?_) | refine AW.seq ?_ | refine AW.region ?_ | refine Then.norm ?_ | refine AW.skip ?_ | refine AW.ret ?_ | refine Then.ret ?_ | refine AW.drawW mixed (by kernel_rfl) ?_))
  all_goals first
    | exact RQ.fin rfl rfl rfl
    | (trace_state; sorry)
end Go.Proofs.YtjjdabihnmilgaaGreat.A
namespace Go.Proofs.YtjjdabihnmilgaaGreat.A
open Go.RowKit
set_option linter.unusedVariables false
set_option linter.unusedSimpArgs false
set_option maxRecDepth 100000
set_option maxHeartbeats 4000000
theorem parent_up {f : List Node} (hr : rightP f) {h : Int} (hh : inR f h) (hp : (nodeAt f h).parent ≠ 0) : inR f (nodeAt f h).parent ∧ h ∈ (nodeAt f (nodeAt f h).parent).kids ∧ upN f h = (nodeAt f h).parent := by
  obtain ⟨_, ⟨h1, _⟩, _⟩ := right_node hr hh
  rcases h1 with h1 | ⟨h1, h2⟩
  · exact absurd h1 hp
  · have hin := inB_R.1 h1
    have hm : h ∈ (nodeAt f (nodeAt f h).parent).kids := by
      have h3 : 0 < cntB (nodeAt f (nodeAt f h).parent).kids h := by omega
      obtain ⟨x, hx, he⟩ := List.countP_pos_iff.1 h3
      have : x = h := by simpa using he
      exact this ▸ hx
    exact ⟨hin, hm, (right_kid hr hin hm).2⟩
theorem par_out {f : List Node} {h : Int} (hh : ¬ inR f h) : (nodeAt f h).parent = 0 := by rw [node_out hh]; rfl
theorem up_ex {f : List Node} (hr : rightP f) (h : Int) : ∃ m, UpOK f m h := by
  by_cases hh : inR f h
  · obtain ⟨k, hk⟩ := (right_node hr hh).2.2
    induction k generalizing h with
    | zero => exact absurd hh hk
    | succ k ih =>
      by_cases hp : (nodeAt f h).parent = 0
      · exact ⟨1, .inr hp⟩
      · obtain ⟨h1, _, h3⟩ := parent_up hr hh hp
        obtain ⟨m, hm⟩ := ih _ h1 (h3 ▸ hk)
        exact ⟨m + 1, .inr hm⟩
  · exact ⟨1, .inr (par_out hh)⟩
/-- A node and all above it. -/
noncomputable def ups (f : List Node) (h : Int) : List Int := @dite _ (∃ m, UpOK f m h) (Classical.propDecidable _) (fun e => upL f e.choose h) (fun _ => [])
theorem ups_eq {f : List Node} {m : Nat} {h : Int} (H : UpOK f m h) : ups f h = upL f m h := by
  have e : ∃ m, UpOK f m h := ⟨m, H⟩
  unfold ups
  rw [dif_pos e]
  rcases Nat.le_total e.choose m with h1 | h1
  · exact (upL_mono h1 e.choose_spec).symm
  · exact upL_mono h1 H
theorem ups_zero (f : List Node) : ups f 0 = [] := ups_eq (m := 0) rfl
theorem ups_step {f : List Node} (hr : rightP f) {h : Int} (h0 : h ≠ 0) : ups f h = h :: ups f (nodeAt f h).parent := by
  obtain ⟨m, hm⟩ := up_ex hr (nodeAt f h).parent
  rw [ups_eq hm, ups_eq (m := m + 1) (.inr hm)]
  show (if h = 0 then [] else _) = _
  rw [if_neg h0]
theorem right_dind {f : List Node} (hr : rightP f) (P : Int → Prop) (z : ∀ h, ¬ inR f h → P h) (step : ∀ h, inR f h → P (nodeAt f h).parent → P h) : ∀ h, P h := by
  intro h
  obtain ⟨m, hm⟩ := up_ex hr h
  induction m generalizing h with
  | zero =>
    have hm : h = 0 := hm
    exact z _ (hm ▸ not0)
  | succ m ih =>
    by_cases hh : inR f h
    · exact step h hh (ih _ (hm.resolve_left fun e => not0 (e ▸ hh)))
    · exact z h hh
/-- The topmost node. -/
noncomputable def rootP (f : List Node) (h : Int) : Int := (ups f h).getLastD h
theorem rootP_top {f : List Node} (hr : rightP f) {h : Int} (h0 : h ≠ 0) (hp : (nodeAt f h).parent = 0) : rootP f h = h := by
  unfold rootP
  rw [ups_step hr h0, hp, ups_zero]
  rfl
theorem rootP_up {f : List Node} (hr : rightP f) {h : Int} (h0 : h ≠ 0) (hp : (nodeAt f h).parent ≠ 0) : rootP f h = rootP f (nodeAt f h).parent := by
  unfold rootP
  rw [ups_step hr h0, ups_step hr hp]
  rfl
noncomputable def below1 : List Int → Int → Int → Int
  | [], _, _ => 0
  | x :: l, h, b => if x = h then b else below1 l h x
/-- The kid of h that is, or has within it, another node. -/
noncomputable def belowP (f : List Node) (h i : Int) : Int := below1 (ups f i) h 0
def beh1 : List Int → Int → Int → Bool
  | [], _, _ => false
  | x :: l, a, b => if x = a then false else if x = b then true else beh1 l a b
/-- A node and all within it. -/
noncomputable def wth (f : List Node) (h : Int) : List Int := @dite _ (∃ m, Hgt f m h) (Classical.propDecidable _) (fun e => withinL f e.choose h) (fun _ => [])
theorem withinL_mono {f : List Node} : ∀ {m m' : Nat} {h : Int}, m ≤ m' → Hgt f m h → withinL f m' h = withinL f m h
  | 0, _, _, _, H => H.elim
  | m + 1, 0, _, hle, _ => absurd hle (by omega)
  | m + 1, m' + 1, h, hle, H => by
    unfold withinL
    congr 1
    have : ∀ l : List Int, (∀ k ∈ l, Hgt f m k) → l.flatMap (withinL f m') = l.flatMap (withinL f m) := by
      intro l
      induction l with
      | nil => intro _; rfl
      | cons x l ih =>
        intro hl
        rw [List.flatMap_cons, List.flatMap_cons, ih fun k hk => hl k (by simp [hk]), withinL_mono (by omega) (hl x (by simp))]
    exact this _ H
theorem wth_eq {f : List Node} {m : Nat} {h : Int} (H : Hgt f m h) : wth f h = withinL f m h := by
  have e : ∃ m, Hgt f m h := ⟨m, H⟩
  unfold wth
  rw [dif_pos e]
  rcases Nat.le_total e.choose m with h1 | h1
  · exact (withinL_mono h1 e.choose_spec).symm
  · exact withinL_mono h1 H
theorem wth_self {f : List Node} (hr : rightP f) (h : Int) : h ∈ wth f h := by
  obtain ⟨m, hm⟩ := hgt_ex hr h
  rw [wth_eq hm]
  cases m with
  | zero => exact hm.elim
  | succ m => unfold withinL; exact List.mem_cons_self
theorem wth_kid {f : List Node} (hr : rightP f) {h k x : Int} (hk : k ∈ (nodeAt f h).kids) (hx : x ∈ wth f k) : x ∈ wth f h := by
  obtain ⟨m, hm⟩ := hgt_ex hr h
  cases m with
  | zero => exact hm.elim
  | succ m =>
    rw [wth_eq hm]
    rw [wth_eq (hm k hk)] at hx
    unfold withinL
    exact List.mem_cons_of_mem _ (List.mem_flatMap.2 ⟨k, hk, hx⟩)
theorem wth_root {f : List Node} (hr : rightP f) : ∀ h, ∀ x, inR f h → x ∈ wth f h → x ∈ wth f (rootP f h) := by
  refine right_dind hr _ (fun h hh x hin _ => absurd hin hh) fun h hh ih x _ hx => ?_
  have h0 : h ≠ 0 := fun e => not0 (e ▸ hh)
  by_cases hp : (nodeAt f h).parent = 0
  · rw [rootP_top hr h0 hp]; exact hx
  · obtain ⟨h1, h2, _⟩ := parent_up hr hh hp
    rw [rootP_up hr h0 hp]
    exact ih x h1 (wth_kid hr h2 hx)
/-- Does a stand behind b? -/
noncomputable def behP (f : List Node) (a b : Int) : Bool := beh1 (wth f (rootP f a)) a b
theorem beh1_turn {a b : Int} (hne : a ≠ b) : ∀ l : List Int, (a ∈ l ∨ b ∈ l) → beh1 l b a = !beh1 l a b
  | [], h => by rcases h with h | h <;> cases h
  | x :: l, h => by
    unfold beh1
    by_cases h1 : x = a
    · rw [if_neg (fun e => hne (h1.symm.trans e)), if_pos h1, if_pos h1]; rfl
    · by_cases h2 : x = b
      · rw [if_pos h2, if_neg h1, if_pos h2]; rfl
      · rw [if_neg h2, if_neg h1, if_neg h1, if_neg h2]
        refine beh1_turn hne l ?_
        rcases h with h | h
        · exact .inl ((List.mem_cons.1 h).resolve_left (Ne.symm h1))
        · exact .inr ((List.mem_cons.1 h).resolve_left (Ne.symm h2))
theorem beh_turn {f : List Node} (hr : rightP f) {a b : Int} (ha : inR f a) (hb : inR f b) (hne : a ≠ b) (ho : rootP f a = rootP f b) : behP f b a = !behP f a b := by
  unfold behP
  rw [ho]
  exact beh1_turn hne _ (.inr (wth_root hr b b hb (wth_self hr b)))
structure Bnd where
  n : Int
  o : Int
instance : Inhabited Bnd := ⟨⟨0, 0⟩⟩
noncomputable def posD (f : List Node) (a b : Bnd) : Int := if belowP f a.n b.n ≠ 0 ∧ placeP f (belowP f a.n b.n) < a.o then 1 else -1
/-- A point against another one. -/
noncomputable def posP (f : List Node) (a b : Bnd) : Int :=
  if a.n = b.n ∧ a.o = b.o then 0 else if a.n = b.n ∧ a.o < b.o then -1 else if a.n = b.n then 1 else if behP f a.n b.n = true then - posD f b a else posD f a b
theorem pos_self (f : List Node) (a : Bnd) : posP f a a = 0 := by unfold posP; rw [if_pos ⟨rfl, rfl⟩]
theorem pos_turn {f : List Node} (hr : rightP f) {a b : Bnd} (ha : inR f a.n) (hb : inR f b.n) (ho : rootP f a.n = rootP f b.n) : posP f b a = - posP f a b := by
  unfold posP
  by_cases e : a.n = b.n
  · by_cases e1 : a.o = b.o
    · simp [e, e1]
    · by_cases e2 : a.o < b.o
      · have h3 : ¬ b.o < a.o := by omega
        have h4 : ¬ b.o = a.o := by omega
        simp [e, e1, e2, h3, h4]
      · have h3 : b.o < a.o := by omega
        have h4 : ¬ b.o = a.o := by omega
        simp [e, e1, e2, h3, h4]
  · have e' : ¬ b.n = a.n := fun h => e h.symm
    rw [beh_turn hr ha hb e ho]
    simp only [e, e', false_and, if_false]
    cases behP f a.n b.n with
    | true => simp
    | false => simp
theorem pos_vals (f : List Node) (a b : Bnd) : -1 ≤ posP f a b ∧ posP f a b ≤ 1 := by
  unfold posP posD
  split
  · omega
  split
  · omega
  split
  · omega
  split <;> split <;> omega
/-- How far points go in a node. -/
noncomputable def lenP (f : List Node) (h : Int) : Int := if dec (dataB (nodeAt f h).kind) = true then (nodeAt f h).data.length else (nodeAt f h).kids.length
structure Rng where
  s : Bnd
  e : Bnd
instance : Inhabited Rng := ⟨⟨⟨0, 0⟩, ⟨0, 0⟩⟩⟩
def validP (f : List Node) (r : Rng) : Prop := rootP f r.s.n = rootP f r.e.n ∧ posP f r.s r.e ≤ 0
def ptOK (f : List Node) (b : Bnd) : Prop := inR f b.n ∧ 0 ≤ b.o ∧ b.o ≤ lenP f b.n
/-- A range that is one. -/
def rngOK (f : List Node) (r : Rng) : Prop := ptOK f r.s ∧ ptOK f r.e ∧ validP f r
def both (b : Bnd) : Rng := ⟨b, b⟩
theorem both_ok {f : List Node} {b : Bnd} (h : ptOK f b) : rngOK f (both b) := ⟨h, h, rfl, by show posP f b b ≤ 0; rw [pos_self]; exact Int.le_refl _⟩
end Go.Proofs.YtjjdabihnmilgaaGreat.A
