/- The abstract walk, part R: functions that are lent own blocks of the caller's. -/
import Derived.Test.YteijifoobaoclaaGreatAwQ
namespace Go.Proofs.YteijifoobaoclaaGreat.A
open Go.RowKit
set_option linter.unusedVariables false
set_option linter.unusedSimpArgs false
def ren0 (ρ : Nat → Nat) : AV → AV
  | .ptr id v r o => .ptr (ρ id) v r o
  | .os id n => .os (ρ id) n
  | v => v
def ren1 (ρ : Nat → Nat) : AV → AV
  | .fn f caps => .fn f (caps.map (ren0 ρ))
  | .agg l => .agg (l.map (ren0 ρ))
  | .tup l => .tup (l.map (ren0 ρ))
  | v => ren0 ρ v
def ren (ρ : Nat → Nat) : AV → AV
  | .fn f caps => .fn f (caps.map (ren1 ρ))
  | .agg l => .agg (l.map (ren1 ρ))
  | .tup l => .tup (l.map (ren1 ρ))
  | v => ren1 ρ v
def renB (ρ : Nat → Nat) (b : Blk) : Blk := ⟨b.ty, b.sz, b.rows.map (·.map (ren1 ρ))⟩
/-- From numbers of the one to numbers of the other: what there is is the same. -/
structure Tr (k : Nat) (ρ : Nat → Nat) (M M' : Mm) : Prop where
  W : M'.W = M.W
  N : ∀ b, M'.N b → M.N b
  hp : ∀ i b, i < k → M.hp[i]? = some b → ∃ b', M'.hp[ρ i]? = some b' ∧ b'.sz = b.sz ∧ b'.rows.length = b.rows.length
  γ : ∀ i, i < k → M'.γ (ρ i) = M.γ i
  κ : ∀ i, i < k → M'.κ (ρ i) = M.κ i
section
variable {k : Nat} {ρ : Nat → Nat} {M M' : Mm}
theorem Tr.imm (h : Tr k ρ M M') : ∀ b, ¬ M.N b → (∃ o, M.W.heap[b]? = some o) → M'.W.heap[b]? = M.W.heap[b]? ∧ ¬ M'.N b := fun b hb _ => ⟨by rw [h.W], fun hn => hb (h.N b hn)⟩
theorem all2_map {R S : AV → Value → Prop} {f : AV → AV} {g : AV → Bool} (h : ∀ v x, R v x → g v = true → S (f v) x) {l : List AV} {xs : List Value} (hl : All2 R l xs) (hg : l.all g = true) : All2 S (l.map f) xs := by
  induction hl with
  | nil => exact .nil
  | cons h1 _ ih =>
    simp only [List.all_cons, Bool.and_eq_true] at hg
    exact .cons (h _ _ h1 hg.1) (ih hg.2)
theorem Tr.r0 (h : Tr k ρ M M') {v : AV} {x : Value} (hr : RepA M v x) (hs : v.sc0 k = true) : RepA M' (ren0 ρ v) x := by
  cases hr with
  | imm v x hr => exact .imm _ _ (hr.keep h.imm)
  | nils => exact .nils
  | nocap A => exact .nocap A
  | undef => exact .undef
  | mp g ks vs hl => exact .mp g ks vs (hl.keep h.imm)
  | mpi g ks vs hl => exact .mpi g ks vs (hl.keep h.imm)
  | pin l ad ys h0 hb hy hl =>
    refine .pin l ad ys h0 (fun hn => hb (h.N _ hn)) ?_ (hl.mono fun _ _ hr => hr.keep h.imm)
    rw [h.W]; exact hy
  | ptr id ver row off b q hb hv hx =>
    have hk : id < k := by simpa [AV.sc0] using hs
    obtain ⟨b', e1, e2, e3⟩ := h.hp id b hk hb
    refine .ptr _ ver row off b' q e1 (by omega) fun hver => ?_
    obtain ⟨g, h1, h2⟩ := hx (by omega)
    exact ⟨g, by rw [h.γ id hk]; exact h1, by rw [e2]; exact h2⟩
  | os id n b A c d hb hv hx =>
    have hk : id < k := by simpa [AV.sc0] using hs
    obtain ⟨b', e1, e2, e3⟩ := h.hp id b hk hb
    refine .os _ n b' A c d e1 (by omega) fun hver => ?_
    rw [h.γ id hk, h.κ id hk]
    exact hx (by omega)
  | _ => simp [AV.sc0] at hs
theorem Tr.r1 (h : Tr k ρ M M') {v : AV} {x : Value} (hr : RepA M v x) (hs : v.sc1 k = true) : RepA M' (ren1 ρ v) x := by
  have h0 : ∀ v x, RepA M v x → v.sc0 k = true → RepA M' (ren0 ρ v) x := fun v x hr hs => h.r0 hr hs
  cases hr with
  | fn f caps xs hr => exact .fn f _ xs (all2_map h0 hr hs)
  | agg l xs hr => exact .agg _ xs (all2_map h0 hr hs)
  | tup l xs hr => exact .tup _ xs (all2_map h0 hr hs)
  | imm v x hr => exact h0 (.imm v) _ (.imm _ _ hr) hs
  | nils => exact h0 .nils _ .nils hs
  | nocap A => exact h0 .nocap _ (.nocap A) hs
  | undef => exact h0 .undef _ .undef hs
  | mp g ks vs a1 => exact h0 (.mp g ks vs) _ (.mp g ks vs a1) hs
  | mpi g ks vs a1 => exact h0 (.mpi ks vs) _ (.mpi g ks vs a1) hs
  | pin l ad ys a1 a2 a3 a4 => exact h0 (.pin l) _ (.pin l ad ys a1 a2 a3 a4) hs
  | ptr id ver row off b q a1 a2 a3 => exact h0 (.ptr id ver row off) _ (.ptr id ver row off b q a1 a2 a3) hs
  | os id n b A c d a1 a2 a3 => exact h0 (.os id n) _ (.os id n b A c d a1 a2 a3) hs
theorem Tr.r (h : Tr k ρ M M') {v : AV} {x : Value} (hr : RepA M v x) (hs : v.sc k = true) : RepA M' (ren ρ v) x := by
  have h0 : ∀ v x, RepA M v x → v.sc1 k = true → RepA M' (ren1 ρ v) x := fun v x hr hs => h.r1 hr hs
  cases hr with
  | fn f caps xs hr => exact .fn f _ xs (all2_map h0 hr hs)
  | agg l xs hr => exact .agg _ xs (all2_map h0 hr hs)
  | tup l xs hr => exact .tup _ xs (all2_map h0 hr hs)
  | imm v x hr => exact h0 (.imm v) _ (.imm _ _ hr) hs
  | nils => exact h0 .nils _ .nils hs
  | nocap A => exact h0 .nocap _ (.nocap A) hs
  | undef => exact h0 .undef _ .undef hs
  | mp g ks vs a1 => exact h0 (.mp g ks vs) _ (.mp g ks vs a1) hs
  | mpi g ks vs a1 => exact h0 (.mpi ks vs) _ (.mpi g ks vs a1) hs
  | pin l ad ys a1 a2 a3 a4 => exact h0 (.pin l) _ (.pin l ad ys a1 a2 a3 a4) hs
  | ptr id ver row off b q a1 a2 a3 => exact h0 (.ptr id ver row off) _ (.ptr id ver row off b q a1 a2 a3) hs
  | os id n b A c d a1 a2 a3 => exact h0 (.os id n) _ (.os id n b A c d a1 a2 a3) hs
/-- .. and back: what is named by the new numbers, read by the old ones. -/
structure Ti (k : Nat) (ρ : Nat → Nat) (M M' : Mm) : Prop where
  W : M.W = M'.W
  N : ∀ b, M.N b → M'.N b
  hp : ∀ i b', i < k → M'.hp[ρ i]? = some b' → ∃ b, M.hp[i]? = some b ∧ b'.sz = b.sz ∧ b'.rows.length = b.rows.length
  γ : ∀ i, i < k → M'.γ (ρ i) = M.γ i
  κ : ∀ i, i < k → M'.κ (ρ i) = M.κ i
theorem Ti.imm (h : Ti k ρ M M') : ∀ b, ¬ M'.N b → (∃ o, M'.W.heap[b]? = some o) → M.W.heap[b]? = M'.W.heap[b]? ∧ ¬ M.N b := fun b hb _ => ⟨by rw [h.W], fun hn => hb (h.N b hn)⟩
theorem all2_unmap {R S : AV → Value → Prop} {f : AV → AV} {g : AV → Bool} (h : ∀ v x, R (f v) x → g v = true → S v x) : ∀ {l : List AV} {xs : List Value} (hl : All2 R (l.map f) xs) (hg : l.all g = true), All2 S l xs
  | [], xs, hl, hg => by cases hl; exact .nil
  | v :: l, xs, hl, hg => by
    cases hl with
    | cons h1 h2 =>
      simp only [List.all_cons, Bool.and_eq_true] at hg
      exact .cons (h _ _ h1 hg.1) (all2_unmap h h2 hg.2)
theorem Ti.r0 (h : Ti k ρ M M') {v : AV} {x : Value} (hr : RepA M' (ren0 ρ v) x) (hs : v.sc0 k = true) : RepA M v x := by
  cases v with
  | imm v => cases hr with | imm _ _ hr => exact .imm _ _ (hr.keep h.imm)
  | nils => cases hr; exact .nils
  | nocap => cases hr; exact .nocap _
  | undef => cases hr; exact .undef
  | mp g ks vs => cases hr with | mp _ _ _ hl => exact .mp g ks vs (hl.keep h.imm)
  | mpi ks vs => cases hr with | mpi _ _ _ hl => exact .mpi _ ks vs (hl.keep h.imm)
  | pin l =>
    cases hr with
    | pin _ ad ys h0 hb hy hl =>
      refine .pin l ad ys h0 (fun hn => hb (h.N _ hn)) ?_ (hl.mono fun _ _ hr => hr.keep h.imm)
      rw [h.W]; exact hy
  | ptr id ver row off =>
    have hk : id < k := by simpa [AV.sc0] using hs
    cases hr with
    | ptr _ _ _ _ b q hb hv hx =>
      obtain ⟨b', e1, e2, e3⟩ := h.hp id b hk hb
      refine .ptr _ ver row off b' q e1 (by omega) fun hver => ?_
      obtain ⟨g, h1, h2⟩ := hx (by omega)
      exact ⟨g, by rw [← h.γ id hk]; exact h1, by rw [← e2]; exact h2⟩
  | os id n =>
    have hk : id < k := by simpa [AV.sc0] using hs
    cases hr with
    | os _ _ b A c d hb hv hx =>
      obtain ⟨b', e1, e2, e3⟩ := h.hp id b hk hb
      refine .os _ n b' A c d e1 (by omega) fun hver => ?_
      rw [← h.γ id hk, ← h.κ id hk]
      exact hx (by omega)
  | _ => simp [AV.sc0] at hs
theorem Ti.r1 (h : Ti k ρ M M') {v : AV} {x : Value} (hr : RepA M' (ren1 ρ v) x) (hs : v.sc1 k = true) : RepA M v x := by
  have h0 : ∀ v x, RepA M' (ren0 ρ v) x → v.sc0 k = true → RepA M v x := fun v x hr hs => h.r0 hr hs
  cases v with
  | fn f caps => cases hr with | fn _ _ xs hr => exact .fn f _ xs (all2_unmap h0 hr hs)
  | agg l => cases hr with | agg _ xs hr => exact .agg _ xs (all2_unmap h0 hr hs)
  | tup l => cases hr with | tup _ xs hr => exact .tup _ xs (all2_unmap h0 hr hs)
  | _ => exact h0 _ _ hr hs
theorem Ti.r (h : Ti k ρ M M') {v : AV} {x : Value} (hr : RepA M' (ren ρ v) x) (hs : v.sc k = true) : RepA M v x := by
  have h0 : ∀ v x, RepA M' (ren1 ρ v) x → v.sc1 k = true → RepA M v x := fun v x hr hs => h.r1 hr hs
  cases v with
  | fn f caps => cases hr with | fn _ _ xs hr => exact .fn f _ xs (all2_unmap h0 hr hs)
  | agg l => cases hr with | agg _ xs hr => exact .agg _ xs (all2_unmap h0 hr hs)
  | tup l => cases hr with | tup _ xs hr => exact .tup _ xs (all2_unmap h0 hr hs)
  | _ => exact h0 _ _ hr hs
end
def noact : Act := ⟨#[], []⟩
/-- A function that is lent blocks: it comes to r, the blocks then are hp1 (those that were lent first). -/
def cxG (P : Program) (X : Nat → Prop) (hp0 : List Blk) (γ : Nat → Option Nat) (κ : Nat → Nat) (W : World) (nt : Nat) : Cx := ⟨P, X, hp0, γ, κ, fun g => ∃ i, i < hp0.length ∧ γ i = some g, W, nt⟩
def GenC (P : Program) (f : FuncId) (hp0 : List Blk) (args : List AV) (r : AV) (hp1 : List Blk) : Prop :=
  Callable P f ∧ ∀ (W : World) (X : Nat → Prop) (γ : Nat → Option Nat) (κ : Nat → Nat) (xs : List Value), Conc (cxG P X hp0 γ κ W 0) ⟨[], hp0⟩ γ κ noact W → All2 (RepA (St.mm ⟨[], hp0⟩ (cxG P X hp0 γ κ W 0) γ κ W)) args xs →
    Calls P f xs.toArray W fun e W' => ∃ x γ1 κ1, e = .returned x ∧ Conc (cxG P X hp0 γ κ W 0) ⟨[], hp1⟩ γ1 κ1 noact W' ∧ RepA (St.mm ⟨[], hp1⟩ (cxG P X hp0 γ κ W 0) γ1 κ1 W') r x
def RG (C : Cx) (T : List (Nat × TI)) (rs : List ResultVar) (r : AV) (hp1 : List Blk) : Exit → St → Prop
  | .ret, s => ∃ qs k, ares T s rs = some qs ∧ pack qs = r ∧ hp1 = s.hp.take k ∧ r.sc k = true ∧ hp1.all (fun b => b.rows.all fun r => r.all (AV.sc1 k)) = true ∧ C.hp0.length ≤ k
  | .normal, s => ∃ qs k, ares T s rs = some qs ∧ pack qs = r ∧ hp1 = s.hp.take k ∧ r.sc k = true ∧ hp1.all (fun b => b.rows.all fun r => r.all (AV.sc1 k)) = true ∧ C.hp0.length ≤ k
  | _, _ => False
theorem RG.ret {C : Cx} {T : List (Nat × TI)} {rs : List ResultVar} {r : AV} {hp1 : List Blk} {s : St} {qs : List AV} (k : Nat) (h1 : ares T s rs = some qs) (h2 : pack qs = r) (h3 : hp1 = s.hp.take k) (h4 : r.sc k = true) (h5 : hp1.all (fun b => b.rows.all fun r => r.all (AV.sc1 k)) = true) (h6 : C.hp0.length ≤ k) : RG C T rs r hp1 .ret s := ⟨qs, k, h1, h2, h3, h4, h5, h6⟩
theorem RG.norm {C : Cx} {T : List (Nat × TI)} {rs : List ResultVar} {r : AV} {hp1 : List Blk} {s : St} {qs : List AV} (k : Nat) (h1 : ares T s rs = some qs) (h2 : pack qs = r) (h3 : hp1 = s.hp.take k) (h4 : r.sc k = true) (h5 : hp1.all (fun b => b.rows.all fun r => r.all (AV.sc1 k)) = true) (h6 : C.hp0.length ≤ k) : RG C T rs r hp1 .normal s := ⟨qs, k, h1, h2, h3, h4, h5, h6⟩
theorem GenC.mk {P : Program} {f : FuncId} {fn : Func} {c : Code} {hp0 : List Blk} {args : List AV} {r : AV} {hp1 : List Blk} {T : List (Nat × TI)} (hT : TsOK P T) (hf : P.funcs[f]? = some fn) (nt : Nat) (rs : List ResultVar) (hb : fn.body = some c) (hn : (fn.name == "runtime.NumGoroutine") = false) (hnt : fn.ntmps = nt) (hrs : fn.results.toList = rs) (hlen : Nat.ble (len args) nt = true)
    (h : ∀ w0 X γ κ, AW (cxG P X hp0 γ κ w0 nt) c (RG (cxG P X hp0 γ κ w0 nt) T rs r hp1) ⟨params 0 args, hp0⟩) : GenC P f hp0 args r hp1 := by
  subst hnt hrs
  have hlen := Nat.le_of_ble_eq_true hlen
  rw [len_eq] at hlen
  refine ⟨fun as w => ?_, fun W X γ κ xs hC0 hargs => ?_⟩
  · unfold callFunc
    have hp : (program).run P w = .ok P w := rfl
    rw [run_bind hp, hf]
    simp only [hn, hb]
    rfl
  · refine calls_of_wp hf hb ?_
    have hl := hargs.length
    have hC : Conc (cxG P X hp0 γ κ W fn.ntmps) ⟨params 0 args, hp0⟩ γ κ { tmps := xs.toArray ++ Array.replicate (fn.ntmps - xs.toArray.size) undef, defers := [] } W := by
      refine ⟨?_, rfl, ?_, hC0.blk, hC0.inj, hC0.own, hC0.xlt, hC0.old, hC0.hos, hC0.htape, hC0.hout, hC0.hsize, hC0.lent⟩
      · simp [cxG]; omega
      · intro t v hv
        obtain ⟨_, h2⟩ := params_get args 0 t v hv
        simp only [Nat.sub_zero] at h2
        obtain ⟨x, h3, h4⟩ := hargs.get h2
        refine ⟨x, ?_, h4⟩
        simp only
        rw [Array.getElem?_append_left (by simpa using (List.getElem?_eq_some_iff.1 h3).1)]
        simpa using h3
    refine wp_mono (h W X γ κ _ _ _ _ hC) ?_
    rintro e a' W' ⟨s', γ', κ', hC', hQ⟩
    have fin : ∀ qs k, ares T s' fn.results.toList = some qs → pack qs = r → hp1 = s'.hp.take k → r.sc k = true → hp1.all (fun b => b.rows.all fun r => r.all (AV.sc1 k)) = true → hp0.length ≤ k → a'.defers = [] ∧ ∃ v, (results fn a'.tmps).run P W' = .ok v W' ∧ ∃ x γ1 κ1, Ending.returned v = .returned x ∧ Conc (cxG P X hp0 γ κ W 0) ⟨[], hp1⟩ γ1 κ1 noact W' ∧ RepA (St.mm ⟨[], hp1⟩ (cxG P X hp0 γ κ W 0) γ1 κ1 W') r x := by
      intro qs k h1 h2 h3 h4 h5 h6
      obtain ⟨ys, h7, h8⟩ := results_run hT hC' h1
      have hq := pack_rep h8
      rw [h2] at hq
      subst h3
      have hcut : Conc (cxG P X hp0 γ κ W fn.ntmps) ⟨[], s'.hp.take k⟩ γ' κ' a' W' ∧ RepA (St.mm ⟨[], s'.hp.take k⟩ (cxG P X hp0 γ κ W fn.ntmps) γ' κ' W') r (pack' ys) := by
        have hle := Le.cut (C := cxG P X hp0 γ κ W fn.ntmps) (s := s') k (s1 := ⟨[], s'.hp.take k⟩) rfl trivial rfl h5 h6
        refine ⟨Le.cut_same k rfl trivial rfl h5 h6 hC', ?_⟩
        refine sc_keep (M := s'.mm (cxG P X hp0 γ κ W fn.ntmps) γ' κ' W') (M' := St.mm ⟨[], s'.hp.take k⟩ (cxG P X hp0 γ κ W fn.ntmps) γ' κ' W') (k := k) rfl ?_ rfl rfl (fun id hi => List.getElem?_take_of_lt hi) hq h4
        rintro b (hb | ⟨i, hi, hg⟩)
        · exact .inl hb
        · exact .inr ⟨i, by simp at hi; omega, hg⟩
      refine ⟨hC'.defers, pack' ys, ?_, _, γ', κ', rfl, ?_, hcut.2⟩
      · unfold results
        rw [Array.mapM_eq_mapM_toList]
        have h3' := run_bind (P := P) (f := fun vs : List Value => (pure vs.toArray : Sem (Array Value))) h7
        have h5 : ((List.toArray <$> fn.results.toList.mapM (m := Sem) fun | .tmp t => pure (a'.tmps.getD t undef) | .cell b t => do loadVar t (← asAddr (a'.tmps.getD b undef))) : Sem (Array Value)).run P W' = .ok ys.toArray W' := by
          rw [map_eq_pure_bind]
          exact h3'
        refine (run_bind h5).trans ?_
        rcases ys with _ | ⟨y, _ | ⟨y2, ys⟩⟩
        · rfl
        · rfl
        · rw [dif_neg (by simp)]
          rfl
      · obtain ⟨c, _⟩ := hcut
        exact ⟨rfl, rfl, (by intro t v h; cases h), c.blk, c.inj, c.own, c.xlt, c.old, c.hos, c.htape, c.hout, c.hsize, c.lent⟩
    cases e with
    | ret => obtain ⟨qs, k, h1, h2, h3, h4, h5, h6⟩ := hQ; exact fin qs k h1 h2 h3 h4 h5 h6
    | normal => obtain ⟨qs, k, h1, h2, h3, h4, h5, h6⟩ := hQ; exact fin qs k h1 h2 h3 h4 h5 h6
    | _ => exact hQ.elim
end Go.Proofs.YteijifoobaoclaaGreat.A
