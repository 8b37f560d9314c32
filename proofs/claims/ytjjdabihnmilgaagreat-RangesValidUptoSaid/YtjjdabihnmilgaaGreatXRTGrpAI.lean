/- Range over functions, part 5: the rule of a loop over an iterator that comes to a known list. -/
import Derived.Test.YtjjdabihnmilgaaGreatXRTGrpAH
import Derived.Lib.SliceRun
namespace Go.Proofs.YtjjdabihnmilgaaGreat.A
open Go.RowKit
set_option linter.unusedVariables false
set_option linter.unusedSimpArgs false
/-- What an iterator may count on across a round: what lay below B and is none of the caller's own blocks lies as it lay. -/
structure KpM (tys : List TypeId) (B : Nat) (M : Nat → Prop) (W W' : World) : Prop where
  size : W.heap.size ≤ W'.heap.size
  same : ∀ b, b < B → ¬ M b → W'.heap[b]? = W.heap[b]?
  cells : ∀ (b : Nat) (vs : Array Value) (t : TypeId) (z : Nat × Nat), W.heap[b]? = some (.cells vs t z) → t ∉ tys → W'.heap[b]? = some (.cells vs t z)
theorem KpM.trans {tys : List TypeId} {B : Nat} {M : Nat → Prop} {W1 W2 W3 : World} (h : KpM tys B M W1 W2) (k : KpM tys B M W2 W3) : KpM tys B M W1 W3 := ⟨Nat.le_trans h.size k.size, fun b h1 h2 => (k.same b h1 h2).trans (h.same b h1 h2), fun b vs t z h1 h2 => k.cells b vs t z (h.cells b vs t z h1 h2) h2⟩
theorem KpM.refl (tys : List TypeId) (B : Nat) (M : Nat → Prop) (W : World) : KpM tys B M W W := ⟨Nat.le_refl _, fun _ _ _ => rfl, fun _ _ _ _ h _ => h⟩
theorem KpM.below {tys : List TypeId} {B : Nat} {M : Nat → Prop} {W W' : World} (h : Below W.heap.size W W') (hB : B ≤ W.heap.size) : KpM tys B M W W' := ⟨h.size, fun b hb _ => h.block b (by omega), fun b vs t z hb _ => (h.block b (Array.getElem?_eq_some_iff.1 hb).1).trans hb⟩
/-- A function value that, called with a yield, yields the numbers of xs, one behind the other. -/
def IterC (P : Program) (tys : List TypeId) (gf : Nat) (hp : List Blk) (caps : List AV) (xs : List Int) : Prop :=
  Callable P gf ∧ ∀ (n : Nat) (W : World) (X : Nat → Prop) (γ : Nat → Option Nat) (κ : Nat → Nat) (lb : List Value), Conc (cxG P X hp γ κ W 0) ⟨[], hp⟩ γ κ noact W → All2 (RepA (St.mm ⟨[], hp⟩ (cxG P X hp γ κ W 0) γ κ W)) caps lb →
    SeqStopsK Fence.wide n P gf lb.toArray (fun x : Int => #[Value.int .i64 x]) (KpM tys W.heap.size (ownOf ⟨[], hp⟩ γ)) (fun ys => ys = xs) (fun pre => pre <+: xs) xs.length W
/-- How a round may end: the caller's blocks are hp1. -/
def RB (C : Cx) (hp1 : List Blk) : Exit → St → Prop
  | .normal, s => ∃ k, hp1 = s.hp.take k ∧ hp1.all (fun b => b.rows.all fun r => r.all (AV.sc1 k)) = true ∧ C.hp0.length ≤ k
  | _, _ => False
theorem RB.norm {C : Cx} {hp1 : List Blk} {s : St} (k : Nat) (h1 : hp1 = s.hp.take k) (h2 : hp1.all (fun b => b.rows.all fun r => r.all (AV.sc1 k)) = true) (h3 : C.hp0.length ≤ k) : RB C hp1 .normal s := ⟨k, h1, h2, h3⟩
section
variable {C : Cx}
theorem Conc.roundEnd {env0 : List (Nat × AV)} {hp hp' : List Blk} {γ γ' : Nat → Option Nat} {κ κ' : Nat → Nat} {a a' : Act} {W W' : World} {nt : Nat} (h1 : Conc C ⟨env0, hp⟩ γ κ a W) (h2 : Conc (cxG C.P C.X hp γ κ W nt) ⟨[], hp'⟩ γ' κ' a' W') : Conc C ⟨env0, hp'⟩ γ' κ' a W' := by
  have hnew : ∀ i g, i < hp'.length → γ' i = some g → W.heap.size ≤ g ∨ ∃ i, i < hp.length ∧ γ i = some g := fun i g hi hg => (h2.own i g hi hg).2
  have hkeep : Keep (St.mm ⟨env0, hp⟩ C γ κ W) (St.mm ⟨env0, hp'⟩ C γ' κ' W') := by
    refine ⟨?_, ?_⟩
    · intro b hb ⟨o, ho⟩
      have hlt : b < W.heap.size := (Array.getElem?_eq_some_iff.1 ho).1
      have hno : ¬ ∃ i, i < hp.length ∧ γ i = some b := fun h => hb (.inr h)
      refine ⟨h2.old b hlt hno, ?_⟩
      rintro (h | ⟨i, hi, hg⟩)
      · exact hb (.inl h)
      · rcases hnew i b hi hg with h | h
        · omega
        · exact hno h
    · intro id b hb
      exact h2.lent id b hb
  refine ⟨h1.size, h1.defers, ?_, h2.blk, h2.inj, ?_, h1.xlt, ?_, h2.hos.trans h1.hos, h2.htape.trans h1.htape, h2.hout.trans h1.hout, Nat.le_trans h1.hsize h2.hsize, h1.lent.keep (s := ⟨env0, hp⟩) (s' := ⟨env0, hp'⟩) hkeep⟩
  · intro t v h
    obtain ⟨x, h3, h4⟩ := h1.env t v h
    exact ⟨x, h3, h4.keep hkeep⟩
  · intro id g hi hg
    refine ⟨(h2.own id g hi hg).1, ?_⟩
    rcases hnew id g hi hg with h | ⟨i, h3, h4⟩
    · exact .inl (Nat.le_trans h1.hsize h)
    · exact (h1.own i g h3 h4).2
  · intro b hb hmay
    refine (h2.old b (Nat.lt_of_lt_of_le hb h1.hsize) ?_).trans (h1.old b hb hmay)
    rintro ⟨i, h3, h4⟩
    rcases (h1.own i b h3 h4).2 with h | h
    · omega
    · exact hmay h
theorem wpIn_anyN {F : Fence} (hF : F.depth = none) {n m : Nat} {P : Program} {c : Code} {Q : Exit → Act → World → Prop} {a : Act} {w : World} (h : c.wpIn F n P Q a w) : c.wpIn F m P Q a w :=
  fun b k cs h1 h2 _ => h b k cs h1 h2 (fun d hd => by rw [hF] at hd; cases hd)
theorem round_assign {F : Fence} {n : Nat} {P : Program} {id p d : Nat} {o : Oper} (ho : o.op = .assign (.tmp p)) (hod : o.dst = some d) (hog : o.guard = none) (hF : ∀ f, F.fn f) {a : Act} {w : World} {K : Act → World → Prop} (hK : K (a.put (some d) (a.eval (.tmp p))) w) :
    (Code.region id #[o] false).wpIn F n P (Exit.then K (fun _ _ _ => False)) a w := by
  refine wpIn_region_lit (l := [o]) ?_
  unfold wpListIn
  rw [if_pos (by unfold Region.wanted; rw [hog])]
  refine ⟨fun f _ => hF f, ?_⟩
  rw [Oper.semAt_eq _ _ _ (by simp [ho])]
  unfold execOp
  rw [ho]
  show Oper.uponIn F n P o a _ _ (.ok (.value (a.eval (.tmp p))) w)
  rw [Oper.uponIn_value, hod]
  exact hK
theorem AWM.rangeFunc {s : St} {Q : Exit → St → Prop} {g : Operand} {p d id : Nat} {o : Oper} {body : Code} (env0 : List (Nat × AV)) (hpf : List Int → List Blk) (xs : List Int) {gf : Nat} {caps : List AV} (hg : s.ev g = some (.fn gf caps)) (tys : List TypeId) (hit : IterC C.P tys gf s.hp caps xs) (hty : ∀ pre, ∀ b ∈ hpf pre, b.ty ∈ tys)
    (he : ∀ t v, get env0 t = some v → get s.env t = some v) (hh : s.hp = hpf []) (hnm : ∀ pre, nmS ⟨env0, hpf pre⟩ = true)
    (ho : o.op = .assign (.tmp p)) (hod : o.dst = some d) (hog : o.guard = none) (hp : p < C.nt) (hd : d < C.nt)
    (hbody : ∀ (pre : List Int) (x : Int), pre.length < xs.length → ∀ l w0 X γ κ, AWM (some l) (cxG C.P X (hpf pre) γ κ w0 C.nt) body (RB (cxG C.P X (hpf pre) γ κ w0 C.nt) (hpf (pre ++ [x]))) ⟨(d, .imm (.int .i64 x)) :: (p, .imm (.int .i64 x)) :: env0, hpf pre⟩)
    (h : Q .normal ⟨env0, hpf xs⟩) : AWM none C (.rangeFunc g #[p] (.region id #[o] false) body) Q s := by
  intro n γ κ a W Ds hC ha hm
  refine wpIn_anyN (n := n + 2) rfl ?_
  have hgv := hC.evM hg
  obtain ⟨lb, hev, hcap⟩ : ∃ lb, a.eval g = .func (.func gf) #[] lb.toArray ∧ All2 (RepA (s.mm C γ κ W)) caps lb := by
    generalize a.eval g = v at hgv
    cases hgv with
    | fn _ _ xs h => exact ⟨xs, rfl, h⟩
  have hCG : Conc (cxG C.P C.X s.hp γ κ W 0) ⟨[], s.hp⟩ γ κ noact W :=
    ⟨rfl, rfl, (by intro t v h; cases h), hC.blk, hC.inj, fun i g hi hg => ⟨(hC.own i g hi hg).1, .inr ⟨i, hi, hg⟩⟩, fun b hb => Nat.lt_of_lt_of_le (hC.xlt b hb) hC.hsize, fun _ _ _ => rfl, rfl, rfl, rfl, Nat.le_refl _, fun i b0 hb => ⟨b0, hb, rfl, Nat.le_refl _, fun _ => ⟨rfl, rfl⟩⟩⟩
  have hC' : Conc (C.at W (ownOf s γ)) ⟨env0, hpf []⟩ γ κ ⟨a.tmps, []⟩ W := by
    rw [← hh]
    exact hC.rebase.sub_env rfl (fun t v h => hC.env t v (he t v h))
  refine wpIn_rangeFunc_ownF (F := fro none) (n := n + 2) rfl (by omega) (gf := gf) (lb := lb.toArray) hev trivial hit.1 (hit.2 (n + 1) W C.X γ κ lb hCG hcap) (fun h k => h.trans k)
    (fun W1 l o1 o2 hl h1 h2 h3 => ⟨(grownBy_putObj' W1 l o2).size, fun b hb _ => World.putObj_heap_other (by omega), fun b vs t z hb _ => (World.putObj_heap_other (fun e => by subst e; rw [hb] at h1; cases h1; cases h2)).trans hb⟩) (Below.refl _ _) (fun _ => rfl)
    (fun pre W1 => ∃ γ1 κ1, Conc (C.at W (ownOf s γ)) ⟨env0, hpf pre⟩ γ1 κ1 ⟨a.tmps, []⟩ W1 ∧ ∀ D ∈ Ds, W1.heap[D]? = some (.deferred (some []))) (fun _ _ _ => False) ?_ (fun _ _ _ _ _ h _ _ => h) ⟨γ, κ, hC', fun D hD => (hm.mem D hD).2⟩
    (fun x => ({ tmps := a.tmps.setIfInBounds p (.int .i64 x), defers := [] } : Act).put (some d) (.int .i64 x)) ?_ ?_ ?_ (fun D c pre W1 _ _ h _ => h.elim)
  · rintro pre W1 W2 row ⟨γ1, κ1, h1, hD⟩ hgr hrow
    refine ⟨γ1, κ1, h1.turned (hnm pre) (Nat.le_refl _) hgr hrow, fun D hDm => ?_⟩
    have h2 := hD D hDm
    refine (hgr.block D (Array.getElem?_eq_some_iff.1 h2).1 ?_).trans h2
    intro e
    have h3 := (hrow D e.symm).1
    have h4 := (Array.getElem?_eq_some_iff.1 (hm.mem D hDm).2).1
    omega
  · intro l x W1 K hK
    refine round_assign ho hod hog (fun _ => trivial) ?_
    have hsz : p < a.tmps.size := by have := hC.size; have h5 : a.tmps.size = C.nt := this; omega
    have e : ({ tmps := a.tmps.setIfInBounds p (.int .i64 x), defers := [] } : Act).eval (.tmp p) = .int .i64 x := by
      show (a.tmps.setIfInBounds p (.int .i64 x)).getD p undef = _
      rw [Array.getD_eq_getD_getElem?, Array.getElem?_setIfInBounds_self_of_lt hsz]
      rfl
    have e2 : ({ tmps := ((#[p] : Array Tmp).zip #[Value.int .i64 x]).foldl (fun t (q, v) => t.setIfInBounds q v) a.tmps, defers := [] } : Act) = { tmps := a.tmps.setIfInBounds p (.int .i64 x), defers := [] } := by simp
    rw [e2, e]
    exact hK
  · rintro l pre x W1 ⟨γ1, κ1, h1, hD1⟩ hlt
    have hszp : p < a.tmps.size := by have h5 : a.tmps.size = C.nt := hC.size; omega
    have hszd : d < a.tmps.size := by have h5 : a.tmps.size = C.nt := hC.size; omega
    have hG : Conc (cxG C.P C.X (hpf pre) γ1 κ1 W1 C.nt) ⟨(d, .imm (.int .i64 x)) :: (p, .imm (.int .i64 x)) :: env0, hpf pre⟩ γ1 κ1 (clr (({ tmps := a.tmps.setIfInBounds p (.int .i64 x), defers := [] } : Act).put (some d) (.int .i64 x))) W1 := by
      refine ⟨?_, rfl, ?_, h1.blk, h1.inj, fun i g hi hg => ⟨(h1.own i g hi hg).1, .inr ⟨i, hi, hg⟩⟩, fun b hb => Nat.lt_of_lt_of_le (h1.xlt b hb) h1.hsize, fun _ _ _ => rfl, rfl, rfl, rfl, Nat.le_refl _, fun i b0 hb => ⟨b0, hb, rfl, Nat.le_refl _, fun _ => ⟨rfl, rfl⟩⟩⟩
      · show ((a.tmps.setIfInBounds p _).setIfInBounds d _).size = C.nt
        simp only [Array.size_setIfInBounds]
        exact hC.size
      · intro t v hv
        show ∃ y, ((a.tmps.setIfInBounds p (.int .i64 x)).setIfInBounds d (.int .i64 x))[t]? = some y ∧ _
        simp only [get] at hv
        by_cases hdt : d = t
        · subst hdt
          rw [show Nat.beq d d = true from Nat.beq_refl d] at hv
          obtain rfl := Option.some.inj hv
          exact ⟨_, Array.getElem?_setIfInBounds_self_of_lt (by simpa using hszd), .imm _ _ (.int _ _)⟩
        · rw [show Nat.beq d t = false by rw [← Bool.not_eq_true, Nat.beq_eq]; exact hdt] at hv
          rw [Array.getElem?_setIfInBounds_ne hdt]
          by_cases hpt : p = t
          · subst hpt
            rw [show Nat.beq p p = true from Nat.beq_refl p] at hv
            obtain rfl := Option.some.inj hv
            exact ⟨_, Array.getElem?_setIfInBounds_self_of_lt hszp, .imm _ _ (.int _ _)⟩
          · rw [show Nat.beq p t = false by rw [← Bool.not_eq_true, Nat.beq_eq]; exact hpt] at hv
            rw [Array.getElem?_setIfInBounds_ne hpt]
            exact h1.env t v hv
    have hmk : MkOK (cxG C.P C.X (hpf pre) γ1 κ1 W1 C.nt) W1 [] := ⟨List.nodup_nil, by simp⟩
    refine wpIn_mono (hbody pre x hlt l W1 C.X γ1 κ1 (n + 2 - 1 - 1) γ1 κ1 _ W1 [] hG rfl hmk) ?_
    rintro e a' W' ⟨s', γ', κ', Ds', h2, _, _, hRB⟩
    cases e with
    | normal =>
      obtain ⟨k, hk, hsc, hle⟩ := hRB
      have hcut := Le.cut_same (s1 := ⟨[], s'.hp.take k⟩) k rfl trivial rfl (by rw [← hk]; exact hsc) hle h2
      rw [← hk] at hcut
      have hno : ∀ (b : Nat) (o : Obj), W1.heap[b]? = some o → o.isCells = false → W'.heap[b]? = some o := by
        intro b o hb hc
        refine (h2.old b (Array.getElem?_eq_some_iff.1 hb).1 ?_).trans hb
        rintro hmay
        obtain ⟨o', h3, h4⟩ := h1.ownCells (g := b) hmay
        rw [hb] at h3; cases h3
        rw [hc] at h4; cases h4
      refine ⟨⟨h2.hsize, fun b o hb hc => hno b o hb hc⟩, ⟨h2.hsize, ?_, ?_⟩, γ', κ', h1.roundEnd hcut, fun D hD => hno D _ (hD1 D hD) rfl⟩
      rotate_left
      · intro b vs t z hb htn
        refine (h2.old b (Array.getElem?_eq_some_iff.1 hb).1 ?_).trans hb
        rintro ⟨i, hi, hgi⟩
        have hbi : (hpf pre)[i]? = some (hpf pre)[i] := List.getElem?_eq_getElem hi
        rcases (h1.blk i _ hbi).mem with ⟨h3, _⟩ | ⟨g', ys, sp, h3, h4, _⟩
        · have h3 : γ1 i = none := h3
          rw [hgi] at h3; cases h3
        · have h3 : γ1 i = some g' := h3
          rw [hgi] at h3; cases h3
          have h4 : W1.heap[b]? = _ := h4
          rw [hb] at h4
          cases h4
          exact htn (hty pre _ (List.getElem_mem hi))
      intro b hb hnb
      refine h2.old b (Nat.lt_of_lt_of_le hb h1.hsize) ?_
      rintro ⟨i, hi, hgi⟩
      rcases (h1.own i b hi hgi).2 with h3 | h3
      · have h3 : W.heap.size ≤ b := h3
        omega
      · exact hnb h3
    | _ => exact hRB.elim
  · rintro D xs' W1 hDB rfl ⟨γ1, κ1, h1, hD1⟩ hWD
    refine ⟨⟨env0, hpf xs'⟩, γ1, κ1, D :: Ds, Conc.unbase (a := clr a) hC h1, by show _ :: a.defers = _; rw [ha]; rfl, ⟨?_, ?_⟩, h⟩
    · rw [List.nodup_cons]
      refine ⟨fun hmem => ?_, hm.nodup⟩
      have := (Array.getElem?_eq_some_iff.1 (hm.mem D hmem).2).1
      omega
    · intro D' hD'
      rcases List.mem_cons.1 hD' with e | e
      · subst e
        exact ⟨Nat.le_trans hC.hsize hDB, hWD⟩
      · exact ⟨(hm.mem D' e).1, hD1 D' e⟩
end
end Go.Proofs.YtjjdabihnmilgaaGreat.A
namespace Go.Proofs.YtjjdabihnmilgaaGreat.A
open Go.RowKit
set_option linter.unusedVariables false
set_option linter.unusedSimpArgs false
variable {P : Program}
end Go.Proofs.YtjjdabihnmilgaaGreat.A
namespace Go.Proofs.YtjjdabihnmilgaaGreat.A
open Go.RowKit
set_option linter.unusedVariables false
set_option linter.unusedSimpArgs false
section
variable {C : Cx} {s : St} {γ : Nat → Option Nat} {κ : Nat → Nat} {a : Act} {W : World} {o : Oper} {T : List (Nat × TI)} {l rest : List Oper} {Q : Exit → St → Prop}
theorem Meet.of {P : Prop} {M : St} (h1 : P) (h2 : Le C s M) : Meet C P M s := ⟨h1, h2⟩
theorem Le.trans {s1 s2 : St} (h1 : Le C s s1) (h2 : Le C s1 s2) : Le C s s2 := fun γ κ a W hC =>
  let ⟨γ1, κ1, hC1⟩ := h1 γ κ a W hC
  h2 γ1 κ1 a W hC1
/-- All ways through x meet behind it, in a state of a family. -/
def MeetX (C : Cx) {β : Type} (M : β → St) (P : β → Prop) (s : St) : Prop := ∃ b, P b ∧ Le C s (M b)
theorem MeetX.of {β : Type} {M : β → St} {P : β → Prop} (b : β) (h1 : Le C s (M b)) (h2 : P b) : MeetX C M P s := ⟨b, h2, h1⟩
theorem AW.seqx {β : Type} {x y : Code} (M : β → St) (P : β → Prop) (h1 : AW C x (Then (MeetX C M P) Q) s) (h2 : ∀ b, P b → AW C y Q (M b)) : AW C (.seq x y) Q s :=
  AW.seq (h1.mono fun e s h => by
    cases e with
    | normal => obtain ⟨b, hb, hle⟩ := h; exact AW.weak hle (h2 b hb)
    | _ => exact h)
/-- As AL.op, with the state in its form. -/
theorem AL.ope {s1 : St} (hw : awant l s o = some true) (h : OpOK C s o s1) {e1 : List (Nat × AV)} {h1 : List Blk} (e : s1 = ⟨e1, h1⟩) (k : AL C l Q rest ⟨e1, h1⟩) : AL C l Q (o :: rest) s := by
  subst e
  exact AL.op hw h k
/-- A list that is nil becomes one of the call's own, without elements. -/
theorem Le.fresh (t ty sz : Nat) (hpos : Nat.blt 0 sz = true) (ht : get s.env t = some .nils) : Le C s ⟨(t, .os (len s.hp) 0) :: s.env, s.hp ++ [⟨ty, sz, []⟩]⟩ := by
  intro γ κ a W hC
  rw [Nat.blt_eq] at hpos
  obtain ⟨γ', κ', h1, h2, h3, hK⟩ := hC.reserve ty sz hpos
  refine ⟨γ', κ', h1.sub_env rfl ?_⟩
  intro u v hu
  simp only [get] at hu
  split at hu
  · rename_i e
    have e := Nat.eq_of_beq_eq_true e
    subst e
    obtain rfl := Option.some.inj hu
    obtain ⟨x, hx1, hx2⟩ := hC.env t .nils ht
    refine ⟨x, hx1, ?_⟩
    cases hx2
    rw [len_eq]
    refine .os _ _ ⟨ty, sz, []⟩ _ _ _ ?_ (Nat.zero_le _) fun _ => ⟨?_, rfl, ?_⟩
    · show (s.hp ++ [_])[s.hp.length]? = _
      simp
    · show none = (γ' s.hp.length).map _
      rw [h2]; rfl
    · show 0 = κ' s.hp.length
      rw [h3]
  · obtain ⟨x, hx1, hx2⟩ := hC.env u v hu
    exact ⟨x, hx1, hx2.keep hK⟩
theorem all_tt {α : Type} (l : List α) : (l.all fun _ => true) = true := by simp
theorem set_map {α β : Type} (g : α → β) (xs : List α) (i : Nat) (y : α) : (xs.map g).set i (g y) = (xs.set i y).map g := by rw [List.map_set]
theorem OpOK.load_m (hT : TsOK C.P T) (hd : dok C.nt o.dst = true) {t : TypeId} {p : Operand} (ho : o.op = .load t p) {i : TI} (hi : look T t = some i) {id ver off : Nat} {j : Int} (hp : s.ev p = some (.ptr id ver j.toNat off))
    {α : Type} [Inhabited α] {g : α → List AV} {xs : List α} {ty sz : Nat} (hb : nth s.hp id = some ⟨ty, sz, xs.map g⟩) (hver : ver = xs.length) (h0 : 0 ≤ j) (h1 : j < xs.length) {v : AV} (hl : ldRow i sz (g (atI xs j)) off = some v) : OpOK C s o (s.put o.dst v) :=
  OpOK.load_own hT hd ho hi hp hb (by simp [hver]) (r := g (atI xs j)) (by simp only [List.getElem?_map]; rw [atI_get h0 h1]; rfl) hl
theorem OpOK.store_m (hT : TsOK C.P T) (hd : o.dst = none) {t : TypeId} {p x : Operand} (ho : o.op = .store t p x) {i : TI} (hi : look T t = some i) {id ver off : Nat} {j : Int} (hp : s.ev p = some (.ptr id ver j.toNat off)) {v : AV} (hx : s.ev x = some v)
    {α : Type} [Inhabited α] {g : α → List AV} {xs : List α} {ty sz : Nat} (hb : nth s.hp id = some ⟨ty, sz, xs.map g⟩) (hver : ver = xs.length) (h0 : 0 ≤ j) (h1 : j < xs.length) (hlen : Nat.beq (len (avCells v)) i.sz = true) (hcell : (avCells v).all AV.cell = true) (hfit : Nat.ble (off + i.sz) sz = true)
    {y : α} (hy : putRow sz i.sz (g (atI xs j)) off (avCells v) = g y) : OpOK C s o ⟨s.env, s.hp.set id ⟨ty, sz, (xs.set j.toNat y).map g⟩⟩ := by
  have hl := Nat.eq_of_beq_eq_true hlen
  rw [len_eq] at hl
  rw [nth_eq] at hb
  have := OpOK.store_own hT hd ho hi hp hx (b := ⟨ty, sz, xs.map g⟩) hb (by simp [hver]) hl hcell (Nat.le_of_ble_eq_true hfit) (r := g (atI xs j)) (by simp only [List.getElem?_map]; rw [atI_get h0 h1]; rfl)
  rw [hy, set_map] at this
  exact this
theorem OpOK.append_m (hT : TsOK C.P T) (hd : dok C.nt o.dst = true) {x y : Operand} {t tx e : TypeId} (ho : o.op = .call ⟨.builtin .append, #[x, y], #[t, tx]⟩) {i ie : TI} (hi : look T t = some i) (hk : i.kd = .sl e) (hie : look T e = some ie) {id n : Nat} (hx : s.ev x = some (.os id n))
    {α : Type} {g : α → List AV} {xs ys : List α} {ty sz : Nat} (hb : nth s.hp id = some ⟨ty, sz, xs.map g⟩) (hver : n = xs.length) (hty : ty = e) (hsz : sz = ie.sz) (hsrc : SrcA C s ie tx y (ys.map g)) (hbound : (xs.length + ys.length) * ie.bytes ≤ 140737488355328) (h63 : xs.length + ys.length ≤ 9223372036854775807) :
    OpOK C s o (St.put ⟨s.env, s.hp.set id ⟨ty, sz, (xs ++ ys).map g⟩⟩ o.dst (.os id (xs ++ ys).length)) := by
  have := OpOK.append_os hT hd ho hi hk hie hx hb (by simpa using hver) hty hsz hsrc (by simpa using hbound) (by simpa using h63)
  simp only [List.map_append, List.length_append]
  rw [hver] at this
  simpa using this
theorem OpOK.len_os (hT : TsOK C.P T) (hd : dok C.nt o.dst = true) {x : Operand} {t : TypeId} (ho : o.op = .call ⟨.builtin .len, #[x], #[t]⟩) {i : TI} (hi : look T t = some i) {e : TypeId} (hk : i.kd = .sl e) {id n : Nat} (hx : s.ev x = some (.os id n)) {b : Blk} (hb : nth s.hp id = some b) (hver : n = b.rows.length) : OpOK C s o (s.put o.dst (.imm (.int .i64 n))) :=
  OpOK.blen hT hd ho hi hx (by
    have e : Nat.beq n (len b.rows) = true := by rw [len_eq, hver]; simp
    simp only [aLen, hk, hb, e])
end
theorem eqArrL {P : Program} {d : Nat} {w : World} {e : TypeId} (xs ys : Array Value) (f : Nat → Bool) : ∀ (l : List Nat),
  (∀ i ∈ l, ∃ a b, (part e xs (i * 1)).run P w = .ok a w ∧ (part e ys (i * 1)).run P w = .ok b w ∧ (Op.equalIn d e a b).run P w = .ok (f i) w) →
  Sem.run P (forIn l ((none, ()) : Option Bool × Unit) fun i __s => do
            let __do_lift ← part e xs (i * 1)
            let __do_lift_1 ← part e ys (i * 1)
            let __do_lift ← Op.equalIn d e __do_lift __do_lift_1
            if (!__do_lift) = true then pure (ForInStep.done (some false, ())) else pure (ForInStep.yield (none, ()))) w = .ok (if l.all f then (none, ()) else (some false, ())) w
  | [], _ => rfl
  | i :: l, h => by
    obtain ⟨a, b, h1, h2, h3⟩ := h i (by simp)
    have ih := eqArrL xs ys f l (fun j hj => h j (by simp [hj]))
    rw [List.forIn_cons]
    simp only [Sem.run_bind, h1, h2, h3, Result.andThen_ok]
    cases hf : f i
    · simp [hf, pure, Sem.run]
    · simp only [Bool.not_true, Bool.false_eq_true, if_false]
      simp only [pure, Sem.run, List.all_cons, hf, Bool.true_and] at ih ⊢
      exact ih
theorem eqArr {P : Program} {d : Nat} {w : World} {t e : TypeId} {n : Nat} (ht : P.underlying t = some (.array n e)) (hz : (sizeOf e).run P w = .ok 1 w) (xs ys : Array Value) (f : Nat → Bool)
  (h : ∀ i, i < n → ∃ a b, (part e xs (i * 1)).run P w = .ok a w ∧ (part e ys (i * 1)).run P w = .ok b w ∧ (Op.equalIn d e a b).run P w = .ok (f i) w) :
  (Op.equalIn (d + 1) t (.agg xs) (.agg ys)).run P w = .ok ((List.range n).all f) w := by
  simp only [Op.equalIn, Sem.run_bind, run_underlying ht, Result.andThen_ok, hz]
  rw [Std.Legacy.Range.forIn_eq_forIn_range']
  have := eqArrL (P := P) (d := d) (w := w) (e := e) xs ys f (List.range n) (fun i hi => h i (by simpa using hi))
  simp only [Std.Legacy.Range.size]
  rw [show List.range' 0 ((n - 0 + 1 - 1) / 1) 1 = List.range n by rw [List.range_eq_range']; congr 1; simp]
  rw [this]
  cases (List.range n).all f <;> rfl
theorem eqArrI {P : Program} {t e : TypeId} {n : Nat} {k k' : IntKind} {i : TI} (hg : P.eqGuardType P.depth t = false) (ht : P.underlying t = some (.array n e)) (hT : TOk P e i) (ha : i.isAgg = false) (hs : i.sz = 1) (he : P.underlying e = some (.int k')) :
   ∀ (M : Mm) (a b : List Int) (xs ys : List Value) (w : World), a.length = n → b.length = n → All2 (RepA M) (a.map fun x => .imm (.int k x)) xs → All2 (RepA M) (b.map fun x => .imm (.int k x)) ys → (Op.equal t (.agg xs.toArray) (.agg ys.toArray)).run P w = .ok (dec (a = b)) w := by
  intro M a b xs ys w hla hlb hxs hys
  have inv : ∀ {a : List Int} {xs : List Value}, All2 (RepA M) (a.map fun x => .imm (.int k x)) xs → xs = a.map (Value.int k) := by
    intro a
    induction a with
    | nil => intro xs h; cases h; rfl
    | cons x a ih =>
      intro xs h
      cases h with
      | cons h1 h2 => cases h1 with
        | imm _ _ h1 => cases h1; rw [ih h2]; rfl
  have e1 := inv hxs
  have e2 := inv hys
  subst e1 e2
  have hz : (sizeOf e).run P w = .ok 1 w := by rw [← hs]; exact hT.sizeOf w
  refine equal_at 9999 1 rfl ?_
  have := eqArr (d := 9999) (w := w) ht hz (a.map (Value.int k)).toArray (b.map (Value.int k)).toArray (fun i => dec (a.getD i 0 = b.getD i 0)) (fun j hj => ⟨.int k (a.getD j 0), .int k (b.getD j 0), ?_, ?_, ?_⟩)
  · rw [this]
    congr 1
    rw [Bool.eq_iff_iff, dec_true, List.all_eq_true]
    constructor
    · intro h
      apply List.ext_getElem (by omega)
      intro j h1 h2
      have := h j (by simp; omega)
      rw [dec_true] at this
      simpa [List.getD, h1, h2] using this
    · intro h j hj
      rw [dec_true, h]
  · exact part_1 hT ha _ _ (by rw [List.getElem?_map, Nat.mul_one, List.getElem?_eq_getElem (by omega)]; simp [List.getD, List.getElem?_eq_getElem (show j < a.length by omega)])
  · exact part_1 hT ha _ _ (by rw [List.getElem?_map, Nat.mul_one, List.getElem?_eq_getElem (by omega)]; simp [List.getD, List.getElem?_eq_getElem (show j < b.length by omega)])
  · exact eqi_int (d := 9998) he
def ints64 : List AV → Option (List Int)
  | [] => some []
  | .imm (.int .i64 x) :: r => (match ints64 r with
    | some l => some (x :: l)
    | none => none)
  | _ => none
theorem ints64_eq : ∀ {l : List AV} {a : List Int}, ints64 l = some a → l = a.map fun x => .imm (.int .i64 x)
  | [], a, h => by simp only [ints64, Option.some.injEq] at h; subst h; rfl
  | v :: r, a, h => by
    unfold ints64 at h
    split at h
    · rename_i e; cases e
    · rename_i x r' e
      cases e
      split at h
      · rename_i l hl
        obtain rfl := Option.some.inj h
        rw [ints64_eq hl]; rfl
      · cases h
    · cases h
noncomputable def eqvI (n : Nat) (l m : List AV) : Option Bool :=
  match ints64 l with
  | some a => (match ints64 m with
    | some b => (match Nat.beq (len a) n && Nat.beq (len b) n with
      | true => some (dec (a = b))
      | false => none)
    | none => none)
  | none => none
theorem eqtI {P : Program} {t e : TypeId} {n : Nat} {k : IntKind} {i : TI} (hg : P.eqGuardType P.depth t = false) (ht : P.underlying t = some (.array n e)) (hT : TOk P e i) (ha : i.isAgg = false) (hs : i.sz = 1) (he : P.underlying e = some (.int k)) : EqT P t (eqvI n) := by
  refine ⟨hg, fun M l m b xs ys w hf hl hm => ?_⟩
  unfold eqvI at hf
  split at hf
  · rename_i a hA
    split at hf
    · rename_i c hB
      split at hf
      · rename_i hn
        obtain rfl := Option.some.inj hf
        simp only [Bool.and_eq_true] at hn
        have n1 := Nat.eq_of_beq_eq_true hn.1
        have n2 := Nat.eq_of_beq_eq_true hn.2
        rw [len_eq] at n1 n2
        rw [ints64_eq hA] at hl
        rw [ints64_eq hB] at hm
        exact eqArrI hg ht hT ha hs he M a c xs ys w n1 n2 hl hm
      · cases hf
    · cases hf
  · cases hf
section
variable {C : Cx} {s t : St} {γ : Nat → Option Nat} {κ : Nat → Nat} {a : Act} {W : World} {o : Oper} {T : List (Nat × TI)} {l r rest : List Oper} {Q : Exit → St → Prop}
-- regions that draw, with conditions that are not known
theorem LS.sm {f : Fx} (h : Sm s t) (hl : LS C l t o f) : LS C l s o f :=
  ⟨hl.1, fun s' h1 h2 h3 => hl.2 s' (fun x hx => (h1 x hx).trans (h.env x)) (fun p hp => by rw [h2 p hp, h.hp]) (by rw [h3, h.hp])⟩
theorem DW.sm {fs : List Fx} {t2 : St} (hd : DW C l r t fs t2) : ∀ {s : St}, Sm s t → ∃ s2, DW C l r s fs s2 ∧ Sm s2 t2 := by
  induction hd with
  | nil t => intro s h; exact ⟨s, .nil s, h⟩
  | cons h1 h2 ih =>
    intro s h
    obtain ⟨s2, k1, k2⟩ := ih (h.ap _)
    exact ⟨s2, .cons (h1.sm h) k1, k2⟩
def Wk (C : Cx) (Q : Exit → St → Prop) : Exit → St → Prop := fun e s => ∃ s3, Le C s s3 ∧ Q e s3
theorem DQ.sm {acc : List Fx} (h : Sm s t) (hq : DQ C l r t acc (Wk C Q)) : DQ C l r s acc (Wk C Q) := by
  obtain ⟨fs, t2, h1, h2, s3, h3, h4⟩ := hq
  obtain ⟨s2, k1, k2⟩ := h1.sm h
  exact ⟨fs, s2, k1, h2, s3, fun γ κ a W hC => h3 γ κ a W (k2.conc hC), h4⟩
theorem AW.drawW (hm : C.P.follows .mixedOrders = true) {id : Nat} (hback : backOK l 0 = true) (h : DQ C l l s [] (Wk C Q)) : AW C (.region id l.toArray true) Q s := by
  have := AW.drawQ hm (id := id) hback h
  intro γ κ a W hC
  exact wp_mono (this γ κ a W hC) fun e a W ⟨s, γ, κ, h1, s3, h2, h3⟩ => by
    obtain ⟨γ', κ', h4⟩ := h2 γ κ a W h1
    exact ⟨s3, γ', κ', h4, h3⟩
theorem DQ.nilW {acc : List Fx} (hok : allOK acc (anc l []) 0 [] = true) (hQ : Q .normal s) : DQ C l [] s acc (Wk C Q) := DQ.nil hok ⟨s, Le.refl C s, hQ⟩
theorem DQ.split {acc : List Fx} {d : Nat} {b : Bool} (hb : get s.env d = some (.imm (.bool b))) (h1 : b = true → DQ C l r ⟨(d, .imm (.bool true)) :: s.env, s.hp⟩ acc (Wk C Q)) (h2 : b = false → DQ C l r ⟨(d, .imm (.bool false)) :: s.env, s.hp⟩ acc (Wk C Q)) : DQ C l r s acc (Wk C Q) := by
  have key : ∀ c, b = c → Sm s ⟨(d, .imm (.bool c)) :: s.env, s.hp⟩ := by
    intro c e
    refine ⟨fun x => ?_, rfl⟩
    simp only [get]
    split
    · rename_i hx
      have := Nat.eq_of_beq_eq_true hx
      subst this
      rw [hb, e]
    · rfl
  cases hb' : b with
  | true => exact DQ.sm (key true hb') (h1 hb')
  | false => exact DQ.sm (key false hb') (h2 hb')
/-- A slice that was handed in, held against nil: nothing is known but that a nil one has no elements. -/
theorem AL.slnil (hT : TsOK C.P T) (hw : awant l s o = some true) (hd : dok C.nt o.dst = true) {ty t2 : TypeId} {x y : Operand} (ho : o.op = .binOp .eql ty x y t2) {i : TI} (hi : look T ty = some i) {e : TypeId} (hk : i.kd = .sl e) {rows : List (List IV)} (hx : s.ev x = some (.imm (.sl rows))) (hy : s.ev y = some .nils)
    (k : ∀ b, (b = true → rows = []) → AL C l Q rest (s.put o.dst (.imm (.bool b)))) : AL C l Q (o :: rest) s := by
  intro γ κ a W hC
  have h1 := hC.ev hx
  have h2 := hC.ev hy
  obtain ⟨d, d1, d2, _⟩ := (hT ty i hi).und
  rw [hk] at d2
  obtain rfl := kd_sl d2
  obtain ⟨A, n, c, hv, hb⟩ : ∃ A n c, a.eval x = .slice A n c ∧ (A.isNone = true → rows = []) := by
    generalize a.eval x = xv at h1
    cases h1 with
    | imm _ _ h1 => cases h1 with
      | nil A c => exact ⟨A, 0, c, rfl, fun _ => rfl⟩
      | sl _ ad n c => exact ⟨some ad, n, c, rfl, fun h => by cases h⟩
  have hv2 : a.eval y = .slice none 0 0 := by
    generalize a.eval y = yv at h2
    cases h2; rfl
  have hrun : (execOp a.eval o).run C.P W = .ok (.value (.bool A.isNone)) W := bin_run ho (eqGuard_run (by rw [hv, hv2]) W) (by rw [hv, hv2]; exact Lib.run_eql_slice_nil W _ _ A n c 0 0 d1)
  refine wpList_step fun K hK => ?_
  rw [if_pos (awant_ok hC hw)]
  unfold Oper.wp
  rw [hrun]
  exact hK _ _ (k A.isNone hb γ κ _ W (hC.put hd (.imm _ _ (.bool _))))
/-- A list of no elements: it has no room either. -/
theorem OpOK.lit0 (hT : TsOK C.P T) (hd : dok C.nt o.dst = true) {t e : TypeId} {ps : Array (Nat × Operand)} (ho : o.op = .buildSlice t 0 ps) (hp : ps.toList = []) {i ie : TI} (hi : look T t = some i) (hk : i.kd = .sl e) (hie : look T e = some ie) : OpOK C s o (s.put o.dst .nocap) :=
  OpOK.val hd fun γ κ a W hC => by
    have hT' := hT t i hi
    have hTe := hT e ie hie
    obtain ⟨d, d1, d2, d3⟩ := hT'.und
    rw [hk] at d2
    obtain rfl := kd_sl d2
    obtain ⟨_, f2, _, _⟩ := hC.fresh (.cells #[] e)
    have hps : ps = #[] := by simpa using hp
    refine ⟨.slice (some ⟨W.heap.size, 0, none⟩) 0 0, γ, κ, _, ?_, f2, .nocap _⟩
    unfold execOp; rw [ho, hps]
    refine val_run ?_
    unfold Instr.buildSlice
    rw [run_bind (und_run d1 W)]
    simp only
    rw [run_bind (hTe.sizeOf W), if_neg (by omega)]
    rw [if_pos (by omega), run_bind (run_pure _ _)]
    rw [show Array.map (fun x => (#[] : Array Value)[x % (#[] : Array Value).size]!) (Array.range (0 * ie.sz)) = #[] by simp]
    rw [show Instr.fill (fun i => some (i * ie.sz, ie.sz)) (#[] : Array Value) (Array.map (fun x : Nat × Operand => (x.1, a.eval x.2)) #[]).toList = some #[] by simp [Instr.fill]]
    rfl
end
end Go.Proofs.YtjjdabihnmilgaaGreat.A
namespace Go.Proofs.YtjjdabihnmilgaaGreat.A
open Go.RowKit
set_option linter.unusedVariables false
set_option linter.unusedSimpArgs false
section
variable {C : Cx} {s t : St} {γ : Nat → Option Nat} {κ : Nat → Nat} {a : Act} {W : World} {o : Oper} {T : List (Nat × TI)} {l r rest : List Oper} {Q : Exit → St → Prop}
theorem OpOK.buildArr (hT : TsOK C.P T) (hd : dok C.nt o.dst = true) {t e : TypeId} {n : Nat} {ps : Array (Nat × Operand)} (ho : o.op = .build t ps) {i ie : TI} (hi : look T t = some i) (hie : look T e = some ie) (hu : C.P.underlying t = some (.array n e)) {vs : List (Nat × AV)} (hx : evps s ps.toList = some vs) {l : List AV} (h : aFill (fun j => some (j * ie.sz, ie.sz)) i.zero vs = some l) : OpOK C s o (s.put o.dst (.agg l)) :=
  OpOK.quiet hd fun γ κ a W hC => by
    have hT' := hT t i hi
    have hTe := hT e ie hie
    obtain ⟨z, hz1, hz2⟩ := hT'.zeroValue
    obtain ⟨cs', g1, g2⟩ := fill_ok (M := s.mm C γ κ W) (place' := fun j => some (j * ie.sz, ie.sz)) (fun i z h => h) (hC.evps hx) (constAVs_rep hz1) h
    refine ⟨.agg cs', ?_, ?_⟩
    · unfold execOp; rw [ho]
      refine val_run ?_
      unfold Instr.build
      rw [run_bind (hz2 W), run_bind (und_run hu W)]
      simp only
      rw [run_bind (hTe.sizeOf W)]
      have e3 : (ps.map fun x : Nat × Operand => (x.1, a.eval x.2)).toList = ps.toList.map fun (i, x) => (i, a.eval x) := by simp
      rw [e3, g1]
      rfl
    · have e : cs' = cs'.toList.toArray := by simp
      rw [e]
      exact .agg _ _ (by simpa using g2)
-- the walk through a region that draws, with short notes of what was done
def canonL : List Nat → Option (List Nat)
  | [] => some []
  | x :: l => match canonL l with
    | some r => some (x :: r)
    | none => none
theorem canonL_eq : ∀ {l r : List Nat}, canonL l = some r → l = r
  | [], r, h => by simp only [canonL, Option.some.injEq] at h; exact h
  | x :: l, r, h => by
    simp only [canonL] at h
    split at h
    · rename_i r' hr
      obtain rfl := Option.some.inj h
      rw [canonL_eq hr]
    · cases h
def canonO : Option Nat → Option (Option Nat)
  | none => some none
  | some x => some (some x)
theorem canonO_eq {x : Option Nat} {y : Option Nat} (h : canonO x = some y) : x = y := by
  cases x <;> simp only [canonO, Option.some.injEq] at h <;> exact h
def wbD : Option Nat → Dl
  | none => .val .undef
  | some p => .blk p ⟨0, 0, []⟩ .undef
theorem wbD_wb (w : Option Nat) : (wbD w).wb = w := by cases w <;> rfl
structure SameX (f g : Fx) : Prop where
  dst : f.dst = g.dst
  rs : f.rs = g.rs
  rb : f.rb = g.rb
  wb : f.d.wb = g.d.wb
theorem pairOK_same {f f' g g' : Fx} (h1 : SameX f f') (h2 : SameX g g') : pairOK f g = pairOK f' g' := by
  unfold pairOK
  rw [h1.dst, h1.rs, h1.rb, h1.wb, h2.dst, h2.rs, h2.rb, h2.wb]
theorem allOK_same : ∀ {l l' : List Fx} (_ : All2 SameX l l') (an : List (List Nat)) (i : Nat) {pre pre' : List (Nat × Fx)}, All2 (fun p q => p.1 = q.1 ∧ SameX p.2 q.2) pre pre' → allOK l an i pre = allOK l' an i pre'
  | _, _, .nil, an, i, pre, pre', _ => rfl
  | _, _, .cons (a := f) (b := f') (l := l) (m := l') h1 h2, an, i, pre, pre', hp => by
    cases an with
    | nil => rfl
    | cons b an =>
      simp only [allOK]
      have e1 : (pre.all fun q => memB q.1 b || pairOK q.2 f) = pre'.all fun q => memB q.1 b || pairOK q.2 f' := by
        induction hp with
        | nil => rfl
        | cons k1 _ ih => simp only [List.all_cons, ih, k1.1, pairOK_same k1.2 h1]
      rw [e1, allOK_same h2 an (i + 1) (hp.append (.cons (a := (i, f)) (b := (i, f')) ⟨rfl, h1⟩ .nil))]
theorem SameX.refl (f : Fx) : SameX f f := ⟨rfl, rfl, rfl, rfl⟩
theorem all2_refl {α : Type} {R : α → α → Prop} (h : ∀ x, R x x) : ∀ l : List α, All2 R l l
  | [] => .nil
  | x :: l => .cons (h x) (all2_refl h l)
theorem DQ.stepc {r : List Oper} {s : St} {acc : List Fx} {o : Oper} {f : Fx} {Q : Exit → St → Prop} (h1 : LS C l s o f) {e1 : List (Nat × AV)} {h1' : List Blk} (he : f.ap s = ⟨e1, h1'⟩) {dst w : Option Nat} {rs rb : List Nat}
    (k1 : canonO f.dst = some dst) (k2 : canonL f.rs = some rs) (k3 : canonL f.rb = some rb) (k4 : canonO f.d.wb = some w) (k : DQ C l r ⟨e1, h1'⟩ (acc ++ [⟨dst, wbD w, rs, rb⟩]) Q) : DQ C l (o :: r) s acc Q := by
  refine DQ.step h1 he ?_
  obtain ⟨fs, s2, q1, q2, q3⟩ := k
  refine ⟨fs, s2, q1, ?_, q3⟩
  rw [← q2]
  refine allOK_same ((All2.append (all2_refl SameX.refl acc) (.cons ?_ .nil)).append (all2_refl SameX.refl fs)) _ _ .nil
  exact ⟨canonO_eq k1, canonL_eq k2, canonL_eq k3, by rw [wbD_wb]; exact canonO_eq k4⟩
theorem DQ.gsplitE {acc : List Fx} {j d : Nat} {want b : Bool} {e : List (Nat × AV)} {h : List Blk} (hg : o.guard = some (j, want)) (hd : dstOf l j = some d) (hb : get e d = some (.imm (.bool b))) (h1 : b = true → DQ C l (o :: r) ⟨(d, .imm (.bool true)) :: e, h⟩ acc (Wk C Q)) (h2 : b = false → DQ C l (o :: r) ⟨(d, .imm (.bool false)) :: e, h⟩ acc (Wk C Q)) : DQ C l (o :: r) ⟨e, h⟩ acc (Wk C Q) := DQ.split hb h1 h2
theorem AL.gsplitE {j d : Nat} {want b : Bool} {e : List (Nat × AV)} {h : List Blk} (hg : o.guard = some (j, want)) (hd : dstOf l j = some d) (hb : get e d = some (.imm (.bool b))) (h1 : b = true → AL C l Q (o :: rest) ⟨(d, .imm (.bool true)) :: e, h⟩) (h2 : b = false → AL C l Q (o :: rest) ⟨(d, .imm (.bool false)) :: e, h⟩) : AL C l Q (o :: rest) ⟨e, h⟩ := AL.split d hb h1 h2
-- what goes ahead of what, as bits
def forceN {α : Type} (n : Nat) (k : Nat → α) : α :=
  match n with
  | 0 => k 0
  | m + 1 => k (m + 1)
theorem forceN_eq {α : Type} (n : Nat) (k : Nat → α) : forceN n k = k n := by cases n <;> rfl
def maskOf (acc : List Nat) (l : List Nat) : Nat := l.foldl (fun m j => m ||| ((1 <<< j) ||| acc.getD j 0)) 0
theorem mask_bit (acc : List Nat) (x : Nat) : ∀ (l : List Nat) (m : Nat), (l.foldl (fun m j => m ||| ((1 <<< j) ||| acc.getD j 0)) m).testBit x = (m.testBit x || l.any fun j => decide (j = x) || (acc.getD j 0).testBit x)
  | [], m => by simp
  | j :: l, m => by
    rw [List.foldl_cons, mask_bit acc x l]
    simp only [Nat.testBit_or, List.any_cons, Bool.or_assoc]
    congr 2
    rw [Nat.one_shiftLeft, Nat.testBit_two_pow]
def ancM : List Oper → List Nat → List Nat
  | [], acc => acc
  | o :: r, acc => forceN (maskOf acc (ons o)) fun m => ancM r (acc ++ [m])
def SameB (a : List Nat) (m : Nat) : Prop := ∀ x, memB x a = m.testBit x
theorem memB_append (x : Nat) : ∀ (a b : List Nat), memB x (a ++ b) = (memB x a || memB x b)
  | [], b => by simp [memB]
  | y :: a, b => by
    simp only [List.cons_append, memB]
    split
    · rfl
    · exact memB_append x a b
theorem memB_flat (x : Nat) (g : Nat → List Nat) : ∀ l : List Nat, memB x (l.flatMap g) = l.any fun j => memB x (g j)
  | [] => rfl
  | j :: l => by rw [List.flatMap_cons, memB_append, memB_flat x g l]; rfl
theorem getD_same {acc : List (List Nat)} {accM : List Nat} (h : All2 SameB acc accM) (j : Nat) : SameB (acc.getD j []) (accM.getD j 0) := by
  intro x
  rw [List.getD_eq_getElem?_getD, List.getD_eq_getElem?_getD]
  cases hj : acc[j]? with
  | none =>
    have : accM[j]? = none := by
      rw [List.getElem?_eq_none_iff] at hj ⊢
      rw [← h.length]; exact hj
    rw [this]
    simp [memB]
  | some a =>
    obtain ⟨m, h1, h2⟩ := h.get hj
    rw [h1]
    exact h2 x
theorem ancM_spec : ∀ (l : List Oper) {acc : List (List Nat)} {accM : List Nat}, All2 SameB acc accM → All2 SameB (anc l acc) (ancM l accM)
  | [], _, _, h => h
  | o :: r, acc, accM, h => by
    simp only [anc, ancM, forceN_eq]
    refine ancM_spec r (h.append (.cons (fun x => ?_) .nil))
    unfold maskOf
    rw [memB_flat, mask_bit]
    simp only [Nat.zero_testBit, Bool.false_or]
    congr 1
    funext j
    simp only [memB]
    rw [← getD_same h j x]
    by_cases e : j = x
    · subst e
      simp
    · have e' : Nat.beq x j = false := by
        rw [← Bool.not_eq_true]
        intro hb
        exact e (Nat.eq_of_beq_eq_true hb).symm
      rw [e']; simp [e]
def allOKM : List Fx → List Nat → Nat → List (Nat × Fx) → Bool
  | [], _, _, _ => true
  | g :: r, an, i, pre => (match an with
    | [] => false
    | a :: an => pre.all (fun q => a.testBit q.1 || pairOK q.2 g) && allOKM r an (i + 1) (pre ++ [(i, g)]))
theorem allOKM_eq : ∀ (l : List Fx) {an : List (List Nat)} {anM : List Nat} (_ : All2 SameB an anM) (i : Nat) (pre : List (Nat × Fx)), allOK l an i pre = allOKM l anM i pre
  | [], _, _, _, _, _ => rfl
  | g :: r, _, _, .nil, i, pre => rfl
  | g :: r, _, _, .cons h1 h2, i, pre => by
    simp only [allOK, allOKM]
    rw [allOKM_eq r h2]
    congr 1
    congr 1
    funext q
    rw [h1 q.1]
theorem DQ.nilM {acc : List Fx} (hok : allOKM acc (ancM l []) 0 [] = true) (hQ : Q .normal s) : DQ C l [] s acc (Wk C Q) := DQ.nilW (by rw [allOKM_eq acc (ancM_spec l .nil)]; exact hok) hQ
end
end Go.Proofs.YtjjdabihnmilgaaGreat.A
namespace Go.Proofs.YtjjdabihnmilgaaGreat.A
open Go.RowKit
set_option linter.unusedVariables false
set_option linter.unusedSimpArgs false
section
variable {C : Cx} {s t : St} {γ : Nat → Option Nat} {κ : Nat → Nat} {a : Act} {W : World} {o : Oper} {T : List (Nat × TI)} {l r rest : List Oper} {Q : Exit → St → Prop}
theorem OpOK.append_nocap_at (p : Nat) (hT : TsOK C.P T) (hd : dok C.nt o.dst = true) {x y : Operand} {t tx e : TypeId} (ho : o.op = .call ⟨.builtin .append, #[x, y], #[t, tx]⟩) {i ie : TI} (hi : look T t = some i) (hk : i.kd = .sl e) (hie : look T e = some ie) (hpos : 0 < ie.sz) (hx : s.ev x = some .nocap)
    {sz : Nat} (hp : nth s.hp p = some ⟨e, sz, []⟩) (hsz : sz = ie.sz) {rows2 : List (List AV)} (hne : rows2 ≠ []) (hsrc : SrcA C s ie tx y rows2) (hbound : rows2.length * ie.bytes ≤ 140737488355328) (h63 : rows2.length ≤ 9223372036854775807) :
    OpOK C s o (St.put ⟨s.env, s.hp.set p ⟨e, sz, rows2⟩⟩ o.dst (.os p rows2.length)) :=
  OpOK.val hd fun γ κ a W hC => by
    subst hsz
    rw [nth_eq] at hp
    have hid : p < s.hp.length := (List.getElem?_eq_some_iff.1 hp).1
    obtain ⟨d, d1, d2, _⟩ := (hT t i hi).und
    rw [hk] at d2
    obtain rfl := kd_sl d2
    have hTe := hT e ie hie
    obtain ⟨it, z, i1, i2, i3, i4, i5⟩ := hTe.info
    obtain ⟨hr2, hc2, hs⟩ := hsrc
    obtain ⟨news, hs1, hs2⟩ := hs γ κ a W hC
    have h1 := hC.ev hx
    obtain ⟨A, hA⟩ : ∃ A, a.eval x = .slice A 0 0 := by
      generalize a.eval x = xv at h1
      cases h1; exact ⟨_, rfl⟩
    have hs1' : Src C.P it.size tx (a.eval y) rows2.length news W := by rw [i2]; exact hs1
    have hpos2 : 0 < rows2.length := List.length_pos_iff.2 hne
    have hold : (Builtin.firstCells it.size 0 (.slice A 0 0)).run C.P W.drew = .ok ([] : List Value).toArray W.drew := by
      cases A with
      | none => exact run_firstCells_none W.drew it.size 0 0 0
      | some g => exact run_firstCells_some W.drew it.size 0 g 0 0 [] (by simp) (by intro j u hj; simp at hj)
    have hrun := run_append_grow_src W t tx o.type e it z d1 i1 i4 A 0 0 [] hold (a.eval y) rows2.length news hs1' (by omega) (by omega) (growslice_fits (by omega) (by rw [i3, Nat.zero_add]; exact hbound))
    have hge := grownCap_ge W (0 + rows2.length) 0 e
    have hcm : grownCap W (0 + rows2.length) 0 e ≤ maxLen := grownCap_le_maxLen W _ 0 e (by simpa [maxLen] using h63)
    have hzl : z.cells.size = ie.sz := by
      have := (constAVs_rep (M := s.mm C γ κ W) i5).length
      rw [hTe.zl] at this
      simpa using this.symm
    have hnl : news.length = rows2.length * ie.sz := by rw [← hs2.length, flat_len hr2]
    generalize hcap : grownCap W (0 + rows2.length) 0 e = cap at hrun hge hcm
    obtain ⟨γ', κ', k1, k2, k3⟩ := hC.moved (id := p) (b := ⟨e, ie.sz, []⟩) hp (rows2 := rows2) (ys2 := news) (sp2 := (Builtin.zeroCells z.cells (cap - (0 + rows2.length))).toList) (k := cap) (by simpa using hge) hcm (by
        simp only [List.length_append, Array.length_toList, size_zeroCells, hzl, hnl]
        rw [← Nat.add_mul]
        congr 1
        omega) hne hr2 hc2 (by simpa using hs2)
    have e2 : (([] : List Value) ++ news).toArray ++ Builtin.zeroCells z.cells (cap - (0 + rows2.length)) = (news ++ (Builtin.zeroCells z.cells (cap - (0 + rows2.length))).toList).toArray := by
      apply Array.toList_inj.1; simp
    rw [e2] at hrun
    simp only [List.nil_append] at k1
    refine ⟨_, γ', κ', _, append_exec ho (by rw [hA]; exact hrun), k1, ?_⟩
    rw [Nat.zero_add]
    refine .os _ _ ⟨e, ie.sz, rows2⟩ _ _ _ ?_ (Nat.le_refl _) fun _ => ⟨?_, rfl, k3.symm⟩
    · show (s.hp.set p _)[p]? = _
      rw [List.getElem?_set_self hid]
    · rw [show (St.mm ⟨s.env, s.hp.set p ⟨e, ie.sz, rows2⟩⟩ C γ' κ' _).γ p = γ' p from rfl, k2]; rfl
theorem OpOK.make_at (p : Nat) (hT : TsOK C.P T) (hd : dok C.nt o.dst = true) {t e : TypeId} {x y : Operand} (ho : o.op = .makeSlice t x y) {i ie : TI} (hi : look T t = some i) (hk : i.kd = .sl e) (hie : look T e = some ie) {k k2 : IntKind} {n m : Int} (hx : s.ev x = some (.imm (.int k n))) (hy : s.ev y = some (.imm (.int k2 m)))
    {sz : Nat} (hp : nth s.hp p = some ⟨e, sz, []⟩) (hsz : sz = ie.sz) (h0 : 0 < n) (h1 : n ≤ m) (hn : m ≤ 9223372036854775807) (hcell : ie.zero.all AV.cell = true) (hby : (ie.bytes : Int) * m ≤ 140737488355328) :
    OpOK C s o (St.put ⟨s.env, s.hp.set p ⟨e, sz, List.replicate n.toNat ie.zero⟩⟩ o.dst (.os p n.toNat)) :=
  OpOK.val hd fun γ κ a W hC => by
    subst hsz
    rw [nth_eq] at hp
    have hid : p < s.hp.length := (List.getElem?_eq_some_iff.1 hp).1
    obtain ⟨d, d1, d2, _⟩ := (hT t i hi).und
    rw [hk] at d2
    obtain rfl := kd_sl d2
    have hTe := hT e ie hie
    obtain ⟨it, z, i1, i2, i3, i4, i5⟩ := hTe.info
    have hz := constAVs_rep (M := s.mm C γ κ W) i5
    have hzl : z.cells.toList.length = ie.sz := by
      have := hz.length
      rw [hTe.zl] at this
      exact this.symm
    have h1x := hC.ev hx
    have h2x := hC.ev hy
    cases h1x with
    | imm _ _ h1x => cases h2x with
      | imm _ _ h2x =>
        have hmade : All2 (RepA (s.mm C γ κ W)) (reps m.toNat ie.zero) (madeCells z.cells (m.toNat * it.size)).toList := by
          have := madeCells_rep hz m.toNat
          rw [hzl] at this
          unfold madeCells
          rw [i2]
          simpa using this
        have hsplit : reps m.toNat ie.zero = reps n.toNat ie.zero ++ reps (m.toNat - n.toNat) ie.zero := by
          rw [← reps_add]; congr 1; omega
        rw [hsplit] at hmade
        have hm2 := hmade.split.1
        have hml : (madeCells z.cells (m.toNat * it.size)).toList.length = m.toNat * ie.sz := by rw [Array.length_toList, size_madeCells, i2]
        obtain ⟨γ', κ', c1, c2, c3⟩ := hC.place (p := p) (ty := e) (sz := ie.sz) hp (rows := List.replicate n.toNat ie.zero) (ys := (madeCells z.cells (m.toNat * it.size)).toList.take (reps n.toNat ie.zero).length) (sp := (madeCells z.cells (m.toNat * it.size)).toList.drop (reps n.toNat ie.zero).length) (k := m.toNat) (by simp; omega) (by simp only [maxLen]; omega) (by rw [List.take_append_drop, hml]) (by
            intro e
            have := congrArg List.length e
            simp at this
            omega) (fun r hr => by rw [(List.mem_replicate.1 hr).2]; exact hTe.zl) (fun c hc => by
            obtain ⟨r, hr, hc⟩ := List.mem_flatten.1 hc
            rw [(List.mem_replicate.1 hr).2] at hc
            exact List.all_eq_true.1 hcell c hc) (by rw [reps_flat]; exact hm2)
        rw [List.take_append_drop, Array.toArray_toList] at c1
        refine ⟨.slice (some ⟨W.heap.size, 0, none⟩) n.toNat m.toNat, γ', κ', _, ?_, c1, ?_⟩
        · unfold execOp; rw [ho]
          simp only [h1x.int_inv, h2x.int_inv]
          exact val_run (run_make (P := C.P) W t e it z d1 i1 i4 k k2 n m (by omega) h1 (by rw [i3]; omega) hn)
        · refine .os _ _ ⟨e, ie.sz, List.replicate n.toNat ie.zero⟩ _ _ _ ?_ (by simp) fun _ => ⟨?_, rfl, c3.symm⟩
          · show (s.hp.set p _)[p]? = _
            rw [List.getElem?_set_self hid]
          · rw [show (St.mm ⟨s.env, s.hp.set p ⟨e, ie.sz, List.replicate n.toNat ie.zero⟩⟩ C γ' κ' _).γ p = γ' p from rfl, c2]; rfl
/-- A call that is lent own blocks, ready to go on. -/
theorem AL.callG (m : List Nat) (n : Nat) (hw : awant l s o = some true) {fo : Operand} {args : Array Operand} {ats : Array TypeId} (ho : o.op = .call ⟨.value fo, args, ats⟩) (hd : dok C.nt o.dst = true) (hn : Nat.beq (len s.hp) n = true) {f : Nat} {caps : List AV} (hfo : s.ev fo = some (aFn f caps)) {vs : List AV} (hx : evs s args.toList = some vs)
    {hp0 : List Blk} {asx : List AV} {r : AV} {hp1 : List Blk} (hc : GenC C.P f hp0 asx r hp1)
    (hargs : vs ++ caps = asx.map (ren (rho m n))) (hhp : m.map (nth s.hp) = hp0.map (fun b => some (renB (rho m n) b))) (hnd : nodupB m = true)
    (hs0 : asx.all (AV.sc (len m)) = true) (hs1 : hp0.all (fun b => b.rows.all fun r => r.all (AV.sc1 (len m))) = true) (hs2 : r.sc (len hp1) = true) (hs3 : hp1.all (fun b => b.rows.all fun r => r.all (AV.sc1 (len hp1))) = true) (hge : Nat.ble (len m) (len hp1) = true)
    {hpA : List Blk} (eA : hp1.map (renB (rho m n)) = hpA) {r' : AV} (er : ren (rho m n) r = r') {env : List (Nat × AV)} {h2 : List Blk} (e2 : St.put ⟨s.env, setAll s.hp m hpA ++ hpA.drop (len m)⟩ o.dst r' = ⟨env, h2⟩) (k : AL C l Q rest ⟨env, h2⟩) : AL C l Q (o :: rest) s := by
  have hn' := Nat.eq_of_beq_eq_true hn
  rw [len_eq] at hn'
  subst hn'
  have := OpOK.callG ho hd hfo hx m hc hargs hhp hnd hs0 hs1 hs2 hs3 (Nat.le_of_ble_eq_true hge)
  rw [List.map_drop, eA, er, e2] at this
  exact AL.op hw this k
/-- The same in a region that draws: one place that was kept is filled. -/
theorem LS.callG1 (p : Nat) (hw : awant l s o = some true) {fo : Operand} {args : Array Operand} {ats : Array TypeId} (ho : o.op = .call ⟨.value fo, args, ats⟩) (hd : dok C.nt o.dst = true) {f : Nat} (hfo : s.ev fo = some (.imm (.fn f))) {vs : List AV} (hx : evs s args.toList = some vs)
    {ty sz : Nat} {b1 : Blk} {r : AV} (hc : GenC C.P f [⟨ty, sz, []⟩] vs r [b1]) (him : vs.all AV.im = true) (hren : ∀ n, vs.map (ren (rho [p] n)) = vs) (hs0 : vs.all (AV.sc 1) = true) (hp : nth s.hp p = some ⟨ty, sz, []⟩) (hs2 : r.sc 1 = true) (hs3 : (b1.rows.all fun r => r.all (AV.sc1 1)) = true)
    {bA : Blk} (eA : ∀ n, renB (rho [p] n) b1 = bA) {r' : AV} (er : ∀ n, ren (rho [p] n) r = r') :
    LS C l s o (mkFx l s o (.blk p bA r') [p]) :=
  LS.blk [p] hw fun s' hl => by
    have hp' := (hl.xb p (by simp)).trans hp
    have h1 : s'.ev fo = some (aFn f []) := (hl.ev fo (call_mem ho).1).trans hfo
    have h2 : evs s' args.toList = some vs := (hl.evs fun x hx => (call_mem ho).2 x hx).trans hx
    have := OpOK.callG ho hd (s := s') h1 h2 [p] hc (by rw [List.append_nil, hren]) (by simp only [List.map_cons, List.map_nil, hp']; rfl) rfl hs0 rfl hs2 (by simp only [len, List.all_cons, List.all_nil, Bool.and_true]; exact hs3) (by simp [len])
    simp only [List.map_cons, List.map_nil, eA, er, setAll, len, List.drop_succ_cons, List.drop_nil, List.append_nil] at this
    exact this
def isOwn (s : St) (q : AV) : Bool :=
  match q with
  | .ptr id ver _ _ => (match nth s.hp id with
    | some b => Nat.beq ver (len b.rows)
    | none => false)
  | _ => false
theorem isOwn_val (hC : Conc C s γ κ a W) {q : AV} {x : Value} (h : isOwn s q = true) (hr : RepA (s.mm C γ κ W) q x) : ∃ ad, x = .pointer (some ad) := by
  unfold isOwn at h
  split at h
  · rename_i id ver row off
    split at h
    · rename_i b hb
      have hv := Nat.eq_of_beq_eq_true h
      rw [len_eq] at hv
      rw [nth_eq] at hb
      obtain ⟨g, _, e⟩ := hr.ptr_val hb hv
      exact ⟨_, e⟩
    · cases h
  · cases h
theorem OpOK.ptrnil (hT : TsOK C.P T) (hd : dok C.nt o.dst = true) {ty t2 : TypeId} {x y : Operand} (ho : o.op = .binOp .eql ty x y t2) (hu : C.P.underlying ty = some (.pointer (C.P.pointee ty))) {q : AV} (hx : s.ev x = some q) (hq : isOwn s q = true) (hy : s.ev y = some (.imm .nilp)) : OpOK C s o (s.put o.dst (.imm (.bool false))) :=
  OpOK.quiet hd fun γ κ a W hC => by
    obtain ⟨ad, e⟩ := isOwn_val hC hq (hC.ev hx)
    have h2 := hC.ev hy
    have e2 : a.eval y = .pointer none := by
      generalize a.eval y = yv at h2
      cases h2 with
      | imm _ _ h2 => cases h2; rfl
    refine ⟨.bool false, bin_run ho (eqGuard_run (by rw [e, e2]) W) ?_, .imm _ _ (.bool _)⟩
    rw [e, e2]
    have := run_equalIn_pointer_nil (P := C.P) W 9999 ty (some ad) hu
    have h3 : (Op.equal ty (.pointer (some ad)) (.pointer none)).run C.P W = .ok false W := this
    unfold binOp
    simp only [Sem.run_bind, h3, Result.andThen_ok]
    rfl
theorem LS.ptrnil (hT : TsOK C.P T) (hw : awant l s o = some true) (hd : dok C.nt o.dst = true) {ty t2 : TypeId} {x y : Operand} (ho : o.op = .binOp .eql ty x y t2) (hu : C.P.underlying ty = some (.pointer (C.P.pointee ty))) {id ver row off : Nat} (hx : s.ev x = some (.ptr id ver row off)) {b : Blk} (hb : nth s.hp id = some b) (hv : ver = b.rows.length) (hy : s.ev y = some (.imm .nilp)) : LS C l s o (mkFx l s o (.val (.imm (.bool false))) []) :=
  LS.quiet [] hw fun s' hl => by
    have hx' := (hl.ev x (by rw [ho]; simp [Op.operands])).trans hx
    have hy' := (hl.ev y (by rw [ho]; simp [Op.operands])).trans hy
    have hb' := (hl.hp x (by rw [ho]; simp [Op.operands]) _ hx id (by simp [refs])).trans hb
    refine OpOK.ptrnil hT hd ho hu hx' ?_ hy'
    unfold isOwn
    simp only [hb', len_eq, hv]
    simp
/-- An entry of a map that stays, and whether there is one. -/
theorem OpOK.lookOk {α : Type} {kv : α → Value} {kf : α → List IV} {t k e : TypeId} (K : KeyT C.P k kv kf) (ht : C.P.underlying t = some (.map k e)) {z : Value} (hz : ∀ w, (zeroValue e).run C.P w = .ok z w) (hd : dok C.nt o.dst = true) {m x : Operand} (ho : o.op = .lookup t m x true) {mv : AV} (hm : s.ev m = some mv) {xs : List α} {vs : List (List IV)} (hmv : mapOf mv = some (xs.map kf, vs)) {q : α} (hx : s.ev x = some (pkA (kf q)))
    {i : Nat} (hi : xs[i]? = some q) (hfst : ∀ j : Nat, j < i → xs[j]? ≠ some q) {v : List IV} (hv : vs[i]? = some v) : OpOK C s o (s.put o.dst (.tup [pkA v, .imm (.bool true)])) :=
  OpOK.quiet hd fun γ κ a W hC => by
    obtain ⟨g, e1, h0, es, xss, yss, h1, h2, h3, h4, h5, h6⟩ := mapOf_inv (hC.ev hm) hmv
    obtain ⟨ys, k1, k2⟩ := pkA_inv (hC.ev hx)
    rw [K.rep k1] at k2
    obtain ⟨y, y1, y2⟩ := h6.get hv
    obtain ⟨en, n1, n2⟩ : ∃ en, es.toList[i]? = some en ∧ en.val = pkv y := by
      have := congrArg (fun l => l[i]?) h3
      simp only [List.getElem?_map, y1, Option.map_some] at this
      cases hen : es.toList[i]? with
      | none => rw [hen] at this; cases this
      | some en => rw [hen] at this; exact ⟨en, rfl, Option.some.inj this⟩
    refine ⟨.tuple #[pkv y, .bool true], ?_, ?_⟩
    · unfold execOp; rw [ho]
      simp only [e1, k2]
      refine val_run ?_
      rw [lookup_run ht (W := W) h1 (fun b => K.check b q W) (K.hit q W es.toList xs i en (h2.trans (K.keys h5)) hi n1 hfst) (hz W) true]
      simp only [n2]
      rfl
    · exact .tup _ [_, _] (.cons (pkA_rep y2) (.cons (.imm _ _ (.bool _)) .nil))
theorem LS.lookOk {α : Type} {kv : α → Value} {kf : α → List IV} {t k e : TypeId} (K : KeyT C.P k kv kf) (ht : C.P.underlying t = some (.map k e)) {z : Value} (hz : ∀ w, (zeroValue e).run C.P w = .ok z w) (hw : awant l s o = some true) (hd : dok C.nt o.dst = true) {m x : Operand} (ho : o.op = .lookup t m x true) {mv : AV} (hm : s.ev m = some mv) {xs : List α} {vs : List (List IV)} (hmv : mapOf mv = some (xs.map kf, vs)) {q : α} (hx : s.ev x = some (pkA (kf q)))
    {i : Nat} (hi : xs[i]? = some q) (hfst : ∀ j : Nat, j < i → xs[j]? ≠ some q) {v : List IV} (hv : vs[i]? = some v) : LS C l s o (mkFx l s o (.val (.tup [pkA v, .imm (.bool true)])) []) :=
  LS.quiet [] hw fun s' hl => OpOK.lookOk K ht hz hd ho ((hl.ev m (by rw [ho]; simp [Op.operands])).trans hm) hmv ((hl.ev x (by rw [ho]; simp [Op.operands])).trans hx) hi hfst hv
theorem LS.load_own (hT : TsOK C.P T) (hw : awant l s o = some true) (hd : dok C.nt o.dst = true) {t : TypeId} {p : Operand} (ho : o.op = .load t p) {i : TI} (hi : look T t = some i) {id ver row off : Nat} (hp : s.ev p = some (.ptr id ver row off))
    {b : Blk} (hb : nth s.hp id = some b) (hver : ver = b.rows.length) {r : List AV} (hr : b.rows[row]? = some r) {v : AV} (hl : ldRow i b.sz r off = some v) : LS C l s o (mkFx l s o (.val v) []) :=
  LS.quiet [] hw fun s' hl' => OpOK.load_own hT hd ho hi ((hl'.ev p (by rw [ho]; simp [Op.operands])).trans hp) ((hl'.hp p (by rw [ho]; simp [Op.operands]) _ hp id (by simp [refs])).trans hb) hver hr hl
theorem LS.len_os (hT : TsOK C.P T) (hw : awant l s o = some true) (hd : dok C.nt o.dst = true) {x : Operand} {t : TypeId} (ho : o.op = .call ⟨.builtin .len, #[x], #[t]⟩) {i : TI} (hi : look T t = some i) {e : TypeId} (hk : i.kd = .sl e) {id n : Nat} (hx : s.ev x = some (.os id n)) {b : Blk} (hb : nth s.hp id = some b) (hver : n = b.rows.length) : LS C l s o (mkFx l s o (.val (.imm (.int .i64 n))) []) :=
  LS.quiet [] hw fun s' hl => OpOK.len_os hT hd ho hi hk ((hl.ev x (by rw [ho]; simp [Op.operands, Call.operands])).trans hx) ((hl.hp x (by rw [ho]; simp [Op.operands, Call.operands]) _ hx id (by simp [refs])).trans hb) hver
end
end Go.Proofs.YtjjdabihnmilgaaGreat.A
