/- The abstract walk, part X: maps that the call makes, and regions that draw their order, order by order. -/
import Derived.Test.YtjjdabihnmilgaaGreatXRTGrpAG
import Derived.Test.YtjjdabihnmilgaaGreatXRTGrpAF
namespace Go.Proofs.YtjjdabihnmilgaaGreat.A
open Go.RowKit
set_option linter.unusedVariables false
set_option linter.unusedSimpArgs false
section
variable {C : Cx} {s : St} {γ : Nat → Option Nat} {κ : Nat → Nat} {a : Act} {W : World} {o : Oper} {T : List (Nat × TI)} {l rest : List Oper} {Q : Exit → St → Prop}
-- orders one by one
def AD (C : Cx) (l : List Oper) (Q : Exit → St → Prop) (n : Nat) (listed : Array Bool) (s : St) : Prop := ∀ γ κ a W, Conc C s γ κ a W → wpAny C.P .any l.toArray (CQ C Q) n listed a W
def AS (C : Cx) (l : List Oper) (Q : Exit → St → Prop) (n : Nat) (listed : Array Bool) (i : Nat) (s : St) : Prop := ∀ γ κ a W, Conc C s γ κ a W → wpOp C.P l.toArray (CQ C Q) i (wpAny C.P .any l.toArray (CQ C Q) n (listed.setIfInBounds i true)) a W
theorem AW.orders (hm : C.P.follows .mixedOrders = true) {id : Nat} (h : AD C l Q l.toArray.size (Array.replicate l.toArray.size false) s) : AW C (.region id l.toArray true) Q s := by
  intro γ κ a W hC
  refine wp_region_any hm ?_
  have hb : Below W.heap.size W { W with drawn := W.drawn + 1 } := ⟨rfl, rfl, rfl, Nat.le_refl _, fun _ _ => rfl⟩
  exact h γ κ a _ (hC.below hb)
theorem AD.nil {n : Nat} {listed : Array Bool} (hr : Region.ready .any l.toArray listed = []) (hQ : Q .normal s) : AD C l Q n listed s := by
  intro γ κ a W hC
  cases n with
  | zero => exact ⟨hr, s, γ, κ, hC, hQ⟩
  | succ n => exact ⟨fun _ => ⟨s, γ, κ, hC, hQ⟩, fun i hi => by rw [hr] at hi; cases hi⟩
theorem AD.one {n i : Nat} {listed : Array Bool} (hr : Region.ready .any l.toArray listed = [i]) (h : AS C l Q n listed i s) : AD C l Q (n + 1) listed s := by
  intro γ κ a W hC
  refine ⟨fun e => (by rw [hr] at e; cases e), fun j hj => ?_⟩
  rw [hr] at hj
  obtain rfl : j = i := by simpa using hj
  exact h γ κ a W hC
theorem AD.two {n i j : Nat} {listed : Array Bool} (hr : Region.ready .any l.toArray listed = [i, j]) (h : AS C l Q n listed i s) (h' : AS C l Q n listed j s) : AD C l Q (n + 1) listed s := by
  intro γ κ a W hC
  refine ⟨fun e => (by rw [hr] at e; cases e), fun k hk => ?_⟩
  rw [hr] at hk
  have hk : k = i ∨ k = j := by simpa using hk
  rcases hk with rfl | rfl
  · exact h γ κ a W hC
  · exact h' γ κ a W hC
theorem AS.op {n i : Nat} {listed : Array Bool} (ho : nth l i = some o) (hw : awant l s o = some true) {s1 : St} (h : OpOK C s o s1) (k : AD C l Q n (listed.setIfInBounds i true) s1) : AS C l Q n listed i s := by
  intro γ κ a W hC
  rw [nth_eq] at ho
  unfold wpOp
  rw [List.getElem?_toArray, ho]
  simp only
  rw [if_pos (awant_ok hC hw)]
  exact .inl (h γ κ a W hC _ _ k)
theorem AS.skip {n i : Nat} {listed : Array Bool} (ho : nth l i = some o) (hw : awant l s o = some false) (hd : dok C.nt o.dst = true) (k : AD C l Q n (listed.setIfInBounds i true) (s.put o.dst .undef)) : AS C l Q n listed i s := by
  intro γ κ a W hC
  rw [nth_eq] at ho
  unfold wpOp
  rw [List.getElem?_toArray, ho]
  simp only
  rw [if_neg (by rw [awant_ok hC hw]; simp)]
  exact k γ κ _ _ (hC.put hd .undef)
theorem AS.step (hT : TsOK C.P T) {n i : Nat} {listed : Array Bool} (ho : nth l i = some o) {e1 : List (Nat × AV)} {h1 : List Blk} (h : astep T C.nt l s o = some ⟨e1, h1⟩) (k : AD C l Q n (listed.setIfInBounds i true) ⟨e1, h1⟩) : AS C l Q n listed i s := by
  unfold astep at h
  split at h
  · rename_i hw
    split at h
    · rename_i hd
      exact AS.op ho hw (aop_ok hT hd h) k
    · cases h
  · rename_i hw
    split at h
    · rename_i hd
      have e := Option.some.inj h
      rw [← e] at k
      exact AS.skip ho hw hd k
    · cases h
  · cases h
-- a map is made
theorem Conc.fresh (hC : Conc C s γ κ a W) (ob : Obj) : Keep (s.mm C γ κ W) (s.mm C γ κ (W.alloc ob)) ∧ Conc C s γ κ a (W.alloc ob) ∧ ¬ nset C.X γ s.hp.length W.heap.size ∧ C.w0.heap.size ≤ W.heap.size := by
  have hb : Below W.heap.size W (W.alloc ob) := by
    refine ⟨rfl, rfl, rfl, (by show W.heap.size ≤ (W.heap.push ob).size; rw [Array.size_push]; exact Nat.le_succ _), fun b hb => ?_⟩
    exact Below.heap_alloc _ _ _ hb
  exact ⟨hC.below_keep hb, hC.below hb, fun h => Nat.lt_irrefl _ (hC.nlt _ h), hC.hsize⟩
theorem AL.makeMap {t : TypeId} (hw : awant l s o = some true) (hd : dok C.nt o.dst = true) (ho : o.op = .makeMap t none) (k : ∀ g, C.w0.heap.size ≤ g → AL C l Q rest (s.put o.dst (.mp g [] []))) : AL C l Q (o :: rest) s := by
  intro γ κ a W hC
  refine wpList_step fun K hK => ?_
  rw [if_pos (awant_ok hC hw)]
  obtain ⟨h1, h2, h3, h4⟩ := hC.fresh (.map #[] 0)
  unfold Oper.wp
  have e : (execOp a.eval o).run C.P W = .ok (.value (.map (some W.heap.size))) (W.alloc (.map #[] 0)) := by
    unfold execOp; rw [ho]; exact val_run rfl
  rw [e]
  refine hK _ _ (k W.heap.size h4 γ κ _ _ (h2.put hd (.mp _ _ _ ⟨h3, #[], [], [], ?_, rfl, rfl, rfl, .nil, .nil⟩)))
  exact heap_alloc_new W _
-- a map's block is written
def AV.nm0 : AV → Bool
  | .mp _ _ _ => false
  | .mpi _ _ => false
  | .agg _ => false
  | .tup _ => false
  | .fn _ _ => false
  | _ => true
def AV.nm1 : AV → Bool
  | .agg l => l.all AV.nm0
  | .tup l => l.all AV.nm0
  | .fn _ l => l.all AV.nm0
  | v => v.nm0
def AV.nm : AV → Bool
  | .agg l => l.all AV.nm1
  | .tup l => l.all AV.nm1
  | .fn _ l => l.all AV.nm1
  | v => v.nm1
def setB (W : World) (g : Nat) (ob : Obj) : World := { W with heap := W.heap.setIfInBounds g ob }
theorem setB_same {W : World} {g : Nat} {o1 ob : Obj} (h : W.heap[g]? = some o1) : (setB W g ob).heap[g]? = some ob := by
  have := blk_lt h
  show (W.heap.setIfInBounds g ob)[g]? = _
  rw [Array.getElem?_setIfInBounds_self_of_lt this]
theorem setB_other {W : World} {g b : Nat} {ob : Obj} (h : b ≠ g) : (setB W g ob).heap[b]? = W.heap[b]? := by
  show (W.heap.setIfInBounds g ob)[b]? = _
  rw [Array.getElem?_setIfInBounds_ne (Ne.symm h)]
theorem cell_setB {W : World} {g : Nat} {es : Array MapEntry} {cl : Nat} {ob : Obj} (h : W.heap[g]? = some (.map es cl)) {ad : Addr} {y : Value} (hc : W.cell? ad = some y) : (setB W g ob).cell? ad = some y := by
  by_cases e : ad.block = g
  · exfalso
    unfold World.cell? at hc
    rw [e, h] at hc
    cases hc
  · rw [World.cell?_of_block (w := W) (setB_other e)]; exact hc
theorem RepI.inB {W : World} {N : Nat → Prop} {g : Nat} {es : Array MapEntry} {cl : Nat} {ob : Obj} (hg : W.heap[g]? = some (.map es cl)) {v : IV} {x : Value} (h : RepI W N v x) : RepI (setB W g ob) N v x := by
  refine RepI.rec (motive_1 := fun v x _ => RepI (setB W g ob) N v x) (motive_2 := fun vs xs _ => All2 (RepI (setB W g ob) N) vs xs) (fun k n => .int k n) (fun b => .bool b) (fun s => .str s) (fun A c => .nil A c) ?_ .nilp .nilf (fun f => .fn f) (fun x h1 h2 h3 => .any x h1 h2 h3) .nil (fun _ _ h1 h2 => .cons h1 h2) h
  intro rows ad n c sz ys h0 hsz hn hc hb hr hy hrep ih
  exact .sl rows ad n c sz ys h0 hsz hn hc hb hr (fun i y h => cell_setB hg (hy i y h)) ih
theorem nm0_setB {g : Nat} {es : Array MapEntry} {cl : Nat} {ob : Obj} (hg : W.heap[g]? = some (.map es cl)) {v : AV} {x : Value} (h : RepA (s.mm C γ κ W) v x) (hv : v.nm0 = true) : RepA (s.mm C γ κ (setB W g ob)) v x := by
  cases h with
  | imm v x h => exact .imm _ _ (h.inB hg)
  | nils => exact .nils
  | nocap A => exact .nocap A
  | undef => exact .undef
  | pin l ad ys h0 hb hy h => exact .pin l ad ys h0 hb (fun i y h => cell_setB hg (hy i y h)) (h.mono fun _ _ h => h.inB hg)
  | ptr id ver row off b q hb hv' hx => exact .ptr id ver row off b q hb hv' hx
  | os id n b A c d hb hv' hx => exact .os id n b A c d hb hv' hx
  | sub id v o n b A c hb hv' hx hc => exact .sub id v o n b A c hb hv' hx hc
  | _ => simp [AV.nm0] at hv
theorem nmAll_setB {g : Nat} {es : Array MapEntry} {cl : Nat} {ob : Obj} {f : AV → Bool} (hf : ∀ {v x}, RepA (s.mm C γ κ W) v x → f v = true → RepA (s.mm C γ κ (setB W g ob)) v x) {l : List AV} {xs : List Value} (h : All2 (RepA (s.mm C γ κ W)) l xs) (hv : l.all f = true) : All2 (RepA (s.mm C γ κ (setB W g ob))) l xs := by
  rw [List.all_eq_true] at hv
  exact h.mono_mem fun v x hm _ hr => hf hr (hv v hm)
theorem nm1_setB {g : Nat} {es : Array MapEntry} {cl : Nat} {ob : Obj} (hg : W.heap[g]? = some (.map es cl)) {v : AV} {x : Value} (h : RepA (s.mm C γ κ W) v x) (hv : v.nm1 = true) : RepA (s.mm C γ κ (setB W g ob)) v x := by
  have h0 : ∀ {v x}, RepA (s.mm C γ κ W) v x → v.nm0 = true → RepA (s.mm C γ κ (setB W g ob)) v x := fun h hv => nm0_setB hg h hv
  cases h with
  | agg l xs h => exact .agg _ _ (nmAll_setB (es := es) (cl := cl) h0 h hv)
  | tup l xs h => exact .tup _ _ (nmAll_setB (es := es) (cl := cl) h0 h hv)
  | fn f l xs h => exact .fn _ _ _ (nmAll_setB (es := es) (cl := cl) h0 h hv)
  | _ => exact h0 (by first | exact .imm _ _ ‹_› | exact .nils | exact .nocap _ | exact .undef | exact .pin _ _ _ ‹_› ‹_› ‹_› ‹_› | exact .mp _ _ _ ‹_› | exact .mpi _ _ _ ‹_› | exact .ptr _ _ _ _ _ _ ‹_› ‹_› ‹_› | exact .os _ _ _ _ _ _ ‹_› ‹_› ‹_› | exact .sub _ _ _ _ _ _ _ ‹_› ‹_› ‹_› ‹_›) hv
theorem nm_setB {g : Nat} {es : Array MapEntry} {cl : Nat} {ob : Obj} (hg : W.heap[g]? = some (.map es cl)) {v : AV} {x : Value} (h : RepA (s.mm C γ κ W) v x) (hv : v.nm = true) : RepA (s.mm C γ κ (setB W g ob)) v x := by
  have h0 : ∀ {v x}, RepA (s.mm C γ κ W) v x → v.nm1 = true → RepA (s.mm C γ κ (setB W g ob)) v x := fun h hv => nm1_setB hg h hv
  cases h with
  | agg l xs h => exact .agg _ _ (nmAll_setB (es := es) (cl := cl) h0 h hv)
  | tup l xs h => exact .tup _ _ (nmAll_setB (es := es) (cl := cl) h0 h hv)
  | fn f l xs h => exact .fn _ _ _ (nmAll_setB (es := es) (cl := cl) h0 h hv)
  | _ => exact h0 (by first | exact .imm _ _ ‹_› | exact .nils | exact .nocap _ | exact .undef | exact .pin _ _ _ ‹_› ‹_› ‹_› ‹_› | exact .mp _ _ _ ‹_› | exact .mpi _ _ _ ‹_› | exact .ptr _ _ _ _ _ _ ‹_› ‹_› ‹_› | exact .os _ _ _ _ _ _ ‹_› ‹_› ‹_› | exact .sub _ _ _ _ _ _ _ ‹_› ‹_› ‹_› ‹_›) hv
/-- All maps among the slots are g; nothing else has one in it. -/
def mpOK (g : Nat) : List (Nat × AV) → Prop
  | [] => True
  | (_, v) :: r => (match v with
    | .mp g' _ _ => g' = g
    | v => v.nm = true) ∧ mpOK g r
/-- .. and g has other entries now. -/
def mset (ks vs : List (List IV)) : List (Nat × AV) → List (Nat × AV)
  | [] => []
  | (d, v) :: r => (d, match v with
    | .mp g _ _ => .mp g ks vs
    | v => v) :: mset ks vs r
def St.mset (s : St) (ks vs : List (List IV)) : St :=
  match s with
  | ⟨e, h⟩ => ⟨A.mset ks vs e, h⟩
theorem mset_get {g : Nat} {ks vs : List (List IV)} {t : Nat} {v : AV} : ∀ {e : List (Nat × AV)}, mpOK g e → get (mset ks vs e) t = some v → (∃ u, get e t = some u ∧ ((∃ k1 v1, u = .mp g k1 v1 ∧ v = .mp g ks vs) ∨ (u = v ∧ v.nm = true)))
  | [], _, h => by cases h
  | (d, u) :: r, hm, h => by
    simp only [mset, get] at h ⊢
    split at h
    · rename_i hd
      refine ⟨u, rfl, ?_⟩
      obtain ⟨h1, _⟩ := hm
      obtain rfl := Option.some.inj h
      cases u with
      | mp g' k1 v1 =>
        have h1 : g' = g := h1
        subst h1
        exact .inl ⟨k1, v1, rfl, rfl⟩
      | _ => exact .inr ⟨rfl, h1⟩
    · rename_i hd
      exact mset_get hm.2 h
theorem Conc.mset {g : Nat} {es es' : Array MapEntry} {cl cl' : Nat} {ks vs : List (List IV)} (hC : Conc C s γ κ a W) (hfr : C.w0.heap.size ≤ g) (hN : ¬ nset C.X γ s.hp.length g) (hg : W.heap[g]? = some (.map es cl)) (hm : mpOK g s.env) (hh : s.hp.all (fun b => b.rows.all fun r => r.all AV.nm) = true)
    (hnew : MapAt (setB W g (.map es' cl')) (nset C.X γ s.hp.length) g ks vs) : Conc C (s.mset ks vs) γ κ a (setB W g (.map es' cl')) := by
  obtain ⟨e, hp⟩ := s
  refine ⟨hC.size, hC.defers, ?_, ?_, hC.inj, hC.own, hC.xlt, ?_, hC.hos, hC.htape, hC.hout, ?_, hC.lent⟩
  · intro t v h
    obtain ⟨u, h1, h2⟩ := mset_get hm h
    obtain ⟨x, h3, h4⟩ := hC.env t u h1
    refine ⟨x, h3, ?_⟩
    rcases h2 with ⟨k1, v1, rfl, rfl⟩ | ⟨rfl, h5⟩
    · cases h4 with
      | mp _ _ _ _ => exact .mp _ _ _ hnew
    · exact nm_setB (s := ⟨e, hp⟩) hg h4 h5
  · intro id b hb
    have hB := hC.blk id b hb
    refine ⟨hB.pos, hB.rows, hB.cell, hB.cap, hB.capm, ?_⟩
    rcases hB.mem with h1 | ⟨g', ys, sp, h1, h2, h3, h4⟩
    · exact .inl h1
    · refine .inr ⟨g', ys, sp, h1, ?_, h3, ?_⟩
      · have hne : g' ≠ g := by
          intro e
          subst e
          have h2' : W.heap[g']? = _ := h2
          rw [hg] at h2'; cases h2'
        exact (setB_other hne).trans h2
      · rw [List.all_eq_true] at hh
        have hb' := hh b (List.mem_of_getElem? hb)
        rw [List.all_eq_true] at hb'
        refine h4.mono_mem fun v x hm _ hr => ?_
        obtain ⟨r, hr1, hr2⟩ := List.mem_flatten.1 hm
        have := hb' r hr1
        rw [List.all_eq_true] at this
        exact nm_setB (s := ⟨e, hp⟩) hg hr (this v hr2)
  · intro b hb hl
    rw [setB_other (by omega)]
    exact hC.old b hb hl
  · show C.w0.heap.size ≤ (W.heap.setIfInBounds g _).size
    rw [Array.size_setIfInBounds]; exact hC.hsize
/-- Cells as one value. -/
def pkA : List IV → AV
  | [v] => .imm v
  | l => .agg (l.map .imm)
theorem imm_all' {M : Mm} {l : List IV} : ∀ {ys : List Value}, All2 (RepA M) (l.map .imm) ys → All2 (RepI M.W M.N) l ys := by
  induction l with
  | nil => intro ys h; cases h; exact .nil
  | cons v l ih =>
    intro ys h
    cases h with
    | cons h1 h2 => cases h1 with
      | imm _ _ h1 => exact .cons h1 (ih h2)
theorem pkA_inv {M : Mm} {l : List IV} {x : Value} (h : RepA M (pkA l) x) : ∃ ys, All2 (RepI M.W M.N) l ys ∧ x = pkv ys := by
  unfold pkA at h
  split at h
  · cases h with
    | imm _ _ h => exact ⟨[x], .cons h .nil, rfl⟩
  · rename_i hne
    cases h with
    | agg _ xs h =>
      refine ⟨xs, imm_all' h, ?_⟩
      have hl := h.length
      unfold pkv
      split
      · rename_i y
        exfalso
        simp only [List.length_map, List.length_cons, List.length_nil] at hl
        obtain ⟨v, hv⟩ := List.length_eq_one_iff.1 hl
        exact hne v hv
      · rfl
theorem pkA_rep {M : Mm} {l : List IV} {ys : List Value} (h : All2 (RepI M.W M.N) l ys) : RepA M (pkA l) (pkv ys) := by
  unfold pkA
  split
  · cases h with
    | cons h1 h2 => cases h2; exact .imm _ _ h1
  · rename_i hne
    have hl := h.length
    have e : pkv ys = .agg ys.toArray := by
      unfold pkv
      split
      · exfalso
        simp only [List.length_cons, List.length_nil] at hl
        obtain ⟨v, hv⟩ := List.length_eq_one_iff.1 hl
        exact hne v hv
      · rfl
    rw [e]
    refine .agg _ _ ?_
    clear e hl hne
    induction h with
    | nil => exact .nil
    | cons h1 _ ih => exact .cons (.imm _ _ h1) ih
/-- Keys of a type: read as kf x, they are kv x. -/
structure KeyT {α : Type} (P : Program) (t : TypeId) (kv : α → Value) (kf : α → List IV) : Prop where
  check : ∀ e x w, (Instr.checkKey e 10000 t (kv x)).run P w = .ok () w
  miss : ∀ (k : α) (w : World) (es : List MapEntry) (xs : List α), es.map (·.key) = xs.map kv → k ∉ xs → (Instr.findKey t (kv k) es).run P w = .ok none w
  hit : ∀ (k : α) (w : World) (es : List MapEntry) (xs : List α) (i : Nat) (e : MapEntry), es.map (·.key) = xs.map kv → xs[i]? = some k → es[i]? = some e → (∀ j, j < i → xs[j]? ≠ some k) → (Instr.findKey t (kv k) es).run P w = .ok (some (i, e.val)) w
  rep : ∀ {W : World} {N : Nat → Prop} {x : α} {ys : List Value}, All2 (RepI W N) (kf x) ys → pkv ys = kv x
  ex : ∀ (W : World) (N : Nat → Prop) (x : α), ∃ ys, All2 (RepI W N) (kf x) ys
theorem findNow_int {d : TypeDesc} {q : IntKind} (hd : d = .int q) (kk : IntKind) (k : Int) : ∀ (es : List MapEntry) (xs : List Int) (n : Nat), es.map (·.key) = xs.map (Value.int kk) →
    (k ∉ xs → Instr.findNow d (.int kk k) es n = some none) ∧ (∀ i e, xs[i]? = some k → es[i]? = some e → (∀ j, j < i → xs[j]? ≠ some k) → Instr.findNow d (.int kk k) es n = some (some (n + i, e.val))) := by
  subst hd
  intro es
  induction es with
  | nil =>
    intro xs n h
    have : xs = [] := by simpa using h.symm
    subst this
    exact ⟨fun _ => rfl, fun i e h => by simp at h⟩
  | cons e0 es ih =>
    intro xs n h
    cases xs with
    | nil => simp at h
    | cons x xs =>
      simp only [List.map_cons, List.cons.injEq] at h
      obtain ⟨h1, h2⟩ := h
      obtain ⟨k1, k2⟩ := ih xs (n + 1) h2
      have e1 : Instr.findNow (.int q) (.int kk k) (e0 :: es) n = match (some (k == x) : Option Bool) with
        | some true => some (some (n, e0.val))
        | some false => Instr.findNow (.int q) (.int kk k) es (n + 1)
        | none => none := by
        rw [Instr.findNow, h1]
        simp only [Instr.sameNow, if_true]
        cases (k == x) <;> rfl
      by_cases hx : k = x
      · subst hx
        refine ⟨fun hn => absurd (by simp) hn, fun i e hi he hj => ?_⟩
        have : i = 0 := by
          rcases Nat.eq_zero_or_pos i with h | h
          · exact h
          · exact absurd rfl (hj 0 h)
        subst this
        simp only [List.getElem?_cons_zero, Option.some.injEq] at he
        subst he
        rw [e1]; simp
      · have hb : (k == x) = false := by simpa using hx
        rw [e1, hb]
        refine ⟨fun hn => k1 fun hm => hn (by simp [hm]), fun i e hi he hj => ?_⟩
        cases i with
        | zero => simp at hi; exact absurd hi.symm hx
        | succ i =>
          simp only [List.getElem?_cons_succ] at hi he
          have := k2 i e hi he fun j hjl => by simpa using hj (j + 1) (by omega)
          rw [this, show n + 1 + i = n + (i + 1) by omega]
theorem KeyT.int {P : Program} {t : TypeId} {q : IntKind} (ht : P.underlying t = some (.int q)) (kk : IntKind) : KeyT P t (fun n : Int => .int kk n) (fun n => [.int kk n]) where
  check e x w := by
    show (Instr.checkKey e (9999 + 1) t _).run P w = _
    unfold Instr.checkKey
    simp only [Sem.run_bind, run_underlying ht, Result.andThen]
    rfl
  miss k w es xs h hn := by
    unfold Instr.findKey
    simp only [Sem.run_bind, run_underlying ht, Result.andThen]
    have := (findNow_int (q := q) rfl kk k es xs 0 h).1 hn
    rw [this]; rfl
  hit k w es xs i e h hi he hj := by
    unfold Instr.findKey
    simp only [Sem.run_bind, run_underlying ht, Result.andThen]
    have := (findNow_int (q := q) rfl kk k es xs 0 h).2 i e hi he hj
    rw [this, Nat.zero_add]; rfl
  rep h := by
    cases h with
    | cons h1 h2 => cases h1; cases h2; rfl
  ex W N x := ⟨[.int kk x], .cons (.int _ _) .nil⟩
theorem findAsking_run {α : Type} {P : Program} {t : TypeId} {kv : α → Value} (heq : ∀ x y w, (Op.equal t (kv x) (kv y)).run P w = .ok (dec (x = y)) w) (k : α) (w : World) : ∀ (es : List MapEntry) (xs : List α) (n : Nat), es.map (·.key) = xs.map kv →
    (k ∉ xs → (Instr.findAsking t (kv k) es n).run P w = .ok none w) ∧ (∀ i e, xs[i]? = some k → es[i]? = some e → (∀ j, j < i → xs[j]? ≠ some k) → (Instr.findAsking t (kv k) es n).run P w = .ok (some (n + i, e.val)) w) := by
  intro es
  induction es with
  | nil =>
    intro xs n h
    have : xs = [] := by simpa using h.symm
    subst this
    exact ⟨fun _ => rfl, fun i e h => by simp at h⟩
  | cons e0 es ih =>
    intro xs n h
    cases xs with
    | nil => simp at h
    | cons x xs =>
      simp only [List.map_cons, List.cons.injEq] at h
      obtain ⟨h1, h2⟩ := h
      obtain ⟨k1, k2⟩ := ih xs (n + 1) h2
      have e1 : (Instr.findAsking t (kv k) (e0 :: es) n).run P w = if dec (k = x) = true then .ok (some (n, e0.val)) w else (Instr.findAsking t (kv k) es (n + 1)).run P w := by
        rw [Instr.findAsking, h1, Sem.run_bind, heq]
        simp only [Result.andThen]
        cases dec (k = x) <;> rfl
      by_cases hx : k = x
      · subst hx
        refine ⟨fun hn => absurd (by simp) hn, fun i e hi he hj => ?_⟩
        have : i = 0 := by
          rcases Nat.eq_zero_or_pos i with h | h
          · exact h
          · exact absurd rfl (hj 0 h)
        subst this
        simp only [List.getElem?_cons_zero, Option.some.injEq] at he
        subst he
        rw [e1, dec_pos rfl]; rfl
      · rw [e1, dec_neg hx]
        refine ⟨fun hn => (by have := k1 fun hm => hn (by simp [hm]); simpa using this), fun i e hi he hj => ?_⟩
        cases i with
        | zero => simp at hi; exact absurd hi.symm hx
        | succ i =>
          simp only [List.getElem?_cons_succ] at hi he
          have := k2 i e hi he fun j hjl => by simpa using hj (j + 1) (by omega)
          simp only [Bool.false_eq_true, if_false]
          rw [this, show n + 1 + i = n + (i + 1) by omega]
theorem KeyT.two {P : Program} {t : TypeId} {fs : Array Field} (ht : P.underlying t = some (.struct fs)) (hc : ∀ e a b w, (Instr.checkKey e 10000 t (.agg #[.string a, .string b])).run P w = .ok () w)
    (heq : ∀ (x y : ByteArray × ByteArray) w, (Op.equal t (.agg #[.string x.1, .string x.2]) (.agg #[.string y.1, .string y.2])).run P w = .ok (dec (x = y)) w) : KeyT P t (fun p : ByteArray × ByteArray => .agg #[.string p.1, .string p.2]) (fun p => [.str p.1, .str p.2]) where
  check e x w := hc e x.1 x.2 w
  miss k w es xs h hn := by
    unfold Instr.findKey
    simp only [Sem.run_bind, run_underlying ht, Result.andThen]
    cases es with
    | nil => rfl
    | cons e0 es =>
      have hnow : Instr.findNow (.struct fs) (.agg #[.string k.1, .string k.2]) (e0 :: es) 0 = none := by
        rw [Instr.findNow]; rfl
      rw [hnow]
      exact (findAsking_run heq k w _ xs 0 h).1 hn
  hit k w es xs i e h hi he hj := by
    unfold Instr.findKey
    simp only [Sem.run_bind, run_underlying ht, Result.andThen]
    cases es with
    | nil => simp at he
    | cons e0 es =>
      have hnow : Instr.findNow (.struct fs) (.agg #[.string k.1, .string k.2]) (e0 :: es) 0 = none := by
        rw [Instr.findNow]; rfl
      rw [hnow]
      have := (findAsking_run heq k w _ xs 0 h).2 i e hi he hj
      rw [Nat.zero_add] at this
      exact this
  rep h := by
    cases h with
    | cons h1 h2 => cases h1; cases h2 with | cons h1 h2 => cases h1; cases h2; rfl
  ex W N x := ⟨[.string x.1, .string x.2], .cons (.str _) (.cons (.str _) .nil)⟩
-- operations
def mapOf : AV → Option (List (List IV) × List (List IV))
  | .mp _ ks vs => some (ks, vs)
  | .mpi ks vs => some (ks, vs)
  | _ => none
theorem mapOf_inv {M : Mm} {v : AV} {x : Value} {ks vs : List (List IV)} (h : RepA M v x) (hm : mapOf v = some (ks, vs)) : ∃ g, x = .map (some g) ∧ MapAt M.W M.N g ks vs := by
  cases h with
  | mp g ks' vs' h =>
    simp only [mapOf, Option.some.injEq, Prod.mk.injEq] at hm
    obtain ⟨rfl, rfl⟩ := hm
    exact ⟨g, rfl, h⟩
  | mpi g ks' vs' h =>
    simp only [mapOf, Option.some.injEq, Prod.mk.injEq] at hm
    obtain ⟨rfl, rfl⟩ := hm
    exact ⟨g, rfl, h⟩
  | _ => cases hm
theorem KeyT.keys {α : Type} {P : Program} {t : TypeId} {kv : α → Value} {kf : α → List IV} (K : KeyT P t kv kf) {W : World} {N : Nat → Prop} : ∀ {xs : List α} {yss : List (List Value)}, All2 (All2 (RepI W N)) (xs.map kf) yss → yss.map pkv = xs.map kv := by
  intro xs
  induction xs with
  | nil => intro yss h; cases h; rfl
  | cons x xs ih =>
    intro yss h
    cases h with
    | cons h1 h2 => simp only [List.map_cons, K.rep h1, ih h2]
theorem lookup_run {P : Program} {t k e : TypeId} (ht : P.underlying t = some (.map k e)) {g : Nat} {es : Array MapEntry} {cl : Nat} {W : World} (hg : W.heap[g]? = some (.map es cl)) {key : Value} (hc : ∀ b, (Instr.checkKey b 10000 k key).run P W = .ok () W) {r : Option (Nat × Value)} (hf : (Instr.findKey k key es.toList).run P W = .ok r W) {z : Value} (hz : (zeroValue e).run P W = .ok z W) (ok : Bool) :
    (Instr.lookup t (.map (some g)) key ok).run P W = .ok (match r with
      | some (_, v) => (if ok then .tuple #[v, .bool true] else v)
      | none => (if ok then .tuple #[z, .bool false] else z)) W := by
  unfold Instr.lookup
  simp only [Sem.run_bind, run_underlying ht, Result.andThen, MapKept.run_getObj_map hg, run_pure, hc, hf]
  cases r with
  | none => simp only [Sem.run_bind, hz, Result.andThen, run_pure]
  | some p => rfl
theorem OpOK.look0 {α : Type} {kv : α → Value} {kf : α → List IV} {t k e : TypeId} (K : KeyT C.P k kv kf) (ht : C.P.underlying t = some (.map k e)) (hz : ∀ w, (zeroValue e).run C.P w = .ok (.int .i64 0) w) (hd : dok C.nt o.dst = true) {m x : Operand} (ho : o.op = .lookup t m x false) {mv : AV} (hm : s.ev m = some mv) {xs : List α} {vs : List (List IV)} (hmv : mapOf mv = some (xs.map kf, vs)) {q : α} (hx : s.ev x = some (pkA (kf q))) (hq : q ∉ xs) : OpOK C s o (s.put o.dst (.imm (.int .i64 0))) :=
  OpOK.quiet hd fun γ κ a W hC => by
    obtain ⟨g, e1, h0, es, xss, yss, h1, h2, h3, h4, h5, h6⟩ := mapOf_inv (hC.ev hm) hmv
    obtain ⟨ys, k1, k2⟩ := pkA_inv (hC.ev hx)
    rw [K.rep k1] at k2
    refine ⟨.int .i64 0, ?_, .imm _ _ (.int _ _)⟩
    unfold execOp; rw [ho]
    simp only [e1, k2]
    refine val_run ?_
    rw [lookup_run ht (W := W) h1 (fun b => K.check b q W) (K.miss q W es.toList xs (h2.trans (K.keys h5)) hq) (hz W) false]
    rfl
/-- 1 for true. -/
noncomputable def ind (b : Bool) : Int := match b with
  | true => 1
  | false => 0
theorem ind_pos {p : Prop} : 0 < ind (dec p) ↔ p := by
  by_cases h : p
  · rw [dec_pos h]; simp [ind, h]
  · rw [dec_neg h]; simp [ind, h]
/-- The rewritings of a condition that was decided, in one. -/
theorem hsx : (∀ p : Prop, (dec p = true) = p) ∧ (∀ p : Prop, (dec p = false) = ¬p) ∧ (∀ {p : Prop} [Decidable p], (decide p = true) = p) ∧ (∀ {p : Prop} {x : Decidable p}, decide p = false ↔ ¬p) ∧ (∀ {α : Type} [BEq α] [LawfulBEq α] {a b : α}, (a == b) = true ↔ a = b) ∧ (∀ {α : Type} [BEq α] [LawfulBEq α] {a b : α}, (a != b) = true ↔ a ≠ b) ∧
    (∀ {α : Type} (a b : α), (a ≠ b) = ¬a = b) ∧ (∀ {α : Type} [BEq α] [LawfulBEq α] {a b : α}, (a == b) = false ↔ a ≠ b) ∧ (∀ {α : Type} [BEq α] [LawfulBEq α] {a b : α}, (a != b) = false ↔ a = b) ∧ (∀ b : Bool, ((!b) = true) = (b = false)) ∧ (∀ b : Bool, ((!b) = false) = (b = true)) ∧ (∀ b : Bool, (¬b = true) = (b = false)) ∧ (∀ b : Bool, (¬b = false) = (b = true)) ∧
    (∀ {α : Type} [LT α] {x y : α}, x > y ↔ y < x) ∧ (∀ {α : Type} [LE α] {x y : α}, x ≥ y ↔ y ≤ x) ∧ (∀ {a b : Int}, ¬a < b ↔ b ≤ a) ∧ (∀ {a b : Int}, ¬a ≤ b ↔ b < a) ∧ (∀ {p : Prop} [Decidable p], ¬¬p ↔ p) ∧ (∀ {α β : Type} {xs : List α} (f : α → β), (List.map f xs).length = xs.length) ∧ (∀ {α : Type}, ([] : List α).length = 0) ∧ (∀ {α : Type} {a : α} {xs : List α}, (a :: xs).length = xs.length + 1) ∧ ∀ {p : Prop}, 0 < ind (dec p) ↔ p :=
  ⟨dec_true, dec_false, decide_eq_true_eq, decide_eq_false_iff_not, beq_iff_eq, bne_iff_ne, ne_eq, beq_eq_false_iff_ne, bne_eq_false_iff_eq, Bool.not_eq_true', Bool.not_eq_false', Bool.not_eq_true, Bool.not_eq_false, gt_iff_lt, ge_iff_le, Int.not_lt, Int.not_le, Decidable.not_not, fun f => List.length_map f, List.length_nil, List.length_cons, ind_pos⟩
theorem first_at {α : Type} (q : α) : ∀ (xs : List α), q ∈ xs → ∃ i : Nat, xs[i]? = some q ∧ ∀ j : Nat, j < i → xs[j]? ≠ some q
  | [], h => by cases h
  | x :: xs, h => by
    by_cases e : x = q
    · subst e; exact ⟨0, rfl, fun j hj => by omega⟩
    · obtain ⟨i, h1, h2⟩ := first_at q xs (by rcases List.mem_cons.1 h with h | h; exact absurd h.symm e; exact h)
      refine ⟨i + 1, by simpa using h1, fun j hj => ?_⟩
      cases j with
      | zero => simpa using e
      | succ j => simpa using h2 j (by omega)
theorem OpOK.look1 {α : Type} {kv : α → Value} {kf : α → List IV} {t k e : TypeId} (K : KeyT C.P k kv kf) (ht : C.P.underlying t = some (.map k e)) (hz : ∀ w, (zeroValue e).run C.P w = .ok (.int .i64 0) w) (hd : dok C.nt o.dst = true) {m x : Operand} (ho : o.op = .lookup t m x false) {mv : AV} (hm : s.ev m = some mv) {xs : List α} {vs : List (List IV)} (hmv : mapOf mv = some (xs.map kf, vs)) (hvs : vs = xs.map fun _ => [.int .i64 1]) {q : α} (hx : s.ev x = some (pkA (kf q))) : OpOK C s o (s.put o.dst (.imm (.int .i64 (ind (dec (q ∈ xs)))))) :=
  OpOK.quiet hd fun γ κ a W hC => by
    obtain ⟨g, e1, h0, es, xss, yss, h1, h2, h3, h4, h5, h6⟩ := mapOf_inv (hC.ev hm) hmv
    obtain ⟨ys, k1, k2⟩ := pkA_inv (hC.ev hx)
    rw [K.rep k1] at k2
    refine ⟨.int .i64 (ind (dec (q ∈ xs))), ?_, .imm _ _ (.int _ _)⟩
    unfold execOp; rw [ho]
    simp only [e1, k2]
    refine val_run ?_
    have hkeys := h2.trans (K.keys h5)
    by_cases hq : q ∈ xs
    · obtain ⟨i, i1, i2⟩ := first_at q xs hq
      have hlen : es.toList.length = xs.length := by simpa using congrArg List.length hkeys
      have hil : i < xs.length := (List.getElem?_eq_some_iff.1 i1).1
      obtain ⟨ent, hent⟩ : ∃ ent, es.toList[i]? = some ent := ⟨_, List.getElem?_eq_getElem (by omega)⟩
      have hval : ent.val = .int .i64 1 := by
        subst hvs
        have a1 : (xs.map fun _ => [IV.int .i64 1])[i]? = some [.int .i64 1] := by rw [List.getElem?_map, i1]; rfl
        obtain ⟨y, b1, b2⟩ := h6.get a1
        have c1 := congrArg (·[i]?) h3
        simp only [List.getElem?_map, hent, b1, Option.map_some, Option.some.injEq] at c1
        rw [c1]
        cases b2 with
        | cons b2 b3 => cases b3; cases b2; rfl
      rw [lookup_run ht (W := W) h1 (fun b => K.check b q W) (K.hit q W es.toList xs i ent hkeys i1 hent i2) (hz W) false]
      rw [dec_pos hq]
      simp only [hval]
      rfl
    · rw [lookup_run ht (W := W) h1 (fun b => K.check b q W) (K.miss q W es.toList xs hkeys hq) (hz W) false, dec_neg hq]
      rfl
/-- The entry that was put last. -/
theorem OpOK.look2 {α : Type} {kv : α → Value} {kf : α → List IV} {t k e : TypeId} (K : KeyT C.P k kv kf) (ht : C.P.underlying t = some (.map k e)) (hz : ∀ w, (zeroValue e).run C.P w = .ok (.int .i64 0) w) (hd : dok C.nt o.dst = true) {m x : Operand} (ho : o.op = .lookup t m x false) {mv : AV} (hm : s.ev m = some mv) {xs : List α} {vs : List (List IV)} {q : α} {z : Int} (hmv : mapOf mv = some (xs.map kf ++ [kf q], vs ++ [[.int .i64 z]])) (hx : s.ev x = some (pkA (kf q))) (hl : vs.length = xs.length) (hq : q ∉ xs) : OpOK C s o (s.put o.dst (.imm (.int .i64 z))) :=
  OpOK.quiet hd fun γ κ a W hC => by
    obtain ⟨g, e1, h0, es, xss, yss, h1, h2, h3, h4, h5, h6⟩ := mapOf_inv (hC.ev hm) hmv
    obtain ⟨ys, k1, k2⟩ := pkA_inv (hC.ev hx)
    rw [K.rep k1] at k2
    refine ⟨.int .i64 z, ?_, .imm _ _ (.int _ _)⟩
    unfold execOp; rw [ho]
    simp only [e1, k2]
    refine val_run ?_
    have hkeys : es.toList.map (·.key) = (xs ++ [q]).map kv := h2.trans (K.keys (xs := xs ++ [q]) (by simpa using h5))
    have i1 : (xs ++ [q])[xs.length]? = some q := by simp
    have hlen : es.toList.length = xs.length + 1 := by simpa using congrArg List.length hkeys
    obtain ⟨ent, hent⟩ : ∃ ent, es.toList[xs.length]? = some ent := ⟨_, List.getElem?_eq_getElem (by omega)⟩
    have hval : ent.val = .int .i64 z := by
      have a1 : (vs ++ [[IV.int .i64 z]])[xs.length]? = some [.int .i64 z] := by rw [← hl]; simp
      obtain ⟨y, b1, b2⟩ := h6.get a1
      have c1 := congrArg (·[xs.length]?) h3
      simp only [List.getElem?_map, hent, b1, Option.map_some, Option.some.injEq] at c1
      rw [c1]
      cases b2 with
      | cons b2 b3 => cases b3; cases b2; rfl
    rw [lookup_run ht (W := W) h1 (fun b => K.check b q W) (K.hit q W es.toList _ xs.length ent hkeys i1 hent fun j hj e => ?_) (hz W) false]
    · simp only [hval]
      rfl
    · rw [List.getElem?_append_left hj] at e
      exact hq (List.mem_of_getElem? e)
theorem all2_snoc {α β : Type} {R : α → β → Prop} {l : List α} {m : List β} (h : All2 R l m) {a : α} {b : β} (hab : R a b) : All2 R (l ++ [a]) (m ++ [b]) := h.append (.cons hab .nil)
theorem push_at {W : World} {N : Nat → Prop} {g : Nat} {es : Array MapEntry} {xss yss : List (List Value)} {ks vs : List (List IV)} (h0 : ¬ N g) (h1 : W.heap[g]? = some (.map es es.size)) (h2 : es.toList.map (·.key) = xss.map pkv) (h3 : es.toList.map (·.val) = yss.map pkv) (h4 : es.toList.map (·.born) = List.range es.size) (h5 : All2 (All2 (RepI W N)) ks xss) (h6 : All2 (All2 (RepI W N)) vs yss)
    {kx vx : List Value} {k v : List IV} (hk : All2 (RepI W N) k kx) (hv : All2 (RepI W N) v vx) : MapAt (setB W g (.map (es.push { key := pkv kx, val := pkv vx, born := es.size }) (es.size + 1))) N g (ks ++ [k]) (vs ++ [v]) := by
  refine ⟨h0, es.push { key := pkv kx, val := pkv vx, born := es.size }, xss ++ [kx], yss ++ [vx], ?_, ?_, ?_, ?_, ?_, ?_⟩
  · rw [setB_same h1, Array.size_push]
  · simp [h2]
  · simp [h3]
  · simp only [Array.toList_push, List.map_append, h4, Array.size_push, List.range_succ, List.map_cons, List.map_nil]
  · exact all2_snoc (h5.mono fun _ _ h => h.mono fun _ _ h => h.inB h1) (hk.mono fun _ _ h => h.inB h1)
  · exact all2_snoc (h6.mono fun _ _ h => h.mono fun _ _ h => h.inB h1) (hv.mono fun _ _ h => h.inB h1)
/-- m[k] = v, of a key that m hasn't. -/
theorem OpOK.put0 {α : Type} {kv : α → Value} {kf : α → List IV} {t k e : TypeId} (K : KeyT C.P k kv kf) (ht : C.P.underlying t = some (.map k e)) (hd : o.dst = none) {m x y : Operand} (ho : o.op = .mapUpdate t m x y ∨ o.op = .insert t m x y) {g : Nat} (hfr : C.w0.heap.size ≤ g) {xs : List α} {ks vs : List (List IV)} (hm : s.ev m = some (.mp g ks vs)) (hks : ks = xs.map kf) {q : α} (hx : s.ev x = some (pkA (kf q))) {v : List IV} {va : AV} (hy : s.ev y = some va)
    (hva : ∀ (M : Mm) z, RepA M va z → ∃ zs, All2 (RepI M.W M.N) v zs ∧ z = pkv zs) (hq : q ∉ xs) (hok : mpOK g s.env) (hh : s.hp.all (fun b => b.rows.all fun r => r.all AV.nm) = true) : OpOK C s o (s.mset (ks ++ [kf q]) (vs ++ [v])) :=
  OpOK.skip hd fun γ κ a W hC => by
    obtain ⟨g', e1, h0, es, xss, yss, h1, h2, h3, h4, h5, h6⟩ := mapOf_inv (hC.ev hm) rfl
    have eg : g' = g := by
      have h := hC.ev hm
      rw [e1] at h
      cases h; rfl
    subst eg
    obtain ⟨kx, k1, k2⟩ := pkA_inv (hC.ev hx)
    obtain ⟨vx, v1, v2⟩ := hva _ _ (hC.ev hy)
    subst hks
    refine ⟨γ, κ, setB W g' (.map (es.push { key := pkv kx, val := pkv vx, born := es.size }) (es.size + 1)), ?_, hC.mset hfr h0 h1 hok hh (push_at h0 h1 h2 h3 h4 h5 h6 k1 v1)⟩
    have hkq := K.rep k1
    have hrun : (Instr.mapUpdate t (.map (some g')) (pkv kx) (pkv vx)).run C.P W = .ok () (setB W g' (.map (es.push { key := pkv kx, val := pkv vx, born := es.size }) (es.size + 1))) := by
      unfold Instr.mapUpdate
      rw [hkq]
      have h1' : W.heap[g']? = _ := h1
      simp only [Sem.run_bind, run_underlying ht, Result.andThen, MapKept.run_getObj_map h1', K.check, K.miss q W es.toList xs (h2.trans (K.keys h5)) hq]
      rw [MapKept.run_setObj_map _ h1']
      rfl
    unfold execOp
    rcases ho with ho | ho <;> rw [ho] <;> simp only [e1, k2, v2] <;> exact unit_run hrun
/-- m[k] op= v, first half, of a key that m hasn't. -/
theorem OpOK.ent0 {α : Type} {kv : α → Value} {kf : α → List IV} {t k e : TypeId} (K : KeyT C.P k kv kf) (ht : C.P.underlying t = some (.map k e)) (hz : ∀ w, (zeroValue e).run C.P w = .ok (.int .i64 0) w) {d : Nat} (hd : o.dst = some d) (hdk : dok C.nt o.dst = true) {m x : Operand} (ho : o.op = .mapEntry t m x) {g : Nat} (hfr : C.w0.heap.size ≤ g) {xs : List α} {ks vs : List (List IV)} (hm : s.ev m = some (.mp g ks vs)) (hks : ks = xs.map kf) {q : α} (hx : s.ev x = some (pkA (kf q)))
    (hq : q ∉ xs) (hok : mpOK g s.env) (hh : s.hp.all (fun b => b.rows.all fun r => r.all AV.nm) = true) : OpOK C s o ((s.mset (ks ++ [kf q]) (vs ++ [[.int .i64 0]])).put o.dst (.tup [.imm (.int .i64 0), .imm (.int .i64 xs.length)])) :=
  OpOK.val hdk fun γ κ a W hC => by
    obtain ⟨g', e1, h0, es, xss, yss, h1, h2, h3, h4, h5, h6⟩ := mapOf_inv (hC.ev hm) rfl
    have eg : g' = g := by
      have h := hC.ev hm
      rw [e1] at h
      cases h; rfl
    subst eg
    obtain ⟨kx, k1, k2⟩ := pkA_inv (hC.ev hx)
    subst hks
    have hkeys := h2.trans (K.keys h5)
    have hlen : es.size = xs.length := by simpa using congrArg List.length hkeys
    refine ⟨.tuple #[.int .i64 0, .int .i64 es.size], γ, κ, setB W g' (.map (es.push { key := pkv kx, val := pkv [.int .i64 0], born := es.size }) (es.size + 1)), ?_, hC.mset hfr h0 h1 hok hh (push_at h0 h1 h2 h3 h4 h5 h6 k1 (.cons (.int _ _) .nil)), ?_⟩
    · have hkq := K.rep k1
      have hrun : (Instr.mapEntry t (.map (some g')) (pkv kx)).run C.P W = .ok (.tuple #[.int .i64 0, .int .i64 es.size]) (setB W g' (.map (es.push { key := pkv kx, val := pkv [.int .i64 0], born := es.size }) (es.size + 1))) := by
        unfold Instr.mapEntry
        rw [hkq]
        have h1' : W.heap[g']? = _ := h1
        simp only [Sem.run_bind, run_underlying ht, Result.andThen, MapKept.run_getObj_map h1', K.check, K.miss q W es.toList xs hkeys hq, hz]
        rw [MapKept.run_setObj_map _ h1']
        rfl
      unfold execOp
      rw [ho]
      simp only [e1, k2]
      exact val_run hrun
    · rw [hlen]
      exact .tup _ [.int .i64 0, .int .i64 xs.length] (.cons (.imm _ _ (.int _ _)) (.cons (.imm _ _ (.int _ _)) .nil))
/-- .. and its second half. -/
theorem OpOK.ent1 {t : TypeId} (hd : o.dst = none) {m x y : Operand} (ho : o.op = .entryStore t m x y) {g n : Nat} (hfr : C.w0.heap.size ≤ g) {ks vs : List (List IV)} {u : List IV} (hm : s.ev m = some (.mp g ks (vs ++ [u]))) (hn : n = vs.length) (hx : s.ev x = some (.imm (.int .i64 n))) {v : List IV} (hy : s.ev y = some (pkA v))
    (hok : mpOK g s.env) (hh : s.hp.all (fun b => b.rows.all fun r => r.all AV.nm) = true) : OpOK C s o (s.mset ks (vs ++ [v])) :=
  OpOK.skip hd fun γ κ a W hC => by
    obtain ⟨g', e1, h0, es, xss, yss, h1, h2, h3, h4, h5, h6⟩ := mapOf_inv (hC.ev hm) rfl
    have eg : g' = g := by
      have h := hC.ev hm
      rw [e1] at h
      cases h; rfl
    subst eg
    obtain ⟨vx, v1, v2⟩ := pkA_inv (hC.ev hy)
    have h1' : W.heap[g']? = _ := h1
    have hx' : a.eval x = .int .i64 n := by
      have h := hC.ev hx
      cases h with
      | imm _ _ h => exact h.int_inv
    have hes : es.size = vs.length + 1 := by
      have a1 := congrArg List.length h3
      have a2 := h6.length
      simp at a1 a2
      omega
    have hns : n < es.size := by omega
    have hfind : es.findIdx? (fun e => (e.born : Int) == (n : Int)) = some n := by
      rw [Array.findIdx?_eq_some_iff_getElem]
      have hb : ∀ j (hj : j < es.size), es[j].born = j := by
        intro j hj
        have := congrArg (·[j]?) h4
        simp only [List.getElem?_map, List.getElem?_range hj, Array.getElem?_toList, Array.getElem?_eq_getElem hj, Option.map_some, Option.some.injEq] at this
        exact this
      refine ⟨hns, ?_, fun j hj => ?_⟩
      · rw [hb n hns]; simp
      · rw [hb j (by omega)]
        simp; omega
    refine ⟨γ, κ, setB W g' (.map (es.modify n fun e => { e with val := pkv vx }) es.size), ?_, hC.mset hfr h0 h1 hok hh ?_⟩
    · unfold execOp
      rw [ho]
      simp only [e1, v2, hx']
      refine unit_run ?_
      unfold Instr.entryStore
      have hint : (asInt (.int .i64 (n : Int))).run C.P W = .ok (n : Int) W := rfl
      rw [run_bind (MapKept.run_getObj_map h1')]
      simp only
      rw [run_bind hint, hfind]
      simp only
      rw [MapKept.run_setObj_map _ h1']
      rfl
    · have hmod : (es.modify n fun e => { e with val := pkv vx }).toList = es.toList.take n ++ [{ es[n] with val := pkv vx }] := by
        rw [Array.toList_modify]
        apply List.ext_getElem?
        intro j
        rw [List.getElem?_modify]
        by_cases e : j = n
        · subst e
          rw [List.getElem?_append_right (by simp; omega), Array.getElem?_toList, Array.getElem?_eq_getElem hns]
          simp [Nat.min_eq_left (Nat.le_of_lt hns)]
        · by_cases h : j < n
          · rw [List.getElem?_append_left (by simp; omega), List.getElem?_take_of_lt h]; simp [Ne.symm e]
          · rw [List.getElem?_eq_none (l := es.toList) (by simp; omega), List.getElem?_eq_none (by simp; omega)]; rfl
      have hfull : es.toList = es.toList.take n ++ [es[n]] := by
        have := List.take_succ_eq_append_getElem (l := es.toList) (i := n) (by simpa using hns)
        rw [Array.getElem_toList] at this
        rw [← this, List.take_of_length_le (by simp; omega)]
      obtain ⟨yl, y1, rfl⟩ : ∃ yl y1, yss = yl ++ [y1] := by
        have hl : yss.length = vs.length + 1 := by rw [← h6.length]; simp
        refine ⟨yss.take vs.length, yss[vs.length]'(by omega), ?_⟩
        rw [← List.take_succ_eq_append_getElem, List.take_of_length_le (by omega)]
      have hyl : All2 (All2 (RepI W (nset C.X γ s.hp.length))) vs yl := by
        have hl : yl.length = vs.length := by have := h6.length; simp at this; omega
        have := h6.take vs.length
        rw [List.take_left' rfl, List.take_left' hl] at this
        exact this
      have hfl := hfull
      refine ⟨h0, es.modify n (fun e => { e with val := pkv vx }), xss, yl ++ [vx], ?_, ?_, ?_, ?_, h5.mono fun _ _ h => h.mono fun _ _ h => h.inB h1, all2_snoc (hyl.mono fun _ _ h => h.mono fun _ _ h => h.inB h1) (v1.mono fun _ _ h => h.inB h1)⟩
      · rw [setB_same h1', Array.size_modify]
      · rw [hmod, ← h2]
        conv => rhs; rw [hfl]
        simp
      · rw [hfl] at h3
        simp only [List.map_append, List.map_cons, List.map_nil] at h3
        have hl : (es.toList.take n).length = yl.length := by
          have := h6.length
          simp at this
          simp; omega
        have h3a := (List.append_inj h3 (by simpa using hl)).1
        rw [hmod]
        simp only [List.map_append, List.map_cons, List.map_nil, h3a]
      · rw [hmod, Array.size_modify, ← h4]
        conv => rhs; rw [hfl]
        simp
/-- A state that a way comes to ahead of a condition: all ways meet there. -/
def Mid (C : Cx) (M s : St) : Prop := Le C s M
theorem AW.midc {x a b : Code} {t : Nat} (M : St) (h1 : AW C x (Then (Mid C M) Q) s) (h2 : AW C (.cond (.tmp t) a b) Q M) : AW C (.seq x (.cond (.tmp t) a b)) Q s :=
  AW.seq (h1.mono fun e s h => by
    cases e with
    | normal => exact AW.weak h h2
    | _ => exact h)
theorem Mid.of {M : St} (h : Le C s M) : Mid C M s := h
theorem get_bool {e : List (Nat × AV)} {d : Nat} {B B' : Bool} (h : get e d = some (.imm (.bool B))) (hB : B = B') : get e d = some (.imm (.bool B')) := by rw [h, hB]
theorem dec_bt {b : Bool} : dec (b = true) = b := by cases b <;> simp [dec_eq]
/-- All ways through a condition meet behind it, and P is known there. -/
def Meet (C : Cx) (P : Prop) (M s : St) : Prop := P ∧ Le C s M
theorem AW.meet {x a b y : Code} {t : Nat} (P : Prop) (M : St) (h1 : AW C (.seq x (.cond (.tmp t) a b)) (Then (Meet C P M) Q) s) (h2 : P → AW C y Q M) : AW C (.seq (.seq x (.cond (.tmp t) a b)) y) Q s :=
  AW.seq (h1.mono fun e s h => by
    cases e with
    | normal => exact AW.weak h.2 (h2 h.1)
    | _ => exact h)
end
end Go.Proofs.YtjjdabihnmilgaaGreat.A
namespace Go.Proofs.YtjjdabihnmilgaaGreat.A
open Go.RowKit
set_option linter.unusedVariables false
set_option linter.unusedSimpArgs false
def KeptC (W W' : World) : Prop := ∀ (b : Nat) (o : Obj), W.heap[b]? = some o → o.isCells = true → W'.heap[b]? = some o
theorem KeptC.cell {W W' : World} (hk : KeptC W W') {ad : Addr} {y : Value} (h : W.cell? ad = some y) : W'.cell? ad = some y := by
  obtain ⟨o, ho, hc⟩ := cells_of_cell h
  rw [World.cell?_of_block (w := W) ((hk _ _ ho hc).trans ho.symm)]
  exact h
theorem RepI.turn {W W' : World} {N : Nat → Prop} (hk : KeptC W W') {v : IV} {x : Value} (h : RepI W N v x) : RepI W' N v x := by
  refine RepI.rec (motive_1 := fun v x _ => RepI W' N v x) (motive_2 := fun vs xs _ => All2 (RepI W' N) vs xs) (fun k n => .int k n) (fun b => .bool b) (fun s => .str s) (fun A c => .nil A c) ?_ .nilp .nilf (fun f => .fn f) (fun x h1 h2 h3 => .any x h1 h2 h3) .nil (fun _ _ h1 h2 => .cons h1 h2) h
  intro rows ad n c sz ys h0 hsz hn hc hb hr hy hrep ih
  exact .sl rows ad n c sz ys h0 hsz hn hc hb hr (fun i y h => hk.cell (hy i y h)) ih
section
variable {W W' : World} {N : Nat → Prop} {γ : Nat → Option Nat} {κ : Nat → Nat} {hp : List Blk}
theorem nm0_turn (hk : KeptC W W') {v : AV} {x : Value} (h : RepA ⟨W, N, γ, κ, hp⟩ v x) (hv : v.nm0 = true) : RepA ⟨W', N, γ, κ, hp⟩ v x := by
  cases h with
  | imm v x h => exact .imm _ _ (h.turn hk)
  | nils => exact .nils
  | nocap A => exact .nocap A
  | undef => exact .undef
  | pin l ad ys h0 hb hy h => exact .pin l ad ys h0 hb (fun i y h => hk.cell (hy i y h)) (h.mono fun _ _ h => h.turn hk)
  | ptr id ver row off b q hb hv' hx => exact .ptr id ver row off b q hb hv' hx
  | os id n b A c d hb hv' hx => exact .os id n b A c d hb hv' hx
  | sub id v o n b A c hb hv' hx hc => exact .sub id v o n b A c hb hv' hx hc
  | _ => simp [AV.nm0] at hv
theorem nmAll_turn {M M' : Mm} {f : AV → Bool} (hf : ∀ {v x}, RepA M v x → f v = true → RepA M' v x) {l : List AV} {xs : List Value} (h : All2 (RepA M) l xs) (hv : l.all f = true) : All2 (RepA M') l xs := by
  rw [List.all_eq_true] at hv
  exact h.mono_mem fun v x hm _ hr => hf hr (hv v hm)
theorem nm1_turn (hk : KeptC W W') {v : AV} {x : Value} (h : RepA ⟨W, N, γ, κ, hp⟩ v x) (hv : v.nm1 = true) : RepA ⟨W', N, γ, κ, hp⟩ v x := by
  have h0 : ∀ {v x}, RepA ⟨W, N, γ, κ, hp⟩ v x → v.nm0 = true → RepA ⟨W', N, γ, κ, hp⟩ v x := fun h hv => nm0_turn hk h hv
  cases v with
  | agg l => cases h with | agg _ xs h => exact .agg _ _ (nmAll_turn h0 h hv)
  | tup l => cases h with | tup _ xs h => exact .tup _ _ (nmAll_turn h0 h hv)
  | fn f l => cases h with | fn _ _ xs h => exact .fn _ _ _ (nmAll_turn h0 h hv)
  | _ => exact h0 h hv
theorem nm_turn (hk : KeptC W W') {v : AV} {x : Value} (h : RepA ⟨W, N, γ, κ, hp⟩ v x) (hv : v.nm = true) : RepA ⟨W', N, γ, κ, hp⟩ v x := by
  have h0 : ∀ {v x}, RepA ⟨W, N, γ, κ, hp⟩ v x → v.nm1 = true → RepA ⟨W', N, γ, κ, hp⟩ v x := fun h hv => nm1_turn hk h hv
  cases v with
  | agg l => cases h with | agg _ xs h => exact .agg _ _ (nmAll_turn h0 h hv)
  | tup l => cases h with | tup _ xs h => exact .tup _ _ (nmAll_turn h0 h hv)
  | fn f l => cases h with | fn _ _ xs h => exact .fn _ _ _ (nmAll_turn h0 h hv)
  | _ => exact h0 h hv
end
/-- No maps among the slots and in the blocks. -/
def nmS (s : St) : Bool := s.env.all (fun p => p.2.nm) && s.hp.all (fun b => b.rows.all fun r => r.all AV.nm)
theorem get_nm : ∀ {e : List (Nat × AV)} {t : Nat} {v : AV}, e.all (fun p => p.2.nm) = true → get e t = some v → v.nm = true
  | [], _, _, _, h => by cases h
  | (d, u) :: r, t, v, ha, h => by
    simp only [List.all_cons, Bool.and_eq_true] at ha
    simp only [get] at h
    split at h
    · obtain rfl := Option.some.inj h; exact ha.1
    · exact get_nm ha.2 h
theorem Conc.turn {C : Cx} {s : St} {γ : Nat → Option Nat} {κ : Nat → Nat} {a : Act} {W W' : World} (hC : Conc C s γ κ a W) (hm : nmS s = true) (hk : KeptC W W') (hlow : ∀ b, b < C.w0.heap.size → W'.heap[b]? = W.heap[b]?) (hos : W'.os = W.os) (htape : W'.tape = W.tape) (hout : W'.output = W.output) (hsize : W.heap.size ≤ W'.heap.size) : Conc C s γ κ a W' := by
  unfold nmS at hm
  rw [Bool.and_eq_true] at hm
  refine ⟨hC.size, hC.defers, ?_, ?_, hC.inj, hC.own, hC.xlt, fun b hb hmay => (hlow b hb).trans (hC.old b hb hmay), hos.trans hC.hos, htape.trans hC.htape, hout.trans hC.hout, Nat.le_trans hC.hsize hsize, hC.lent⟩
  · intro t v h
    obtain ⟨x, h1, h2⟩ := hC.env t v h
    exact ⟨x, h1, nm_turn hk h2 (get_nm hm.1 h)⟩
  · intro id b hb
    have hB := hC.blk id b hb
    refine ⟨hB.pos, hB.rows, hB.cell, hB.cap, hB.capm, ?_⟩
    rcases hB.mem with h1 | ⟨g, ys, sp, h1, h2, h3, h4⟩
    · exact .inl h1
    · refine .inr ⟨g, ys, sp, h1, hk _ _ h2 rfl, h3, ?_⟩
      have hh := hm.2
      rw [List.all_eq_true] at hh
      have hb' := hh b (List.mem_of_getElem? hb)
      rw [List.all_eq_true] at hb'
      refine h4.mono_mem fun v x hmem _ hr => ?_
      obtain ⟨r, hr1, hr2⟩ := List.mem_flatten.1 hmem
      have := hb' r hr1
      rw [List.all_eq_true] at this
      exact nm_turn hk hr (this v hr2)
theorem Conc.turned {C : Cx} {s : St} {γ : Nat → Option Nat} {κ : Nat → Nat} {a : Act} {W W' : World} {row : Option Nat} {B : Nat} (hC : Conc C s γ κ a W) (hm : nmS s = true) (hB : C.w0.heap.size ≤ B) (hg : W.grownBy W' row) (hrow : ∀ r, row = some r → B ≤ r ∧ ∃ o : Obj, W.heap[r]? = some o ∧ o.isCells = false) : Conc C s γ κ a W' := by
  refine hC.turn hm ?_ ?_ hg.os hg.tape hg.output hg.size
  · intro b o ho hc
    refine (hg.block b (Array.getElem?_eq_some_iff.1 ho).1 ?_).trans ho
    intro e
    obtain ⟨_, o', ho', hc'⟩ := hrow b e.symm
    rw [ho] at ho'
    cases ho'
    rw [hc] at hc'
    cases hc'
  · intro b hb
    by_cases hlt : b < W.heap.size
    · refine hg.block b hlt ?_
      intro e
      have := (hrow b e.symm).1
      omega
    · have := hC.hsize
      omega
/-- The world when a function has taken its marks. -/
def taken (W : World) (Ds : List Nat) : World := Ds.foldl (fun W D => W.putObj D (.deferred none)) W
theorem taken_facts : ∀ (Ds : List Nat) (W : World) (B : Nat), (∀ D ∈ Ds, B ≤ D ∧ ∃ o, W.heap[D]? = some o ∧ o.isCells = false) →
    KeptC W (taken W Ds) ∧ (∀ b, b < B → (taken W Ds).heap[b]? = W.heap[b]?) ∧ (taken W Ds).os = W.os ∧ (taken W Ds).tape = W.tape ∧ (taken W Ds).output = W.output ∧ W.heap.size ≤ (taken W Ds).heap.size := by
  intro Ds
  induction Ds with
  | nil => intro W B _; exact ⟨fun _ _ h _ => h, fun _ _ => rfl, rfl, rfl, rfl, Nat.le_refl _⟩
  | cons D Ds ih =>
    intro W B h
    obtain ⟨hB, o, ho, hc⟩ := h D (by simp)
    have hg := grownBy_putObj' W D (.deferred none)
    have hother : ∀ b, b ≠ D → (W.putObj D (.deferred none)).heap[b]? = W.heap[b]? := fun b hb => World.putObj_heap_other hb
    obtain ⟨k1, k2, k3, k4, k5, k6⟩ := ih (W.putObj D (.deferred none)) B (by
      intro D' hD'
      obtain ⟨h1, o', h2, h3⟩ := h D' (by simp [hD'])
      refine ⟨h1, ?_⟩
      by_cases e : D' = D
      · subst e
        exact ⟨_, World.putObj_heap_same (Array.getElem?_eq_some_iff.1 h2).1, rfl⟩
      · exact ⟨o', (hother _ e).trans h2, h3⟩)
    refine ⟨?_, ?_, k3.trans hg.os, k4.trans hg.tape, k5.trans hg.output, Nat.le_trans hg.size k6⟩
    · intro b o2 hb2 hc2
      refine k1 b o2 ((hother b ?_).trans hb2) hc2
      intro e
      subst e
      rw [hb2] at ho; cases ho
      rw [hc2] at hc; cases hc
    · intro b hb
      refine (k2 b hb).trans (hother b (by omega))
theorem leaves_marks {F : Fence} {n : Nat} {P : Program} {fn : Func} {tmps : Array Value} {R : Ending → World → Prop} : ∀ (Ds : List Nat) (W : World), Ds.Nodup → (∀ D ∈ Ds, W.heap[D]? = some (.deferred (some []))) →
    (∃ v, (results fn tmps).run P (taken W Ds) = .ok v (taken W Ds) ∧ R (.returned v) (taken W Ds)) → LeavesInM F n P fn tmps R (marks Ds) .returning W := by
  intro Ds
  induction Ds with
  | nil => intro W _ _ h; exact h
  | cons D Ds ih =>
    intro W hn hD h
    rw [List.nodup_cons] at hn
    refine ⟨by simp, .inl ⟨D, _, rfl, run_takeDeferred (hD D (by simp)), ?_⟩⟩
    refine ih _ hn.2 ?_ h
    intro D' hD'
    have hne : D' ≠ D := fun e => hn.1 (e ▸ hD')
    exact (World.putObj_heap_other hne).trans (hD D' (by simp [hD']))
end Go.Proofs.YtjjdabihnmilgaaGreat.A
namespace Go.Proofs.YtjjdabihnmilgaaGreat.A
open Go.RowKit
set_option linter.unusedVariables false
set_option linter.unusedSimpArgs false
def RQM (C : Cx) (T : List (Nat × TI)) (rs : List ResultVar) (r : AV) : Exit → St → Prop := fun e s => nmS s = true ∧ RQ C T rs r e s
theorem PureC.mkM {P : Program} {f : FuncId} {fn : Func} {c : Code} {args : List AV} {r : AV} {T : List (Nat × TI)} (hT : TsOK P T) (hf : P.funcs[f]? = some fn) (nt : Nat) (rs : List ResultVar) (hb : fn.body = some c) (hn : (fn.name == "runtime.NumGoroutine") = false) (hnt : fn.ntmps = nt) (hrs : fn.results.toList = rs) (hlen : Nat.ble (len args) nt = true)
    (h : ∀ w0 X, AWM none ⟨P, X, [], fun _ => none, fun _ => 0, fun _ => False, w0, nt⟩ c (RQM ⟨P, X, [], fun _ => none, fun _ => 0, fun _ => False, w0, nt⟩ T rs r) ⟨params 0 args, []⟩) : PureC P f args r := by
  subst hnt hrs
  have hlen := Nat.le_of_ble_eq_true hlen
  rw [len_eq] at hlen
  refine ⟨fun asx w => ?_, fun W X xs hX hargs => ?_⟩
  · unfold callFunc
    have hp : (program).run P w = .ok P w := rfl
    rw [run_bind hp, hf]
    simp only [hn, hb]
    rfl
  · refine (callsIn_wide (n := 2)).1 (callsIn_of_wp_marks hf hb trivial ?_)
    have hl := hargs.length
    have hC : Conc ⟨P, X, [], fun _ => none, fun _ => 0, fun _ => False, W, fn.ntmps⟩ ⟨params 0 args, []⟩ (fun _ => none) (fun _ => 0) { tmps := xs.toArray ++ Array.replicate (fn.ntmps - xs.toArray.size) undef, defers := [] } W := by
      refine ⟨?_, rfl, ?_, by intro id b h; simp at h, by intro i j g hi; simp at hi, by intro i g hi; simp at hi, hX, fun _ _ _ => rfl, rfl, rfl, rfl, Nat.le_refl _, by intro i g h; simp at h⟩
      · simp; omega
      · intro t v hv
        obtain ⟨_, h2⟩ := params_get args 0 t v hv
        simp only [Nat.sub_zero] at h2
        obtain ⟨x, h3, h4⟩ := hargs.get h2
        refine ⟨x, ?_, RepA.keep (show Keep (M0 W X) (St.mm ⟨params 0 args, []⟩ ⟨P, X, [], fun _ => none, fun _ => 0, fun _ => False, W, fn.ntmps⟩ (fun _ => none) (fun _ => 0) W) from ⟨fun b hb _ => ⟨rfl, ?_⟩, fun id b hb => by cases hb⟩) h4⟩
        · simp only
          rw [Array.getElem?_append_left (by simpa using (List.getElem?_eq_some_iff.1 h3).1)]
          simpa using h3
        · rintro (h | ⟨i, hi, _⟩)
          · exact hb h
          · exact absurd hi (Nat.not_lt_zero _)
    refine wpIn_mono (h W X 2 _ _ { tmps := xs.toArray ++ Array.replicate (fn.ntmps - xs.toArray.size) undef, defers := [] } W [] hC rfl ⟨List.nodup_nil, by simp⟩) ?_
    rintro e a' W' ⟨s', γ', κ', Ds, hC0, hds, hmk, hnm, hQ⟩
    obtain ⟨k1, k2, k3, k4, k5, k6⟩ := taken_facts Ds W' W.heap.size (fun D hD => ⟨(hmk.mem D hD).1, _, (hmk.mem D hD).2, rfl⟩)
    have hC' := hC0.turn hnm k1 k2 k3 k4 k5 k6
    have fin : ∀ qs, ares T s' fn.results.toList = some qs → Fz ⟨P, X, [], fun _ => none, fun _ => 0, fun _ => False, W, fn.ntmps⟩ s' (pack qs) r → LeavesInM Fence.wide 2 P fn a'.tmps (fun e W' => ∃ x, e = .returned x ∧ Below W.heap.size W W' ∧ RepA (M0 W' X) r x) a'.defers .returning W' := by
      intro qs h1 h2
      obtain ⟨ys, h3, h4⟩ := results_run hT hC' h1
      rw [hds]
      refine leaves_marks Ds W' hmk.nodup (fun D hD => (hmk.mem D hD).2) ⟨pack' ys, ?_, _, rfl, ⟨hC'.hos, hC'.htape, hC'.hout, hC'.hsize, fun k hk => hC'.old k hk (fun h => h)⟩, h2 _ _ _ _ _ hC' ?_⟩
      · unfold results
        rw [Array.mapM_eq_mapM_toList]
        have h3' := run_bind (P := P) (f := fun vs : List Value => (pure vs.toArray : Sem (Array Value))) h3
        have h5 : ((List.toArray <$> fn.results.toList.mapM (m := Sem) fun | .tmp t => pure (a'.tmps.getD t undef) | .cell b t => do loadVar t (← asAddr (a'.tmps.getD b undef))) : Sem (Array Value)).run P (taken W' Ds) = .ok ys.toArray (taken W' Ds) := by
          rw [map_eq_pure_bind]
          exact h3'
        refine (run_bind h5).trans ?_
        rcases ys with _ | ⟨y, _ | ⟨y2, ys⟩⟩
        · rfl
        · rfl
        · rw [dif_neg (by simp)]
          rfl
      · exact pack_rep h4
    cases e with
    | ret => obtain ⟨qs, h1, h2⟩ := hQ; exact fin qs h1 h2
    | normal => obtain ⟨qs, h1, h2⟩ := hQ; exact fin qs h1 h2
    | _ => exact hQ.elim
end Go.Proofs.YtjjdabihnmilgaaGreat.A
