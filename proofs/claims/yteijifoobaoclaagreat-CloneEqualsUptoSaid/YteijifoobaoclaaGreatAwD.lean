/- The abstract walk, part D: single operations. -/
import Derived.Test.YteijifoobaoclaaGreatAwC
namespace Go.Proofs.YteijifoobaoclaaGreat.A
open Go.RowKit
set_option linter.unusedVariables false
set_option linter.unusedSimpArgs false

inductive TK where
  | sl (e : TypeId) | str | int (k : IntKind) | bool | agg | map (k v : TypeId) | other
  deriving Inhabited
structure TI where
  sz : Nat
  kd : TK
  zero : List AV
  flds : List (Nat × Nat × Bool)
  bytes : Nat
  deriving Inhabited
def TI.isAgg (i : TI) : Bool := match i.kd with | .agg => true | _ => false
def kdOf : TypeDesc → TK
  | .slice e => .sl e
  | .string => .str
  | .int k => .int k
  | .bool => .bool
  | .struct _ => .agg
  | .array _ _ => .agg
  | .map k v => .map k v
  | _ => .other
def constAV : Value → Option AV
  | .int k n => some (.imm (.int k n))
  | .bool b => some (.imm (.bool b))
  | .string t => some (.imm (.str t))
  | .slice none 0 0 => some .nils
  | .pointer none => some (.imm .nilp)
  | .nilFunc => some (.imm .nilf)
  | _ => none
theorem constAV_rep {M : Mm} {x : Value} {v : AV} (h : constAV x = some v) : RepA M v x := by
  unfold constAV at h
  split at h
  all_goals first | (cases h; done) | (obtain rfl := Option.some.inj h; first | exact .imm _ _ (.int _ _) | exact .imm _ _ (.bool _) | exact .imm _ _ (.str _) | exact .nils | exact .imm _ _ .nilp | exact .imm _ _ .nilf)
def constAVs : List Value → Option (List AV)
  | [] => some []
  | x :: l => match constAV x, constAVs l with
    | some v, some vs => some (v :: vs)
    | _, _ => none
theorem constAVs_rep {M : Mm} : ∀ {xs : List Value} {vs : List AV}, constAVs xs = some vs → All2 (RepA M) vs xs
  | [], vs, h => by simp only [constAVs, Option.some.injEq] at h; subst h; exact .nil
  | x :: l, vs, h => by
    simp only [constAVs] at h
    split at h
    · rename_i v vs' h1 h2
      obtain rfl := Option.some.inj h
      exact .cons (constAV_rep h1) (constAVs_rep h2)
    · cases h
def fldOf (P : Program) (f : Field) : Option (Nat × Nat × Bool) :=
  match (P.info? f.type).map (·.size), (P.underlying f.type).map kdOf with
  | some n, some .agg => some (f.offset, n, true)
  | some n, some _ => some (f.offset, n, false)
  | _, _ => none
def fldsOf (P : Program) (d : TypeDesc) : Option (List (Nat × Nat × Bool)) :=
  match d with
  | .struct fs => fs.toList.mapM (fldOf P)
  | _ => some []
structure TOk (P : Program) (t : TypeId) (i : TI) : Prop where
  size : (P.info? t).map (·.size) = some i.sz
  bytes : (P.info? t).map (·.bytes) = some i.bytes
  und : ∃ d, P.underlying t = some d ∧ kdOf d = i.kd ∧ fldsOf P d = some i.flds
  zero : ∃ z, (P.info? t).bind (·.zero) = some z ∧ constAVs z.cells.toList = some i.zero
  zl : i.zero.length = i.sz
def look : List (Nat × TI) → Nat → Option TI
  | [], _ => none
  | (d, v) :: r, t => match Nat.beq d t with | true => some v | false => look r t
def TsOK (P : Program) (T : List (Nat × TI)) : Prop := ∀ t i, look T t = some i → TOk P t i
theorem TsOK.nil (P : Program) : TsOK P [] := fun t i h => by cases h
theorem TsOK.cons {P : Program} {t : Nat} {i : TI} {T : List (Nat × TI)} (h1 : TOk P t i) (h2 : TsOK P T) : TsOK P ((t, i) :: T) := by
  intro u j h
  simp only [look] at h
  split at h
  · rename_i e
    obtain rfl := Option.some.inj h
    have e := Nat.eq_of_beq_eq_true e
    subst e; exact h1
  · exact h2 u j h

section runs
variable {P : Program} {t : TypeId} {i : TI}
theorem TOk.sizeOf (h : TOk P t i) (w : World) : (sizeOf t).run P w = .ok i.sz w := by
  obtain ⟨info, h1, h2⟩ := Option.map_eq_some_iff.1 h.size
  unfold Go.sizeOf typeInfo
  simp only [program]
  simp [h1, h2, bind, Sem.bind, pure, Sem.run]
theorem TOk.isAgg (h : TOk P t i) (w : World) : (isAgg t).run P w = .ok i.isAgg w := by
  obtain ⟨d, h1, h2, _⟩ := h.und
  unfold Go.isAgg underlying TI.isAgg
  rw [← h2]
  simp only [program]
  cases d <;> simp [h1, bind, Sem.bind, pure, Sem.run, kdOf]
theorem TOk.zeroValue (h : TOk P t i) : ∃ z, constAVs z.cells.toList = some i.zero ∧ ∀ w, (zeroValue t).run P w = .ok z w := by
  obtain ⟨z, h1, h2⟩ := h.zero
  obtain ⟨info, h3, h4⟩ := Option.bind_eq_some_iff.1 h1
  refine ⟨z, h2, fun w => ?_⟩
  unfold Go.zeroValue typeInfo
  simp only [program]
  simp [h3, h4, bind, Sem.bind, pure, Sem.run]
theorem run_bind {α β : Type} {m : Sem α} {f : α → Sem β} {w w' : World} {a : α} (h : m.run P w = .ok a w') : (m >>= f).run P w = (f a).run P w' := by
  rw [Sem.run_bind, h]; rfl
theorem loads_run (ad : Addr) (W : World) : ∀ (l : List Value) (i : Nat) (acc : Array Value), (∀ j u, l[j]? = some u → W.cell? (ad.add (i + j)) = some u) → (loadCellsFrom ad i l.length acc).run P W = .ok (acc ++ l.toArray) W
  | [], i, acc, _ => by
    simp only [List.length_nil, loadCellsFrom]
    go_simp
  | v :: l, i, acc, h => by
    have h0 : W.cell? (ad.add i) = some v := h 0 v rfl
    have ih := loads_run ad W l (i + 1) (acc.push v) (fun j u hj => by rw [Nat.add_assoc, Nat.add_comm 1]; exact h (j + 1) u hj)
    simp only [List.length_cons, loadCellsFrom]
    go_simp
    done
theorem loadVar_agg (h : TOk P t i) (ha : i.isAgg = true) (ad : Addr) (W : World) (l : List Value) (hl : l.length = i.sz) (hc : ∀ j u, l[j]? = some u → W.cell? (ad.add j) = some u) : (loadVar t ad).run P W = .ok (.agg l.toArray) W := by
  unfold loadVar loadCells
  rw [run_bind (h.isAgg W), ha]
  simp only [if_true]
  have := loads_run (P := P) ad W l 0 #[] (fun j u hj => by rw [Nat.zero_add]; exact hc j u hj)
  rw [run_bind (h.sizeOf W), ← hl, run_bind this]
  simp [pure, Sem.run]
theorem loadVar_one (h : TOk P t i) (ha : i.isAgg = false) (ad : Addr) (W : World) (v : Value) (hc : W.cell? ad = some v) : (loadVar t ad).run P W = .ok v W := by
  unfold loadVar
  rw [run_bind (h.isAgg W), ha]
  simp [load, Sem.run, hc]
theorem storeCells_run (g : Nat) (W : World) (cur : List Value) (ty : TypeId) (hg : W.heap[g]? = some (.cells cur.toArray ty (0, 0))) : ∀ (l : List Value) (o i : Nat), (∀ v ∈ l, v.oneCell' = true) → o + i + l.length ≤ cur.length →
    ∀ W', (∃ cur', W'.heap[g]? = some (.cells cur' ty (0, 0)) ∧ cur'.size = cur.length) → (storeCells ⟨g, o, none⟩ l i).run P W' = .ok () (W'.setCells g (o + i) l)
  | [], o, i, _, _, W', _ => rfl
  | v :: l, o, i, h1, h2, W', ⟨cur', h3, h4⟩ => by
    have hv := h1 v (by simp)
    simp only [List.length_cons] at h2
    have had : (⟨g, o, none⟩ : Addr).add i = ⟨g, o + i, none⟩ := by unfold Addr.add; split <;> simp_all
    have hcell : ∃ q, W'.cell? ⟨g, o + i, none⟩ = some q := by
      rw [blk_cell h3]
      exact ⟨_, Array.getElem?_eq_getElem (by omega)⟩
    obtain ⟨q, hq⟩ := hcell
    have hfz := blk_frozen h3 (o + i)
    have hrun : (store ((⟨g, o, none⟩ : Addr).add i) v).run P W' = .ok () (W'.setCell ⟨g, o + i, none⟩ v) := by
      rw [had]
      unfold store
      cases v <;> first | (simp [Value.oneCell'] at hv; done) | simp [Sem.run, hq, hfz]
    simp only [storeCells]
    rw [run_bind hrun]
    have hW : ∃ cur'', (W'.setCell ⟨g, o + i, none⟩ v).heap[g]? = some (.cells cur'' ty (0, 0)) ∧ cur''.size = cur.length := by
      refine ⟨cur'.setIfInBounds (o + i) v, ?_, by simpa using h4⟩
      simp only [World.setCell, Array.getElem?_modify, if_true, h3]
      simp
    have := storeCells_run g W cur ty hg l o (i + 1) (fun v hv => h1 v (by simp [hv])) (by omega) _ hW
    rw [this, World.setCells]
    rfl
end runs
end Go.Proofs.YteijifoobaoclaaGreat.A
