/- The abstract walk, part Za: arrays that are built. -/
import Derived.Test.YteijifoobaoclaaGreatAwZ
namespace Go.Proofs.YteijifoobaoclaaGreat.A
open Go.RowKit
set_option linter.unusedVariables false
set_option linter.unusedSimpArgs false
section
variable {C : Cx} {s t : St} {γ : Nat → Option Nat} {κ : Nat → Nat} {a : Act} {W : World} {o : Oper} {T : List (Nat × TI)} {l r rest : List Oper} {Q : Exit → St → Prop}
theorem OpOK.buildArr (hT : TsOK C.P T) (hd : dok C.nt o.dst = true) {t e : TypeId} {n : Nat} {ps : Array (Nat × Operand)} (ho : o.op = .build t ps) {i ie : TI} (hi : look T t = some i) (hie : look T e = some ie) (hu : C.P.underlying t = some (.array n e)) {vs : List (Nat × AV)} (hx : evps s ps.toList = some vs) {l : List AV} (h : aFill (fun j => some (j * ie.sz, ie.sz)) i.zero vs = some l) : OpOK C s o (s.put o.dst (.agg l)) :=
  OpOK.quiet hd fun γ κ a W hC => by
    have hT' := hT t i hi
    have hTe := hT e ie hie
    obtain ⟨z, hz1, hz2⟩ := hT'.zeroValue
    obtain ⟨cs', g1, g2⟩ := fill_ok (M := s.mm C γ κ W) (place' := fun j => some (j * ie.sz, ie.sz)) (fun i z h => h) (hC.evps hx) (constAVs_rep hz1) h
    refine ⟨.agg cs', ?_, ?_⟩
    · unfold execOp; rw [ho]
      refine val_run ?_
      unfold Instr.build
      rw [run_bind (hz2 W), run_bind (und_run hu W)]
      simp only
      rw [run_bind (hTe.sizeOf W)]
      have e3 : (ps.map fun x : Nat × Operand => (x.1, a.eval x.2)).toList = ps.toList.map fun (i, x) => (i, a.eval x) := by simp
      rw [e3, g1]
      rfl
    · have e : cs' = cs'.toList.toArray := by simp
      rw [e]
      exact .agg _ _ (by simpa using g2)
-- the walk through a region that draws, with short notes of what was done
def canonL : List Nat → Option (List Nat)
  | [] => some []
  | x :: l => match canonL l with
    | some r => some (x :: r)
    | none => none
theorem canonL_eq : ∀ {l r : List Nat}, canonL l = some r → l = r
  | [], r, h => by simp only [canonL, Option.some.injEq] at h; exact h
  | x :: l, r, h => by
    simp only [canonL] at h
    split at h
    · rename_i r' hr
      obtain rfl := Option.some.inj h
      rw [canonL_eq hr]
    · cases h
def canonO : Option Nat → Option (Option Nat)
  | none => some none
  | some x => some (some x)
theorem canonO_eq {x : Option Nat} {y : Option Nat} (h : canonO x = some y) : x = y := by
  cases x <;> simp only [canonO, Option.some.injEq] at h <;> exact h
def wbD : Option Nat → Dl
  | none => .val .undef
  | some p => .blk p ⟨0, 0, []⟩ .undef
theorem wbD_wb (w : Option Nat) : (wbD w).wb = w := by cases w <;> rfl
structure SameX (f g : Fx) : Prop where
  dst : f.dst = g.dst
  rs : f.rs = g.rs
  rb : f.rb = g.rb
  wb : f.d.wb = g.d.wb
theorem pairOK_same {f f' g g' : Fx} (h1 : SameX f f') (h2 : SameX g g') : pairOK f g = pairOK f' g' := by
  unfold pairOK
  rw [h1.dst, h1.rs, h1.rb, h1.wb, h2.dst, h2.rs, h2.rb, h2.wb]
theorem allOK_same : ∀ {l l' : List Fx} (_ : All2 SameX l l') (an : List (List Nat)) (i : Nat) {pre pre' : List (Nat × Fx)}, All2 (fun p q => p.1 = q.1 ∧ SameX p.2 q.2) pre pre' → allOK l an i pre = allOK l' an i pre'
  | _, _, .nil, an, i, pre, pre', _ => rfl
  | _, _, .cons (a := f) (b := f') (l := l) (m := l') h1 h2, an, i, pre, pre', hp => by
    cases an with
    | nil => rfl
    | cons b an =>
      simp only [allOK]
      have e1 : (pre.all fun q => memB q.1 b || pairOK q.2 f) = pre'.all fun q => memB q.1 b || pairOK q.2 f' := by
        induction hp with
        | nil => rfl
        | cons k1 _ ih => simp only [List.all_cons, ih, k1.1, pairOK_same k1.2 h1]
      rw [e1, allOK_same h2 an (i + 1) (hp.append (.cons (a := (i, f)) (b := (i, f')) ⟨rfl, h1⟩ .nil))]
theorem SameX.refl (f : Fx) : SameX f f := ⟨rfl, rfl, rfl, rfl⟩
theorem all2_refl {α : Type} {R : α → α → Prop} (h : ∀ x, R x x) : ∀ l : List α, All2 R l l
  | [] => .nil
  | x :: l => .cons (h x) (all2_refl h l)
theorem DQ.stepc {r : List Oper} {s : St} {acc : List Fx} {o : Oper} {f : Fx} {Q : Exit → St → Prop} (h1 : LS C l s o f) {e1 : List (Nat × AV)} {h1' : List Blk} (he : f.ap s = ⟨e1, h1'⟩) {dst w : Option Nat} {rs rb : List Nat}
    (k1 : canonO f.dst = some dst) (k2 : canonL f.rs = some rs) (k3 : canonL f.rb = some rb) (k4 : canonO f.d.wb = some w) (k : DQ C l r ⟨e1, h1'⟩ (acc ++ [⟨dst, wbD w, rs, rb⟩]) Q) : DQ C l (o :: r) s acc Q := by
  refine DQ.step h1 he ?_
  obtain ⟨fs, s2, q1, q2, q3⟩ := k
  refine ⟨fs, s2, q1, ?_, q3⟩
  rw [← q2]
  refine allOK_same ((All2.append (all2_refl SameX.refl acc) (.cons ?_ .nil)).append (all2_refl SameX.refl fs)) _ _ .nil
  exact ⟨canonO_eq k1, canonL_eq k2, canonL_eq k3, by rw [wbD_wb]; exact canonO_eq k4⟩
theorem DQ.gsplitE {acc : List Fx} {j d : Nat} {want b : Bool} {e : List (Nat × AV)} {h : List Blk} (hg : o.guard = some (j, want)) (hd : dstOf l j = some d) (hb : get e d = some (.imm (.bool b))) (h1 : b = true → DQ C l (o :: r) ⟨(d, .imm (.bool true)) :: e, h⟩ acc (Wk C Q)) (h2 : b = false → DQ C l (o :: r) ⟨(d, .imm (.bool false)) :: e, h⟩ acc (Wk C Q)) : DQ C l (o :: r) ⟨e, h⟩ acc (Wk C Q) := DQ.split hb h1 h2
theorem AL.gsplitE {j d : Nat} {want b : Bool} {e : List (Nat × AV)} {h : List Blk} (hg : o.guard = some (j, want)) (hd : dstOf l j = some d) (hb : get e d = some (.imm (.bool b))) (h1 : b = true → AL C l Q (o :: rest) ⟨(d, .imm (.bool true)) :: e, h⟩) (h2 : b = false → AL C l Q (o :: rest) ⟨(d, .imm (.bool false)) :: e, h⟩) : AL C l Q (o :: rest) ⟨e, h⟩ := AL.split d hb h1 h2
-- what goes ahead of what, as bits
def forceN {α : Type} (n : Nat) (k : Nat → α) : α :=
  match n with
  | 0 => k 0
  | m + 1 => k (m + 1)
theorem forceN_eq {α : Type} (n : Nat) (k : Nat → α) : forceN n k = k n := by cases n <;> rfl
def maskOf (acc : List Nat) (l : List Nat) : Nat := l.foldl (fun m j => m ||| ((1 <<< j) ||| acc.getD j 0)) 0
theorem mask_bit (acc : List Nat) (x : Nat) : ∀ (l : List Nat) (m : Nat), (l.foldl (fun m j => m ||| ((1 <<< j) ||| acc.getD j 0)) m).testBit x = (m.testBit x || l.any fun j => decide (j = x) || (acc.getD j 0).testBit x)
  | [], m => by simp
  | j :: l, m => by
    rw [List.foldl_cons, mask_bit acc x l]
    simp only [Nat.testBit_or, List.any_cons, Bool.or_assoc]
    congr 2
    rw [Nat.one_shiftLeft, Nat.testBit_two_pow]
def ancM : List Oper → List Nat → List Nat
  | [], acc => acc
  | o :: r, acc => forceN (maskOf acc (ons o)) fun m => ancM r (acc ++ [m])
def SameB (a : List Nat) (m : Nat) : Prop := ∀ x, memB x a = m.testBit x
theorem memB_append (x : Nat) : ∀ (a b : List Nat), memB x (a ++ b) = (memB x a || memB x b)
  | [], b => by simp [memB]
  | y :: a, b => by
    simp only [List.cons_append, memB]
    split
    · rfl
    · exact memB_append x a b
theorem memB_flat (x : Nat) (g : Nat → List Nat) : ∀ l : List Nat, memB x (l.flatMap g) = l.any fun j => memB x (g j)
  | [] => rfl
  | j :: l => by rw [List.flatMap_cons, memB_append, memB_flat x g l]; rfl
theorem getD_same {acc : List (List Nat)} {accM : List Nat} (h : All2 SameB acc accM) (j : Nat) : SameB (acc.getD j []) (accM.getD j 0) := by
  intro x
  rw [List.getD_eq_getElem?_getD, List.getD_eq_getElem?_getD]
  cases hj : acc[j]? with
  | none =>
    have : accM[j]? = none := by
      rw [List.getElem?_eq_none_iff] at hj ⊢
      rw [← h.length]; exact hj
    rw [this]
    simp [memB]
  | some a =>
    obtain ⟨m, h1, h2⟩ := h.get hj
    rw [h1]
    exact h2 x
theorem ancM_spec : ∀ (l : List Oper) {acc : List (List Nat)} {accM : List Nat}, All2 SameB acc accM → All2 SameB (anc l acc) (ancM l accM)
  | [], _, _, h => h
  | o :: r, acc, accM, h => by
    simp only [anc, ancM, forceN_eq]
    refine ancM_spec r (h.append (.cons (fun x => ?_) .nil))
    unfold maskOf
    rw [memB_flat, mask_bit]
    simp only [Nat.zero_testBit, Bool.false_or]
    congr 1
    funext j
    simp only [memB]
    rw [← getD_same h j x]
    by_cases e : j = x
    · subst e
      simp
    · have e' : Nat.beq x j = false := by
        rw [← Bool.not_eq_true]
        intro hb
        exact e (Nat.eq_of_beq_eq_true hb).symm
      rw [e']; simp [e]
def allOKM : List Fx → List Nat → Nat → List (Nat × Fx) → Bool
  | [], _, _, _ => true
  | g :: r, an, i, pre => (match an with
    | [] => false
    | a :: an => pre.all (fun q => a.testBit q.1 || pairOK q.2 g) && allOKM r an (i + 1) (pre ++ [(i, g)]))
theorem allOKM_eq : ∀ (l : List Fx) {an : List (List Nat)} {anM : List Nat} (_ : All2 SameB an anM) (i : Nat) (pre : List (Nat × Fx)), allOK l an i pre = allOKM l anM i pre
  | [], _, _, _, _, _ => rfl
  | g :: r, _, _, .nil, i, pre => rfl
  | g :: r, _, _, .cons h1 h2, i, pre => by
    simp only [allOK, allOKM]
    rw [allOKM_eq r h2]
    congr 1
    congr 1
    funext q
    rw [h1 q.1]
theorem DQ.nilM {acc : List Fx} (hok : allOKM acc (ancM l []) 0 [] = true) (hQ : Q .normal s) : DQ C l [] s acc (Wk C Q) := DQ.nilW (by rw [allOKM_eq acc (ancM_spec l .nil)]; exact hok) hQ
end
end Go.Proofs.YteijifoobaoclaaGreat.A
