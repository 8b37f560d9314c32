/- Small laws that the hand-made walks of this seat share: an append of a literal's cells, a string's iterator. -/
import Derived.Test.YtgjifcflkcpnlaaP0
import Derived.Laws.RangeAny
import Derived.Lib.OthersKept
namespace Go.Proofs.Ytgjifcflkcpnlaa.P
open Go.RowKit Go.Proofs.YtgjifcflkcpnlaaW.PrintWords Go.Proofs.YtgjifcflkcpnlaaW.PrintLast Go.Proofs.YtgjifcflkcpnlaaW.PrintMore
set_option linter.unusedVariables false
set_option linter.unusedSimpArgs false

theorem R_append_lits {P : Program} {ops : Array Oper} {rest : List Oper} {o : Oper} {a : Act} {Q : Exit → Act → World → Prop} {α : Type} {enc : α → Value} {h1 : ∀ x, (enc x).oneCell' = true} {w0 W : World}
    (hgd : o.guard = none) (s x : Operand) (t e : TypeId) (z : Value) (bytes : Nat)
    (ho : o.op = .call { callee := .builtin .append, args := #[s, x], argTypes := #[t, t] })
    (ht : P.underlying t = some (.slice e)) (hinfo : (P.info? e).map (fun i => (i.zero, i.size, i.bytes)) = some (some z, 1, bytes)) (hz : z.cells.size = 1) (hb0 : 0 < bytes)
    (v : Value) (xs ys : List α) (m : Nat) (hs : a.eval s = v) (hx : a.eval x = .slice (some ⟨W.heap.size, 0, none⟩) m m) (hm : ys.length = m)
    (HO : (Kd.scalar enc h1).R e W w0.heap.size (fun _ => True) v xs) (HB : Below w0.heap.size w0 W) (hl : (xs.length + m) * bytes ≤ 140737488355328)
    (h : ∀ v1 w1, (Kd.scalar enc h1).R e w1 w0.heap.size (fun _ => True) v1 (xs ++ ys) → Below w0.heap.size w0 w1 → W.grownBy w1 v.ownBlock → wpList P ops Q rest (a.put o.dst v1) w1) :
    wpList P ops Q (o :: rest) a (W.alloc (.cells (encs enc ys).toArray e)) := by
  have hown := Kd.own_of_R HO
  obtain ⟨i, hi, hzz, hsz, hby⟩ := info_parts hinfo
  have hle : (xs.length + m) ≤ 140737488355328 := Nat.le_trans (Nat.le_mul_of_pos_right _ hb0) hl
  refine wpList_append_own (W.alloc (.cells (encs enc ys).toArray e)) hgd s x t ho w0.heap.size e i z 1 bytes ht hi hzz hsz hby hz (by decide) v xs.length (encs enc xs) hs (hown.alloc _) ⟨W.heap.size, 0, none⟩ m m (encs enc ys) hx (by simp [encs, hm]) ?_ ?_ (by unfold maxLen; omega) hl (by have := HB.size; simp; omega) ?_
  · intro j u hu
    have ha : (⟨W.heap.size, 0, none⟩ : Addr).add j = ⟨W.heap.size, j, none⟩ := by
      simp only [Addr.add, Nat.zero_add]
      split
      · subst_vars; rfl
      · rfl
    rw [ha, World.cell?_alloc_new]
    simpa using hu
  · intro u hu
    simp only [encs, List.mem_map] at hu
    obtain ⟨q, _, rfl⟩ := hu
    exact h1 q
  · intro v' w' hown' hg _
    have hg2 : W.grownBy w' v.ownBlock := (World.grownBy_alloc W _ _).trans hg
    refine h v' w' (Kd.R_of_own (by rw [List.length_append, hm]; simpa [encs] using hown') (fun _ _ => trivial)) (HB.grown hg2 HB.size (own_base hown)) hg2
end Go.Proofs.Ytgjifcflkcpnlaa.P
