/- The pure statement of UnitsTexts. -/
import Derived.Test.YtgjifcflkcpnlaaPureL
import Derived.Test.YtgjifcflkcpnlaaPureO
import Derived.Test.YtgjifcflkcpnlaaPureT
import Derived.Test.YtgjifcflkcpnlaaPureC
import Derived.Test.YtgjifcflkcpnlaaP11
namespace Go.Proofs.Ytgjifcflkcpnlaa.Pure
set_option linter.unusedVariables false
open Go.RowKit Go.Proofs.Ytgjifcflkcpnlaa.P Go.Proofs.YtgjifcflkcpnlaaW.PrintWords
theorem ucompare_loop (l m : List Int) (hl : l.length < 4611686018427387904) (hm : m.length < 4611686018427387904) : ∀ (d i : Nat), l.length - i ≤ d → i ≤ l.length → i ≤ m.length → Ev (fun k => units_Compare.l0 k l m i) (cmpI (l.drop i) (m.drop i)) := by
  intro d
  induction d with
  | zero =>
    intro i hd hil him
    have hi : i = l.length := by omega
    refine Ev.step (fun _ => units_Compare.l0.eq_2 ..) ?_
    refine Ev.ite_neg (by omega) (Ev.step (fun _ => units_Compare.j1.eq_2 ..) ?_)
    refine Ev.ite_neg (by simp) ?_
    rw [hi, List.drop_length]
    by_cases h : l.length < m.length
    · refine Ev.ite_pos (by omega) ?_
      rw [rd_drop m _ h]
      exact Ev.now _
    · refine Ev.ite_neg (by omega) (Ev.ite_neg (by omega) ?_)
      rw [List.drop_of_length_le (by omega)]
      exact Ev.now _
  | succ d ih =>
    intro i hd hil him
    refine Ev.step (fun _ => units_Compare.l0.eq_2 ..) ?_
    by_cases h1 : i < l.length
    · refine Ev.ite_pos (by omega) (Ev.step (fun _ => units_Compare.j1.eq_2 ..) ?_)
      by_cases h2 : i < m.length
      · refine Ev.ite_pos (by simp; omega) (Ev.ite_pos (by omega) (Ev.ite_pos (by omega) (Ev.ite_pos (by omega) ?_)))
        rw [rd_drop l i h1, rd_drop m i h2]
        unfold cmpI
        by_cases h3 : rd l i < rd m i
        · rw [if_pos h3]; exact Ev.ite_pos h3 (Ev.now _)
        · rw [if_neg h3]
          refine Ev.ite_neg h3 ?_
          by_cases h4 : rd l i > rd m i
          · rw [if_pos h4]; exact Ev.ite_pos h4 (Ev.now _)
          · rw [if_neg h4]
            refine Ev.ite_neg h4 ?_
            rw [wrap64_id (by omega) (by omega)]
            exact ih (i + 1) (by omega) (by omega) (by omega)
      · refine Ev.ite_neg (by simp; omega) (Ev.ite_neg (by omega) (Ev.ite_pos (by omega) ?_))
        rw [rd_drop l i h1, List.drop_of_length_le (show m.length ≤ i by omega)]
        exact Ev.now _
    · have hi : i = l.length := by omega
      refine Ev.ite_neg (by omega) (Ev.step (fun _ => units_Compare.j1.eq_2 ..) ?_)
      refine Ev.ite_neg (by simp) ?_
      rw [hi, List.drop_length]
      by_cases h : l.length < m.length
      · refine Ev.ite_pos (by omega) ?_
        rw [rd_drop m _ h]
        exact Ev.now _
      · refine Ev.ite_neg (by omega) (Ev.ite_neg (by omega) ?_)
        rw [List.drop_of_length_le (by omega)]
        exact Ev.now _
theorem ucompare_spec (l m : List Int) (hl : l.length < 4611686018427387904) (hm : m.length < 4611686018427387904) : Ev (fun k => units_Compare.f k l m) (cmpI l m) :=
  ucompare_loop l m hl hm l.length 0 (by omega) (by omega) (by omega)

theorem runes_length (s : ByteArray) : (unitsAll (runes s)).length ≤ 2 * s.size := by
  have h1 := unitsAll_length (runes s)
  have h2 := runesD_length s.size s.data.toList
  unfold runes at h1 ⊢
  omega
theorem refof_spec (s : ByteArray) (hs : s.size < 1048577) : Ev (fun k => canopyref01_Of.f k s) (if (unitsAll (runes s)).length > 16384 then ([], 4) else (unitsAll (runes s), 0)) := by
  show Ev (fun n => (canopyref01_Units.f n s).bind fun t => if (t.length : Int) > 16384 then some (([] : List Int), 4) else some (t, 0)) _
  refine Ev.bind (refunits_spec s hs) ?_
  by_cases h : (unitsAll (runes s)).length > 16384
  · rw [if_pos h]
    exact Ev.ite_pos (by omega) (Ev.now _)
  · rw [if_neg h]
    exact Ev.ite_neg (by omega) (Ev.now _)
theorem UnitsTexts : ∀ (a0 : ByteArray) (l1 : List (Int)) (l2 : List (Int)), (a0.size < 1048577) → (l1.length < 1048577 ∧ ∀ x0 ∈ l1, (Lit.int .u16 x0).wf = true) → (l2.length < 1048577 ∧ ∀ x0 ∈ l2, (Lit.int .u16 x0).wf = true) → ∃ k, canopylaw01_UnitsTexts.f k a0 l1 l2 = some true := by
  intro s u v hs hu hv
  have hw : ∀ x ∈ u, 0 ≤ x ∧ x ≤ 65535 := fun x hx => wf_u16 (hu.2 x hx)
  have hl := runes_length s
  obtain ⟨x, c, hx, e⟩ : ∃ x c, x.length < 4611686018427387904 ∧ (if (unitsAll (runes s)).length > 16384 then (([] : List Int), (4 : Int)) else (unitsAll (runes s), 0)) = (x, c) := by
    by_cases h : (unitsAll (runes s)).length > 16384
    · exact ⟨[], 4, by simp, by rw [if_pos h]⟩
    · exact ⟨unitsAll (runes s), 0, by omega, by rw [if_neg h]⟩
  have h1 := of_spec s
  have h2 := refof_spec s hs
  rw [e] at h1 h2
  refine Ev.rounds (r := true) ?_
  unfold canopylaw01_UnitsTexts.f
  refine Ev.bind h1 (Ev.bind h2 (Ev.bind (text_spec u hu.1 hw) (Ev.bind (reftext_spec u hu.1 hw) (Ev.bind lives_spec (Ev.ite_pos rfl (Ev.bind (same_spec _ _ hx hx) ?_))))))
  refine Ev.ite_pos (by simp) (Ev.ite_pos rfl (Ev.ite_pos rfl (Ev.ite_pos (by simp) ?_)))
  refine Ev.bind (ucompare_spec u v (by omega) (by omega)) (Ev.bind (compare_spec u v (by omega) (by omega)) ?_)
  rw [show (cmpI u v == cmpI u v) = true from by simp]
  exact Ev.now _
end Go.Proofs.Ytgjifcflkcpnlaa.Pure
