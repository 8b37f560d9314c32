/- Plain laws: a text's runes and units. -/
import Derived.Test.YtgjifcflkcpnlaaPureA
import Derived.Test.YtgjifcflkcpnlaaHandA
import Derived.Lib.MapLaws
namespace Go.Proofs.Ytgjifcflkcpnlaa.Pure
set_option linter.unusedVariables false
set_option linter.unusedSimpArgs false
open Go.RowKit Go.Proofs.Ytgjifcflkcpnlaa.P Go.Proofs.YtgjifcflkcpnlaaW.PrintWords Go.Proofs.YtgjifcflkcpnlaaW.PrintLast Go.Proofs.YtgjifcflkcpnlaaW.PrintMore

/-- the runes of a text's bytes, at most so many -/
def runesD : Nat → List UInt8 → List Int
  | 0, _ => []
  | n + 1, l => if l = [] then [] else ((Lib.decodeL l).1 : Int) :: runesD n (l.drop (Lib.decodeL l).2)
theorem runesD_succ (n : Nat) (l : List UInt8) : runesD (n + 1) l = if l = [] then [] else ((Lib.decodeL l).1 : Int) :: runesD n (l.drop (Lib.decodeL l).2) := rfl
def unitsAll (rs : List Int) : List Int := rs.flatMap unitsOf
theorem at_drop (s : ByteArray) (pos : Nat) : Lib.decodeL (s.data.toList.drop pos) = ((Utf8.decode s pos).1, widthAt s pos) := by rw [Lib.decodeL_drop]; rfl
theorem drop_nil (s : ByteArray) (pos : Nat) : s.data.toList.drop pos = [] ↔ ¬ pos < s.size := by
  rw [List.drop_eq_nil_iff]
  simp
theorem width_one (s : ByteArray) (pos : Nat) : 1 ≤ widthAt s pos := by
  have := Lib.decodeL_width (s.data.toList.drop pos)
  rw [at_drop] at this
  exact this
theorem runesD_at (s : ByteArray) (n pos : Nat) : runesD (n + 1) (s.data.toList.drop pos) = if pos < s.size then runeAt s pos :: runesD n (s.data.toList.drop (pos + widthAt s pos)) else [] := by
  rw [runesD_succ]
  by_cases h : pos < s.size
  · rw [if_neg (fun e => (drop_nil s pos).1 e h), if_pos h, at_drop, List.drop_drop]
    rfl
  · rw [if_pos ((drop_nil s pos).2 h), if_neg h]
theorem unitsOf_length (c : Int) : 1 ≤ (unitsOf c).length ∧ (unitsOf c).length ≤ 2 := by unfold unitsOf; split <;> simp

theorem of_loop (s : ByteArray) : ∀ (n pos : Nat) (out : List Int), s.size - pos ≤ n → out.length ≤ 16384 →
    Ev (fun k => units_Of.l0 k s pos out) (if (out ++ unitsAll (runesD n (s.data.toList.drop pos))).length > 16384 then ([], 4) else (out ++ unitsAll (runesD n (s.data.toList.drop pos)), 0)) := by
  intro n
  induction n with
  | zero =>
    intro pos out hn hout
    refine Ev.step (fun _ => units_Of.l0.eq_2 ..) (Ev.ite_neg (by omega) ?_)
    rw [if_neg (by simp [runesD, unitsAll]; omega)]
    simp [runesD, unitsAll]
    exact Ev.now _
  | succ n ih =>
    intro pos out hn hout
    refine Ev.step (fun _ => units_Of.l0.eq_2 ..) ?_
    rw [runesD_at]
    by_cases h : pos < s.size
    · rw [if_pos h]
      have hu : unitsAll (runeAt s pos :: runesD n (s.data.toList.drop (pos + widthAt s pos))) = unitsOf (runeAt s pos) ++ unitsAll (runesD n (s.data.toList.drop (pos + widthAt s pos))) := by simp [unitsAll]
      rw [hu, ← List.append_assoc]
      refine Ev.ite_pos h ?_
      by_cases h2 : (out ++ unitsOf (runeAt s pos)).length > 16384
      · rw [if_pos (by rw [List.length_append]; omega)]
        exact Ev.ite_pos h2 (Ev.now _)
      · have hw := width_one s pos
        exact Ev.ite_neg h2 (ih _ _ (by omega) (by omega))
    · rw [if_neg h]
      refine Ev.ite_neg h ?_
      rw [if_neg (by simp [unitsAll]; omega)]
      simp [unitsAll]
      exact Ev.now _
theorem units_loop (s : ByteArray) (hs : s.size < 1048577) : ∀ (n pos : Nat) (out : List Int), s.size - pos ≤ n → out.length + 2 * n ≤ 4194308 →
    Ev (fun k => canopyref01_Units.l0 k s pos out) (out ++ unitsAll (runesD n (s.data.toList.drop pos))) := by
  intro n
  induction n with
  | zero =>
    intro pos out hn hout
    refine Ev.step (fun _ => canopyref01_Units.l0.eq_2 ..) (Ev.ite_neg (by omega) ?_)
    simp [runesD, unitsAll]
    exact Ev.now _
  | succ n ih =>
    intro pos out hn hout
    refine Ev.step (fun _ => canopyref01_Units.l0.eq_2 ..) ?_
    rw [runesD_at]
    by_cases h : pos < s.size
    · rw [if_pos h]
      have hu : unitsAll (runeAt s pos :: runesD n (s.data.toList.drop (pos + widthAt s pos))) = unitsOf (runeAt s pos) ++ unitsAll (runesD n (s.data.toList.drop (pos + widthAt s pos))) := by simp [unitsAll]
      rw [hu, ← List.append_assoc]
      have hw := width_one s pos
      have hu := unitsOf_length (runeAt s pos)
      exact Ev.ite_pos h (Ev.ite_pos (by omega) (ih _ _ (by omega) (by rw [List.length_append]; omega)))
    · rw [if_neg h]
      refine Ev.ite_neg h ?_
      simp [unitsAll]
      exact Ev.now _
/-- the runes of a text -/
def runes (s : ByteArray) : List Int := runesD s.size s.data.toList
theorem of_spec (s : ByteArray) : Ev (fun k => units_Of.f k s) (if (unitsAll (runes s)).length > 16384 then ([], 4) else (unitsAll (runes s), 0)) := by
  have := of_loop s s.size 0 [] (by omega) (by simp)
  show Ev (fun k => units_Of.l0 k s 0 []) _
  simpa [runes] using this
theorem refunits_spec (s : ByteArray) (hs : s.size < 1048577) : Ev (fun k => canopyref01_Units.f k s) (unitsAll (runes s)) := by
  have := units_loop s hs s.size 0 [] (by omega) (by simp; omega)
  show Ev (fun k => canopyref01_Units.l0 k s 0 []) _
  simpa [runes] using this
theorem runesD_length : ∀ (n : Nat) (l : List UInt8), (runesD n l).length ≤ n
  | 0, _ => by simp [runesD]
  | n + 1, l => by
    rw [runesD_succ]
    split
    · simp
    · have := runesD_length n (l.drop (Lib.decodeL l).2)
      simp
      omega
theorem unitsAll_length : ∀ rs : List Int, (unitsAll rs).length ≤ 2 * rs.length
  | [] => by simp [unitsAll]
  | r :: rs => by
    have h1 := unitsAll_length rs
    have h2 := unitsOf_length r
    simp [unitsAll] at h1 ⊢
    omega

theorem valid_loop (s : ByteArray) (hs : s.size < 1048577) : ∀ (n pos : Nat) (m : Int), s.size - pos ≤ n → 0 ≤ m → m + 4 * n ≤ 8388616 →
    Ev (fun k => canopylaw01_valid.l0 k s pos m) (m + ((runesD n (s.data.toList.drop pos)).map lenOf).sum == (s.size : Int)) := by
  intro n
  induction n with
  | zero =>
    intro pos m hn h0 hm
    refine Ev.step (fun _ => canopylaw01_valid.l0.eq_2 ..) (Ev.ite_neg (by omega) ?_)
    simp [runesD]
    exact Ev.now _
  | succ n ih =>
    intro pos m hn h0 hm
    refine Ev.step (fun _ => canopylaw01_valid.l0.eq_2 ..) ?_
    rw [runesD_at]
    by_cases h : pos < s.size
    · rw [if_pos h]
      have hw := width_one s pos
      have hl : 0 ≤ lenOf (runeAt s pos) ∧ lenOf (runeAt s pos) ≤ 4 := by unfold lenOf; repeat' split
                                                                          all_goals omega
      refine Ev.ite_pos h (Ev.ite_pos ⟨h0, by omega⟩ ?_)
      have := ih (pos + widthAt s pos) (m + lenOf (runeAt s pos)) (by omega) (by omega) (by omega)
      simp only [List.map_cons, List.sum_cons]
      rw [← Int.add_assoc]
      exact this
    · rw [if_neg h]
      refine Ev.ite_neg h ?_
      simp
      exact Ev.now _
theorem valid_spec (s : ByteArray) (hs : s.size < 1048577) : Ev (fun k => canopylaw01_valid.f k s) (((runes s).map lenOf).sum == (s.size : Int)) := by
  have := valid_loop s hs s.size 0 0 (by omega) (by omega) (by omega)
  show Ev (fun k => canopylaw01_valid.l0 k s 0 0) _
  simpa [runes] using this
end Go.Proofs.Ytgjifcflkcpnlaa.Pure
