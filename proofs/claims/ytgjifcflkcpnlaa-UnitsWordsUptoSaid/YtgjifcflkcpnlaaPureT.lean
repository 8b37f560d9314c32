/- Plain laws: the text of units. -/
import Derived.Test.YtgjifcflkcpnlaaPureA
import Derived.Test.YtgjifcflkcpnlaaHandB
import Derived.Test.YtgjifcflkcpnlaaP9
import Derived.Lib.MapLaws
namespace Go.Proofs.Ytgjifcflkcpnlaa.Pure
set_option linter.unusedVariables false
set_option linter.unusedSimpArgs false
open Go.RowKit Go.Proofs.Ytgjifcflkcpnlaa.P Go.Proofs.YtgjifcflkcpnlaaW.PrintWords Go.Proofs.YtgjifcflkcpnlaaW.PrintLast Go.Proofs.YtgjifcflkcpnlaaW.PrintMore

def comb (c d : Int) : Int := 65536 + (c - 55296) * 1024 + d - 56320
/-- the runes of units, and whether some stood alone -/
def textAll : List Int → List Int × Bool
  | [] => ([], false)
  | [c] => if hiB c = true ∨ loB c = true then ([65533], true) else ([c], false)
  | c :: d :: rest =>
    if hiB c = true ∧ loB d = true then (comb c d :: (textAll rest).1, (textAll rest).2)
    else if hiB c = true ∨ loB c = true then (65533 :: (textAll (d :: rest)).1, true)
    else (c :: (textAll (d :: rest)).1, (textAll (d :: rest)).2)
theorem textAll_two (c d : Int) (rest : List Int) : textAll (c :: d :: rest) = if hiB c = true ∧ loB d = true then (comb c d :: (textAll rest).1, (textAll rest).2)
    else if hiB c = true ∨ loB c = true then (65533 :: (textAll (d :: rest)).1, true)
    else (c :: (textAll (d :: rest)).1, (textAll (d :: rest)).2) := rfl
theorem textAll_cons (c : Int) (rest : List Int) (h : ¬ (hiB c = true ∧ ∃ d r, rest = d :: r ∧ loB d = true)) :
    textAll (c :: rest) = if hiB c = true ∨ loB c = true then (65533 :: (textAll rest).1, true) else (c :: (textAll rest).1, (textAll rest).2) := by
  cases rest with
  | nil => simp [textAll]
  | cons d r =>
    rw [textAll_two, if_neg (fun e => h ⟨e.1, d, r, rfl, e.2⟩)]
theorem rd_at (l : List Int) (i : Nat) (h : i < l.length) : l.drop i = rd l i :: l.drop (i + 1) := rd_drop l i h
/-- one step of Text, at place i -/
theorem textAll_step (l : List Int) (i : Nat) (h : i < l.length) : ∃ j : Nat, (textStep l i).2.2 = (j : Int) ∧ i < j ∧ j ≤ l.length ∧
    textAll (l.drop i) = ((textStep l i).1 :: (textAll (l.drop j)).1, (textStep l i).2.1 || (textAll (l.drop j)).2) := by
  rw [rd_at l i h]
  unfold textStep
  by_cases h1 : hiB (rd l i) = true ∧ (i : Int) + 1 < (l.length : Int) ∧ loB (rd l ((i : Int) + 1)) = true
  · obtain ⟨a, b, c⟩ := h1
    rw [if_pos ⟨a, b, c⟩]
    have hb : i + 1 < l.length := by omega
    refine ⟨i + 2, rfl, by omega, by omega, ?_⟩
    rw [rd_at l (i + 1) hb]
    have c' : loB (rd l ((i + 1 : Nat) : Int)) = true := c
    rw [textAll_two, if_pos ⟨a, c'⟩]
    rw [show i + 1 + 1 = i + 2 from rfl, Bool.false_or]
    rfl
  · rw [if_neg h1]
    have hn : ¬ (hiB (rd l i) = true ∧ ∃ d r, l.drop (i + 1) = d :: r ∧ loB d = true) := by
      rintro ⟨a, d, r, e, c⟩
      have hb : i + 1 < l.length := by
        rcases Nat.lt_or_ge (i + 1) l.length with h' | h'
        · exact h'
        · rw [List.drop_of_length_le h'] at e; cases e
      rw [rd_at l (i + 1) hb] at e
      injection e with e _
      exact h1 ⟨a, by omega, by rw [← e] at c; exact c⟩
    rw [textAll_cons _ _ hn]
    by_cases h2 : hiB (rd l i) = true ∨ loB (rd l i) = true
    · rw [if_pos h2, if_pos h2]
      exact ⟨i + 1, rfl, by omega, by omega, by simp⟩
    · rw [if_neg h2, if_neg h2]
      exact ⟨i + 1, rfl, by omega, by omega, by simp⟩
def encAll (rs : List Int) : List UInt8 := rs.flatMap Lib.encodeRune
theorem enc_length (r : Int) : 1 ≤ (Lib.encodeRune r).length ∧ (Lib.encodeRune r).length ≤ 4 := by
  have := Lib.runeCells_le r
  rw [Lib.runeCells_length] at this
  exact this
theorem rd_range (l : List Int) (hw : ∀ x ∈ l, 0 ≤ x ∧ x ≤ 65535) (i : Int) : 0 ≤ rd l i ∧ rd l i < 65536 := by
  unfold rd
  rw [List.getD_eq_getElem?_getD]
  cases h : l[i.toNat]? with
  | none => simp
  | some x =>
    have := hw x (List.mem_of_getElem? h)
    simp
    omega
theorem text_loop (l : List Int) (hl : l.length < 1048577) (hw : ∀ x ∈ l, 0 ≤ x ∧ x ≤ 65535) : ∀ (n i : Nat) (alone : Bool) (out : List UInt8), l.length - i ≤ n → i ≤ l.length → out.length + 4 * n ≤ 8388616 →
    Ev (fun k => units_Text.l0 k l i alone out) (⟨(out ++ encAll (textAll (l.drop i)).1).toArray⟩, alone || (textAll (l.drop i)).2) := by
  intro n
  induction n with
  | zero =>
    intro i alone out hn hi ho
    refine Ev.step (fun _ => units_Text.l0.eq_2 ..) (Ev.ite_neg (by omega) ?_)
    rw [List.drop_of_length_le (by omega)]
    simp [textAll, encAll]
    exact Ev.now _
  | succ n ih =>
    intro i alone out hn hi ho
    refine Ev.step (fun _ => units_Text.l0.eq_2 ..) ?_
    by_cases h : i < l.length
    · obtain ⟨j, hj, hij, hjl, ht⟩ := textAll_step l i h
      have hr := rd_range l hw
      refine Ev.ite_pos (by omega) (Ev.ite_pos ⟨by omega, by omega, by omega, hr _, (hr _).1, (hr _).2⟩ ?_)
      have he := enc_length (textStep l i).1
      rw [hj, ht]
      have := ih j (alone || (textStep l i).2.1) (out ++ Lib.encodeRune (textStep l i).1) (by omega) hjl (by rw [List.length_append]; omega)
      simp only [encAll, List.flatMap_cons] at this ⊢
      rw [← List.append_assoc, ← Bool.or_assoc]
      exact this
    · refine Ev.ite_neg (by omega) ?_
      rw [List.drop_of_length_le (by omega)]
      simp [textAll, encAll]
      exact Ev.now _
theorem text_spec (l : List Int) (hl : l.length < 1048577) (hw : ∀ x ∈ l, 0 ≤ x ∧ x ≤ 65535) : Ev (fun k => units_Text.f k l) (⟨(encAll (textAll l).1).toArray⟩, (textAll l).2) := by
  have := text_loop l hl hw l.length 0 false [] (by omega) (by omega) (by simp; omega)
  show Ev (fun k => units_Text.l0 k l 0 false []) _
  simpa using this

theorem refhigh_eq (c : Int) : canopyref01_high.f c = some (hiB c) := isHigh_eq c
theorem reflow_eq (c : Int) : canopyref01_low.f c = some (loB c) := isLow_eq c
theorem byte_eq {n : Nat} {z : Int} (h : (n : Int) = z) : UInt8.ofNat n = z.toNat.toUInt8 := by
  subst h
  rw [Int.toNat_natCast]
theorem ba_ext {a b : ByteArray} (h : a.data.toList = b.data.toList) : a = b := by
  have h3 : a.data = b.data := Array.toList_inj.1 h
  cases a; cases b; simp_all
theorem encode_eq (r : Int) : Utf8.encode r = ⟨(Lib.encodeRune r).toArray⟩ := by
  unfold Utf8.encode Lib.encodeRune
  by_cases hv : Utf8.valid r = true
  · have hv2 : (0 ≤ r ∧ r < 55296) ∨ (57344 ≤ r ∧ r ≤ 1114111) := by simpa [Utf8.valid] using hv
    rw [if_pos hv]
    have hn : (r.toNat : Int) = r := by omega
    simp only
    by_cases a : r.toNat < 128
    · rw [if_pos a, Lib.encodeRuneZ_one (by omega) (by omega)]
      rfl
    rw [if_neg a]
    by_cases b : r.toNat < 2048
    · rw [if_pos b, Lib.encodeRuneZ_two (by omega) (by omega)]
      simp only [List.map_cons, List.map_nil]
      rw [byte_eq (z := 192 + r / 64) (by omega), byte_eq (z := 128 + r % 64) (by omega)]
    rw [if_neg b]
    by_cases c : r.toNat < 65536
    · rw [if_pos c, Lib.encodeRuneZ_three (by omega)]
      simp only [List.map_cons, List.map_nil]
      rw [byte_eq (z := 224 + r / 4096) (by omega), byte_eq (z := 128 + r / 64 % 64) (by omega), byte_eq (z := 128 + r % 64) (by omega)]
    · rw [if_neg c, Lib.encodeRuneZ_four (by omega) (by omega)]
      simp only [List.map_cons, List.map_nil]
      rw [byte_eq (z := 240 + r / 262144) (by omega), byte_eq (z := 128 + r / 4096 % 64) (by omega), byte_eq (z := 128 + r / 64 % 64) (by omega), byte_eq (z := 128 + r % 64) (by omega)]
  · have hv2 : ¬ ((0 ≤ r ∧ r < 55296) ∨ (57344 ≤ r ∧ r ≤ 1114111)) := by simpa [Utf8.valid] using hv
    rw [if_neg hv, Lib.encodeRuneZ_bad (by omega)]
    rfl
theorem runesBytes_eq (rs : List Int) : runesBytes rs = ⟨(encAll rs).toArray⟩ := by
  have : ∀ (rs : List Int) (a : List UInt8), rs.foldl (fun r n => r ++ Utf8.encode n) (⟨a.toArray⟩ : ByteArray) = ⟨(a ++ encAll rs).toArray⟩ := by
    intro rs
    induction rs with
    | nil => intro a; simp [encAll]
    | cons r rs ih =>
      intro a
      rw [List.foldl_cons, encode_eq]
      have e : (⟨a.toArray⟩ : ByteArray) ++ ⟨(Lib.encodeRune r).toArray⟩ = ⟨(a ++ Lib.encodeRune r).toArray⟩ := by
        apply ba_ext
        simp
      rw [e, ih]
      simp [encAll]
  exact this rs []
theorem reftext_loop (l : List Int) (hl : l.length < 1048577) (hw : ∀ x ∈ l, 0 ≤ x ∧ x ≤ 65535) : ∀ (n i : Nat) (alone : Bool) (out : List Int), l.length - i ≤ n → i ≤ l.length → out.length + n ≤ 1048580 →
    Ev (fun k => canopyref01_Text.l0 k l out alone i) (runesBytes (out ++ (textAll (l.drop i)).1), alone || (textAll (l.drop i)).2) := by
  intro n
  induction n with
  | zero =>
    intro i alone out hn hi ho
    refine Ev.step (fun _ => canopyref01_Text.l0.eq_2 ..) (Ev.ite_neg (by omega) ?_)
    rw [List.drop_of_length_le (by omega)]
    simp [textAll]
    exact Ev.now _
  | succ n ih =>
    intro i alone out hn hi ho
    refine Ev.step (fun _ => canopyref01_Text.l0.eq_2 ..) ?_
    by_cases h : i < l.length
    · obtain ⟨j, hj, hij, hjl, ht⟩ := textAll_step l i h
      have hr := rd_range l hw (i : Int)
      have hr2 := rd_range l hw ((i : Int) + 1)
      have hwi : wrap64 ((i : Int) + 1) = (i : Int) + 1 := wrap64_id (by omega) (by omega)
      have go := ih j (alone || (textStep l i).2.1) (out ++ [(textStep l i).1]) (by omega) hjl (by rw [List.length_append, List.length_singleton]; omega)
      rw [ht]
      rw [← hj, Bool.or_assoc, List.append_assoc, List.singleton_append] at go
      rw [hwi, refhigh_eq, reflow_eq]
      simp only [Option.bind_some]
      refine Ev.ite_pos (by omega) (Ev.ite_pos (by omega) ?_)
      -- the second half, once the pair is told
      have rest : ∀ b : Bool, b = (hiB (rd l i) && (decide ((i : Int) + 1 < (l.length : Int)) && loB (rd l ((i : Int) + 1)))) →
          Ev (fun k => canopyref01_Text.j1 k l out alone i b) (runesBytes (out ++ (textStep l i).1 :: (textAll (l.drop j)).1), alone || ((textStep l i).2.1 || (textAll (l.drop j)).2)) := by
        intro b hb
        refine Ev.step (fun _ => canopyref01_Text.j1.eq_2 ..) ?_
        rw [hwi, refhigh_eq, reflow_eq]
        simp only [Option.bind_some]
        by_cases hp : hiB (rd l i) = true ∧ (i : Int) + 1 < (l.length : Int) ∧ loB (rd l ((i : Int) + 1)) = true
        · have hbt : b = true := by rw [hb, hp.1, hp.2.2, decide_eq_true hp.2.1]; rfl
          have hs : textStep l i = (65536 + (rd l i - 55296) * 1024 + rd l ((i : Int) + 1) - 56320, false, (i : Int) + 2) := by unfold textStep; rw [if_pos hp]
          have h1 : 55296 ≤ rd l i ∧ rd l i < 56320 := by simpa [hiB] using hp.1
          have h2 : 56320 ≤ rd l ((i : Int) + 1) ∧ rd l ((i : Int) + 1) < 57344 := by simpa [loB] using hp.2.2
          refine Ev.ite_pos hbt (Ev.ite_pos (by omega) (Ev.ite_pos (by omega) (Ev.ite_pos (by omega) (Ev.ite_pos hp.2.1 (Ev.ite_pos (by omega) ?_)))))
          rw [hs] at go ⊢
          rw [wrap32_id (n := rd l i) (by omega) (by omega), wrap32_id (n := rd l i - 55296) (by omega) (by omega), wrap32_id (n := (rd l i - 55296) * 1024) (by omega) (by omega), wrap32_id (n := 65536 + (rd l i - 55296) * 1024) (by omega) (by omega), wrap32_id (n := rd l ((i : Int) + 1)) (by omega) (by omega), wrap32_id (n := 65536 + (rd l i - 55296) * 1024 + rd l ((i : Int) + 1)) (by omega) (by omega), wrap32_id (by omega) (by omega), wrap64_id (by omega) (by omega)]
          rw [show (i : Int) + 1 + 1 = (i : Int) + 2 by omega]
          simpa using go
        · have hbf : ¬ b = true := by
            rw [hb]
            intro e
            simp only [Bool.and_eq_true, decide_eq_true_eq] at e
            exact hp ⟨e.1, e.2.1, e.2.2⟩
          refine Ev.ite_neg hbf (Ev.ite_pos (by omega) (Ev.ite_pos (by omega) ?_))
          by_cases h1 : hiB (rd l i) = true
          · have hs : textStep l i = (65533, true, (i : Int) + 1) := by unfold textStep; rw [if_neg hp, if_pos (.inl h1)]
            rw [hs] at go ⊢
            refine Ev.ite_pos h1 (Ev.ite_pos (by omega) ?_)
            simpa using go
          · refine Ev.ite_neg h1 ?_
            by_cases h2 : loB (rd l i) = true
            · have hs : textStep l i = (65533, true, (i : Int) + 1) := by unfold textStep; rw [if_neg hp, if_pos (.inr h2)]
              rw [hs] at go ⊢
              refine Ev.ite_pos h2 (Ev.ite_pos (by omega) ?_)
              simpa using go
            · have hs : textStep l i = (rd l i, false, (i : Int) + 1) := by unfold textStep; rw [if_neg hp, if_neg (fun e => e.elim h1 h2)]
              rw [hs] at go ⊢
              refine Ev.ite_neg h2 (Ev.ite_pos (by omega) ?_)
              rw [wrap32_id (n := rd l i) (by omega) (by omega)]
              simpa using go
      by_cases h1 : hiB (rd l i) = true
      · refine Ev.ite_pos h1 ?_
        by_cases h2 : (i : Int) + 1 < (l.length : Int)
        · refine Ev.ite_pos h2 (Ev.ite_pos (by omega) (rest _ ?_))
          rw [h1, decide_eq_true h2]
          rfl
        · refine Ev.ite_neg h2 (rest _ ?_)
          rw [decide_eq_false h2]
          simp
      · refine Ev.ite_neg h1 (rest _ ?_)
        rw [Bool.eq_false_iff.mpr h1]
        rfl
    · refine Ev.ite_neg (by omega) ?_
      rw [List.drop_of_length_le (by omega)]
      simp [textAll]
      exact Ev.now _
theorem reftext_spec (l : List Int) (hl : l.length < 1048577) (hw : ∀ x ∈ l, 0 ≤ x ∧ x ≤ 65535) : Ev (fun k => canopyref01_Text.f k l) (⟨(encAll (textAll l).1).toArray⟩, (textAll l).2) := by
  have := reftext_loop l hl hw l.length 0 false [] (by omega) (by omega) (by simp; omega)
  rw [runesBytes_eq] at this
  show Ev (fun k => canopyref01_Text.l0 k l [] false 0) _
  simpa using this
end Go.Proofs.Ytgjifcflkcpnlaa.Pure
