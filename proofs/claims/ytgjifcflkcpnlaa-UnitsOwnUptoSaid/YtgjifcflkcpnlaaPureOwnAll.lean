/- Plain laws, several texts in one: what the printed functions answer. -/
import Derived.Test.YtgjifcflkcpnlaaP3
import Derived.Test.YtgjifcflkcpnlaaP5
import Derived.Test.YtgjifcflkcpnlaaHandB
import Derived.Test.YtgjifcflkcpnlaaP9
import Derived.Lib.MapLaws
import Derived.Test.YtgjifcflkcpnlaaP13
import Derived.Test.YtgjifcflkcpnlaaP14
import Derived.Test.YtgjifcflkcpnlaaHandD
import Derived.Test.YtgjifcflkcpnlaaHandE
import Derived.Test.YtgjifcflkcpnlaaHandF
import Derived.Test.YtgjifcflkcpnlaaP16
import Derived.Test.YtgjifcflkcpnlaaP18
import Derived.Test.YtgjifcflkcpnlaaP19
import Derived.Test.YtgjifcflkcpnlaaP20
import Derived.Test.YtgjifcflkcpnlaaP21
import Derived.Test.YtgjifcflkcpnlaaP22
import Derived.Test.YtgjifcflkcpnlaaP17
namespace Go.Proofs.Ytgjifcflkcpnlaa.Pure
set_option linter.unusedVariables false
set_option linter.unusedSimpArgs false
open Go.RowKit Go.Proofs.Ytgjifcflkcpnlaa.P Go.Proofs.YtgjifcflkcpnlaaW.PrintWords Go.Proofs.YtgjifcflkcpnlaaW.PrintLast Go.Proofs.YtgjifcflkcpnlaaW.PrintMore

theorem wrap64_id {n : Int} (h0 : -9223372036854775808 ≤ n) (h1 : n ≤ 9223372036854775807) : wrap64 n = n := by unfold wrap64; omega
theorem wrap32_id {n : Int} (h0 : -2147483648 ≤ n) (h1 : n ≤ 2147483647) : wrap32 n = n := by unfold wrap32; omega

theorem Ev.ite_pos {α : Type} {c : Prop} [Decidable c] {f g : Nat → Option α} {r : α} (hc : c) (h : Ev f r) : Ev (fun k => if c then f k else g k) r := Ev.congr (fun k => if_pos hc) h
theorem Ev.ite_neg {α : Type} {c : Prop} [Decidable c] {f g : Nat → Option α} {r : α} (hc : ¬ c) (h : Ev g r) : Ev (fun k => if c then f k else g k) r := Ev.congr (fun k => if_neg hc) h

/-- one list held against another, number by number -/
def cmpI : List Int → List Int → Int
  | [], [] => 0
  | [], _ :: _ => -1
  | _ :: _, [] => 1
  | x :: xs, y :: ys => if x < y then -1 else if x > y then 1 else cmpI xs ys
theorem cmpI_zero : ∀ l m : List Int, cmpI l m = 0 ↔ l = m
  | [], [] => by simp [cmpI]
  | [], _ :: _ => by simp [cmpI]
  | _ :: _, [] => by simp [cmpI]
  | x :: xs, y :: ys => by
    have ih := cmpI_zero xs ys
    unfold cmpI
    by_cases h1 : x < y
    · rw [if_pos h1]; simp; intro h; omega
    · rw [if_neg h1]
      by_cases h2 : x > y
      · rw [if_pos h2]; simp; intro h; omega
      · rw [if_neg h2, ih]
        have : x = y := by omega
        simp [this]
theorem rd_drop (l : List Int) (i : Nat) (h : i < l.length) : l.drop i = rd l i :: l.drop (i + 1) := by
  rw [List.drop_eq_getElem_cons h]
  simp [rd, List.getD_eq_getElem?_getD, h]

theorem compare_loop (l m : List Int) (hl : l.length < 4611686018427387904) (hm : m.length < 4611686018427387904) : ∀ (d i : Nat), l.length - i ≤ d → i ≤ l.length → i ≤ m.length → Ev (fun k => canopyref01_Compare.l0 k l m i) (cmpI (l.drop i) (m.drop i)) := by
  intro d
  induction d with
  | zero =>
    intro i hd hil him
    have hi : i = l.length := by omega
    refine Ev.step (fun _ => canopyref01_Compare.l0.eq_2 ..) ?_
    refine Ev.ite_neg (by omega) (Ev.step (fun _ => canopyref01_Compare.j1.eq_2 ..) ?_)
    refine Ev.ite_neg (by simp) ?_
    rw [hi, List.drop_length]
    by_cases h : l.length < m.length
    · refine Ev.ite_pos (by omega) ?_
      rw [rd_drop m _ h]
      exact Ev.now _
    · refine Ev.ite_neg (by omega) (Ev.ite_neg (by omega) ?_)
      rw [List.drop_of_length_le (by omega)]
      exact Ev.now _
  | succ d ih =>
    intro i hd hil him
    refine Ev.step (fun _ => canopyref01_Compare.l0.eq_2 ..) ?_
    by_cases h1 : i < l.length
    · refine Ev.ite_pos (by omega) (Ev.step (fun _ => canopyref01_Compare.j1.eq_2 ..) ?_)
      by_cases h2 : i < m.length
      · refine Ev.ite_pos (by simp; omega) (Ev.ite_pos (by omega) (Ev.ite_pos (by omega) (Ev.ite_pos (by omega) ?_)))
        rw [rd_drop l i h1, rd_drop m i h2]
        unfold cmpI
        by_cases h3 : rd l i < rd m i
        · rw [if_pos h3]; exact Ev.ite_pos h3 (Ev.now _)
        · rw [if_neg h3]
          refine Ev.ite_neg h3 ?_
          by_cases h4 : rd l i > rd m i
          · rw [if_pos h4]; exact Ev.ite_pos h4 (Ev.now _)
          · rw [if_neg h4]
            refine Ev.ite_neg h4 ?_
            rw [wrap64_id (by omega) (by omega)]
            exact ih (i + 1) (by omega) (by omega) (by omega)
      · refine Ev.ite_neg (by simp; omega) (Ev.ite_neg (by omega) (Ev.ite_pos (by omega) ?_))
        rw [rd_drop l i h1, List.drop_of_length_le (show m.length ≤ i by omega)]
        exact Ev.now _
    · have hi : i = l.length := by omega
      refine Ev.ite_neg (by omega) (Ev.step (fun _ => canopyref01_Compare.j1.eq_2 ..) ?_)
      refine Ev.ite_neg (by simp) ?_
      rw [hi, List.drop_length]
      by_cases h : l.length < m.length
      · refine Ev.ite_pos (by omega) ?_
        rw [rd_drop m _ h]
        exact Ev.now _
      · refine Ev.ite_neg (by omega) (Ev.ite_neg (by omega) ?_)
        rw [List.drop_of_length_le (by omega)]
        exact Ev.now _
theorem compare_spec (l m : List Int) (hl : l.length < 4611686018427387904) (hm : m.length < 4611686018427387904) : Ev (fun k => canopyref01_Compare.f k l m) (cmpI l m) :=
  compare_loop l m hl hm l.length 0 (by omega) (by omega) (by omega)
theorem same_spec (l m : List Int) (hl : l.length < 4611686018427387904) (hm : m.length < 4611686018427387904) : Ev (fun k => canopyref01_Same.f k l m) (decide (l = m)) := by
  refine Ev.bind (f := fun _ t => some (t == 0)) (compare_spec l m hl hm) ?_
  have : (cmpI l m == 0) = decide (l = m) := by
    by_cases h : l = m
    · rw [(cmpI_zero l m).2 h, decide_eq_true h]; rfl
    · have := mt (cmpI_zero l m).1 h
      simp [this, h]
  rw [← this]
  exact Ev.now _

theorem rdS_drop (l : List ByteArray) (i : Nat) (h : i < l.length) : l.drop i = rdOf ByteArray.empty l i :: l.drop (i + 1) := by
  rw [List.drop_eq_getElem_cons h]
  simp [rdOf, List.getD_eq_getElem?_getD, h]
theorem toList_loop (a : ByteArray) : ∀ (d i : Nat) (r : List UInt8), a.size - i ≤ d → ByteArray.toList.loop a i r = r.reverse ++ a.data.toList.drop i
  | 0, i, r, h => by
    unfold ByteArray.toList.loop
    rw [if_neg (by omega), List.drop_of_length_le (by simp; show a.size ≤ i; omega), List.append_nil]
  | d + 1, i, r, h => by
    unfold ByteArray.toList.loop
    by_cases hi : i < a.size
    · rw [if_pos hi, toList_loop a d (i + 1) _ (by omega)]
      have hl : i < a.data.toList.length := by simpa using hi
      rw [List.drop_eq_getElem_cons hl]
      have : a.get! i = a.data.toList[i] := by
        have hi2 : i < a.data.size := hi
        show a.data[i]! = _
        rw [getElem!_pos a.data i hi2]
        simp
      simp [this]
    · rw [if_neg hi, List.drop_of_length_le (by simp; show a.size ≤ i; omega), List.append_nil]
theorem bytes_toList (a : ByteArray) : a.toList = a.data.toList := by
  unfold ByteArray.toList
  rw [toList_loop a a.size 0 [] (by omega)]
  simp
theorem toList_inj (a b : ByteArray) : a.toList = b.toList ↔ a = b := by
  refine ⟨fun h => ?_, fun h => by rw [h]⟩
  have h2 : a.data.toList = b.data.toList := by rw [← bytes_toList, ← bytes_toList]; exact h
  have h3 : a.data = b.data := Array.toList_inj.1 h2
  cases a; cases b; simp_all
theorem strings_loop (l m : List ByteArray) (hlm : l.length = m.length) (hl : l.length < 4611686018427387904) : ∀ (d i : Nat), l.length - i ≤ d → i ≤ l.length → Ev (fun k => canopyref01_Strings.l0 k l m (l.length : Int) i) (decide (l.drop i = m.drop i)) := by
  intro d
  induction d with
  | zero =>
    intro i hd hil
    refine Ev.step (fun _ => canopyref01_Strings.l0.eq_2 ..) ?_
    refine Ev.ite_neg (by omega) ?_
    rw [List.drop_of_length_le (by omega), List.drop_of_length_le (by omega)]
    exact Ev.now _
  | succ d ih =>
    intro i hd hil
    refine Ev.step (fun _ => canopyref01_Strings.l0.eq_2 ..) ?_
    by_cases h1 : i < l.length
    · refine Ev.ite_pos (by omega) (Ev.ite_pos (by omega) (Ev.ite_pos (by omega) (Ev.ite_pos (by omega) ?_)))
      rw [rdS_drop l i h1, rdS_drop m i (by omega)]
      by_cases h : (rdOf ByteArray.empty l i).toList = (rdOf ByteArray.empty m i).toList
      · refine Ev.ite_pos h ?_
        rw [wrap64_id (by omega) (by omega)]
        have := ih (i + 1) (by omega) (by omega)
        have he := (toList_inj _ _).1 h
        simpa [he] using this
      · refine Ev.ite_neg h ?_
        have he := mt (toList_inj _ _).2 h
        simp [he]
        exact Ev.now _
    · refine Ev.ite_neg (by omega) ?_
      rw [List.drop_of_length_le (by omega), List.drop_of_length_le (by omega)]
      exact Ev.now _
theorem strings_spec (l m : List ByteArray) (hl : l.length < 4611686018427387904) : Ev (fun k => canopyref01_Strings.f k l m) (decide (l = m)) := by
  by_cases h : l.length = m.length
  · refine Ev.ite_pos (by omega) ?_
    exact strings_loop l m h hl l.length 0 (by omega) (by omega)
  · have : ¬ l = m := fun e => h (by rw [e])
    rw [decide_eq_false this]
    exact Ev.ite_neg (by omega) (Ev.now _)
end Go.Proofs.Ytgjifcflkcpnlaa.Pure
namespace Go.Proofs.Ytgjifcflkcpnlaa.Pure
set_option linter.unusedVariables false
set_option linter.unusedSimpArgs false
open Go.RowKit Go.Proofs.Ytgjifcflkcpnlaa.P Go.Proofs.YtgjifcflkcpnlaaW.PrintWords Go.Proofs.YtgjifcflkcpnlaaW.PrintLast Go.Proofs.YtgjifcflkcpnlaaW.PrintMore

theorem lives_of : units_Of.f 9 (⟨#[97, 240, 159, 152, 128]⟩ : ByteArray) = some ([97, 55357, 56832], 0) := by decide +kernel
theorem lives_text : units_Text.f 9 ([56832, 97] : List Int) = some (⟨#[239, 191, 189, 97]⟩, true) := by decide +kernel
theorem lives_split : units_Split.f 20 (⟨#[32, 97, 32, 32, 98, 9, 99, 32]⟩ : ByteArray) = some [⟨#[97]⟩, ⟨#[98]⟩, ⟨#[99]⟩] := by decide +kernel
theorem lives_low1 : units_Lower.f (⟨#[68, 73, 86]⟩ : ByteArray) = some ⟨#[100, 105, 118]⟩ := by decide +kernel
theorem lives_low2 : units_Lower.f (⟨#[100, 105, 118]⟩ : ByteArray) = some ⟨#[100, 105, 118]⟩ := by decide +kernel
theorem lives_low3 : units_Lower.f (⟨#[197, 191]⟩ : ByteArray) = some ⟨#[197, 191]⟩ := by decide +kernel
theorem lives_low4 : units_Lower.f (⟨#[83]⟩ : ByteArray) = some ⟨#[115]⟩ := by decide +kernel
theorem bytes_ne {a b : ByteArray} (h : a.data.toList ≠ b.data.toList) : (a.toList == b.toList) = false := by
  rw [bytes_toList, bytes_toList]
  exact beq_eq_false_iff_ne.2 h
theorem fold1 : units_Fold.f (⟨#[68, 73, 86]⟩ : ByteArray) (⟨#[100, 105, 118]⟩ : ByteArray) = some true := by
  unfold units_Fold.f
  rw [lives_low1, lives_low2]
  simp
theorem fold2 : units_Fold.f (⟨#[197, 191]⟩ : ByteArray) (⟨#[83]⟩ : ByteArray) = some false := by
  unfold units_Fold.f
  rw [lives_low3, lives_low4]
  simp only [Option.bind_some]
  rw [bytes_ne (by simp)]
theorem lives_spec : Ev (fun k => canopylaw01_lives.f k) true := by
  unfold canopylaw01_lives.f
  refine Ev.bind (Ev.of (units_Of.mono _) lives_of) (Ev.bind (Ev.of (units_Text.mono _) lives_text) (Ev.bind (Ev.of (units_Split.mono _) lives_split) ?_))
  refine Ev.ite_pos rfl (Ev.bind (same_spec _ _ (by decide) (by decide)) ?_)
  refine Ev.ite_pos (by simp) (Ev.ite_pos (by rw [bytes_toList]) (Ev.ite_pos rfl (Ev.bind (strings_spec _ _ (by decide)) ?_)))
  refine Ev.ite_pos (by simp) ?_
  rw [show units_Wrap.f (-1) = some 4294967295 from by decide +kernel, fold1, fold2]
  simp only [Option.bind_some]
  exact Ev.ite_pos trivial (Ev.ite_pos trivial (Ev.now _))
end Go.Proofs.Ytgjifcflkcpnlaa.Pure
namespace Go.Proofs.Ytgjifcflkcpnlaa.Pure
set_option linter.unusedVariables false
set_option linter.unusedSimpArgs false
open Go.RowKit Go.Proofs.Ytgjifcflkcpnlaa.P Go.Proofs.YtgjifcflkcpnlaaW.PrintWords Go.Proofs.YtgjifcflkcpnlaaW.PrintLast Go.Proofs.YtgjifcflkcpnlaaW.PrintMore

def comb (c d : Int) : Int := 65536 + (c - 55296) * 1024 + d - 56320
/-- the runes of units, and whether some stood alone -/
def textAll : List Int → List Int × Bool
  | [] => ([], false)
  | [c] => if hiB c = true ∨ loB c = true then ([65533], true) else ([c], false)
  | c :: d :: rest =>
    if hiB c = true ∧ loB d = true then (comb c d :: (textAll rest).1, (textAll rest).2)
    else if hiB c = true ∨ loB c = true then (65533 :: (textAll (d :: rest)).1, true)
    else (c :: (textAll (d :: rest)).1, (textAll (d :: rest)).2)
theorem textAll_two (c d : Int) (rest : List Int) : textAll (c :: d :: rest) = if hiB c = true ∧ loB d = true then (comb c d :: (textAll rest).1, (textAll rest).2)
    else if hiB c = true ∨ loB c = true then (65533 :: (textAll (d :: rest)).1, true)
    else (c :: (textAll (d :: rest)).1, (textAll (d :: rest)).2) := rfl
theorem textAll_cons (c : Int) (rest : List Int) (h : ¬ (hiB c = true ∧ ∃ d r, rest = d :: r ∧ loB d = true)) :
    textAll (c :: rest) = if hiB c = true ∨ loB c = true then (65533 :: (textAll rest).1, true) else (c :: (textAll rest).1, (textAll rest).2) := by
  cases rest with
  | nil => simp [textAll]
  | cons d r =>
    rw [textAll_two, if_neg (fun e => h ⟨e.1, d, r, rfl, e.2⟩)]
theorem rd_at (l : List Int) (i : Nat) (h : i < l.length) : l.drop i = rd l i :: l.drop (i + 1) := rd_drop l i h
/-- one step of Text, at place i -/
theorem textAll_step (l : List Int) (i : Nat) (h : i < l.length) : ∃ j : Nat, (textStep l i).2.2 = (j : Int) ∧ i < j ∧ j ≤ l.length ∧
    textAll (l.drop i) = ((textStep l i).1 :: (textAll (l.drop j)).1, (textStep l i).2.1 || (textAll (l.drop j)).2) := by
  rw [rd_at l i h]
  unfold textStep
  by_cases h1 : hiB (rd l i) = true ∧ (i : Int) + 1 < (l.length : Int) ∧ loB (rd l ((i : Int) + 1)) = true
  · obtain ⟨a, b, c⟩ := h1
    rw [if_pos ⟨a, b, c⟩]
    have hb : i + 1 < l.length := by omega
    refine ⟨i + 2, rfl, by omega, by omega, ?_⟩
    rw [rd_at l (i + 1) hb]
    have c' : loB (rd l ((i + 1 : Nat) : Int)) = true := c
    rw [textAll_two, if_pos ⟨a, c'⟩]
    rw [show i + 1 + 1 = i + 2 from rfl, Bool.false_or]
    rfl
  · rw [if_neg h1]
    have hn : ¬ (hiB (rd l i) = true ∧ ∃ d r, l.drop (i + 1) = d :: r ∧ loB d = true) := by
      rintro ⟨a, d, r, e, c⟩
      have hb : i + 1 < l.length := by
        rcases Nat.lt_or_ge (i + 1) l.length with h' | h'
        · exact h'
        · rw [List.drop_of_length_le h'] at e; cases e
      rw [rd_at l (i + 1) hb] at e
      injection e with e _
      exact h1 ⟨a, by omega, by rw [← e] at c; exact c⟩
    rw [textAll_cons _ _ hn]
    by_cases h2 : hiB (rd l i) = true ∨ loB (rd l i) = true
    · rw [if_pos h2, if_pos h2]
      exact ⟨i + 1, rfl, by omega, by omega, by simp⟩
    · rw [if_neg h2, if_neg h2]
      exact ⟨i + 1, rfl, by omega, by omega, by simp⟩
def encAll (rs : List Int) : List UInt8 := rs.flatMap Lib.encodeRune
theorem enc_length (r : Int) : 1 ≤ (Lib.encodeRune r).length ∧ (Lib.encodeRune r).length ≤ 4 := by
  have := Lib.runeCells_le r
  rw [Lib.runeCells_length] at this
  exact this
theorem rd_range (l : List Int) (hw : ∀ x ∈ l, 0 ≤ x ∧ x ≤ 65535) (i : Int) : 0 ≤ rd l i ∧ rd l i < 65536 := by
  unfold rd
  rw [List.getD_eq_getElem?_getD]
  cases h : l[i.toNat]? with
  | none => simp
  | some x =>
    have := hw x (List.mem_of_getElem? h)
    simp
    omega
theorem text_loop (l : List Int) (hl : l.length < 1048577) (hw : ∀ x ∈ l, 0 ≤ x ∧ x ≤ 65535) : ∀ (n i : Nat) (alone : Bool) (out : List UInt8), l.length - i ≤ n → i ≤ l.length → out.length + 4 * n ≤ 8388616 →
    Ev (fun k => units_Text.l0 k l i alone out) (⟨(out ++ encAll (textAll (l.drop i)).1).toArray⟩, alone || (textAll (l.drop i)).2) := by
  intro n
  induction n with
  | zero =>
    intro i alone out hn hi ho
    refine Ev.step (fun _ => units_Text.l0.eq_2 ..) (Ev.ite_neg (by omega) ?_)
    rw [List.drop_of_length_le (by omega)]
    simp [textAll, encAll]
    exact Ev.now _
  | succ n ih =>
    intro i alone out hn hi ho
    refine Ev.step (fun _ => units_Text.l0.eq_2 ..) ?_
    by_cases h : i < l.length
    · obtain ⟨j, hj, hij, hjl, ht⟩ := textAll_step l i h
      have hr := rd_range l hw
      refine Ev.ite_pos (by omega) (Ev.ite_pos ⟨by omega, by omega, by omega, hr _, (hr _).1, (hr _).2⟩ ?_)
      have he := enc_length (textStep l i).1
      rw [hj, ht]
      have := ih j (alone || (textStep l i).2.1) (out ++ Lib.encodeRune (textStep l i).1) (by omega) hjl (by rw [List.length_append]; omega)
      simp only [encAll, List.flatMap_cons] at this ⊢
      rw [← List.append_assoc, ← Bool.or_assoc]
      exact this
    · refine Ev.ite_neg (by omega) ?_
      rw [List.drop_of_length_le (by omega)]
      simp [textAll, encAll]
      exact Ev.now _
theorem text_spec (l : List Int) (hl : l.length < 1048577) (hw : ∀ x ∈ l, 0 ≤ x ∧ x ≤ 65535) : Ev (fun k => units_Text.f k l) (⟨(encAll (textAll l).1).toArray⟩, (textAll l).2) := by
  have := text_loop l hl hw l.length 0 false [] (by omega) (by omega) (by simp; omega)
  show Ev (fun k => units_Text.l0 k l 0 false []) _
  simpa using this

theorem refhigh_eq (c : Int) : canopyref01_high.f c = some (hiB c) := isHigh_eq c
theorem reflow_eq (c : Int) : canopyref01_low.f c = some (loB c) := isLow_eq c
theorem byte_eq {n : Nat} {z : Int} (h : (n : Int) = z) : UInt8.ofNat n = z.toNat.toUInt8 := by
  subst h
  rw [Int.toNat_natCast]
theorem ba_ext {a b : ByteArray} (h : a.data.toList = b.data.toList) : a = b := by
  have h3 : a.data = b.data := Array.toList_inj.1 h
  cases a; cases b; simp_all
theorem encode_eq (r : Int) : Utf8.encode r = ⟨(Lib.encodeRune r).toArray⟩ := by
  unfold Utf8.encode Lib.encodeRune
  by_cases hv : Utf8.valid r = true
  · have hv2 : (0 ≤ r ∧ r < 55296) ∨ (57344 ≤ r ∧ r ≤ 1114111) := by simpa [Utf8.valid] using hv
    rw [if_pos hv]
    have hn : (r.toNat : Int) = r := by omega
    simp only
    by_cases a : r.toNat < 128
    · rw [if_pos a, Lib.encodeRuneZ_one (by omega) (by omega)]
      rfl
    rw [if_neg a]
    by_cases b : r.toNat < 2048
    · rw [if_pos b, Lib.encodeRuneZ_two (by omega) (by omega)]
      simp only [List.map_cons, List.map_nil]
      rw [byte_eq (z := 192 + r / 64) (by omega), byte_eq (z := 128 + r % 64) (by omega)]
    rw [if_neg b]
    by_cases c : r.toNat < 65536
    · rw [if_pos c, Lib.encodeRuneZ_three (by omega)]
      simp only [List.map_cons, List.map_nil]
      rw [byte_eq (z := 224 + r / 4096) (by omega), byte_eq (z := 128 + r / 64 % 64) (by omega), byte_eq (z := 128 + r % 64) (by omega)]
    · rw [if_neg c, Lib.encodeRuneZ_four (by omega) (by omega)]
      simp only [List.map_cons, List.map_nil]
      rw [byte_eq (z := 240 + r / 262144) (by omega), byte_eq (z := 128 + r / 4096 % 64) (by omega), byte_eq (z := 128 + r / 64 % 64) (by omega), byte_eq (z := 128 + r % 64) (by omega)]
  · have hv2 : ¬ ((0 ≤ r ∧ r < 55296) ∨ (57344 ≤ r ∧ r ≤ 1114111)) := by simpa [Utf8.valid] using hv
    rw [if_neg hv, Lib.encodeRuneZ_bad (by omega)]
    rfl
theorem runesBytes_eq (rs : List Int) : runesBytes rs = ⟨(encAll rs).toArray⟩ := by
  have : ∀ (rs : List Int) (a : List UInt8), rs.foldl (fun r n => r ++ Utf8.encode n) (⟨a.toArray⟩ : ByteArray) = ⟨(a ++ encAll rs).toArray⟩ := by
    intro rs
    induction rs with
    | nil => intro a; simp [encAll]
    | cons r rs ih =>
      intro a
      rw [List.foldl_cons, encode_eq]
      have e : (⟨a.toArray⟩ : ByteArray) ++ ⟨(Lib.encodeRune r).toArray⟩ = ⟨(a ++ Lib.encodeRune r).toArray⟩ := by
        apply ba_ext
        simp
      rw [e, ih]
      simp [encAll]
  exact this rs []
theorem reftext_loop (l : List Int) (hl : l.length < 1048577) (hw : ∀ x ∈ l, 0 ≤ x ∧ x ≤ 65535) : ∀ (n i : Nat) (alone : Bool) (out : List Int), l.length - i ≤ n → i ≤ l.length → out.length + n ≤ 1048580 →
    Ev (fun k => canopyref01_Text.l0 k l out alone i) (runesBytes (out ++ (textAll (l.drop i)).1), alone || (textAll (l.drop i)).2) := by
  intro n
  induction n with
  | zero =>
    intro i alone out hn hi ho
    refine Ev.step (fun _ => canopyref01_Text.l0.eq_2 ..) (Ev.ite_neg (by omega) ?_)
    rw [List.drop_of_length_le (by omega)]
    simp [textAll]
    exact Ev.now _
  | succ n ih =>
    intro i alone out hn hi ho
    refine Ev.step (fun _ => canopyref01_Text.l0.eq_2 ..) ?_
    by_cases h : i < l.length
    · obtain ⟨j, hj, hij, hjl, ht⟩ := textAll_step l i h
      have hr := rd_range l hw (i : Int)
      have hr2 := rd_range l hw ((i : Int) + 1)
      have hwi : wrap64 ((i : Int) + 1) = (i : Int) + 1 := wrap64_id (by omega) (by omega)
      have go := ih j (alone || (textStep l i).2.1) (out ++ [(textStep l i).1]) (by omega) hjl (by rw [List.length_append, List.length_singleton]; omega)
      rw [ht]
      rw [← hj, Bool.or_assoc, List.append_assoc, List.singleton_append] at go
      rw [hwi, refhigh_eq, reflow_eq]
      simp only [Option.bind_some]
      refine Ev.ite_pos (by omega) (Ev.ite_pos (by omega) ?_)
      -- the second half, once the pair is told
      have rest : ∀ b : Bool, b = (hiB (rd l i) && (decide ((i : Int) + 1 < (l.length : Int)) && loB (rd l ((i : Int) + 1)))) →
          Ev (fun k => canopyref01_Text.j1 k l out alone i b) (runesBytes (out ++ (textStep l i).1 :: (textAll (l.drop j)).1), alone || ((textStep l i).2.1 || (textAll (l.drop j)).2)) := by
        intro b hb
        refine Ev.step (fun _ => canopyref01_Text.j1.eq_2 ..) ?_
        rw [hwi, refhigh_eq, reflow_eq]
        simp only [Option.bind_some]
        by_cases hp : hiB (rd l i) = true ∧ (i : Int) + 1 < (l.length : Int) ∧ loB (rd l ((i : Int) + 1)) = true
        · have hbt : b = true := by rw [hb, hp.1, hp.2.2, decide_eq_true hp.2.1]; rfl
          have hs : textStep l i = (65536 + (rd l i - 55296) * 1024 + rd l ((i : Int) + 1) - 56320, false, (i : Int) + 2) := by unfold textStep; rw [if_pos hp]
          have h1 : 55296 ≤ rd l i ∧ rd l i < 56320 := by simpa [hiB] using hp.1
          have h2 : 56320 ≤ rd l ((i : Int) + 1) ∧ rd l ((i : Int) + 1) < 57344 := by simpa [loB] using hp.2.2
          refine Ev.ite_pos hbt (Ev.ite_pos (by omega) (Ev.ite_pos (by omega) (Ev.ite_pos (by omega) (Ev.ite_pos hp.2.1 (Ev.ite_pos (by omega) ?_)))))
          rw [hs] at go ⊢
          rw [wrap32_id (n := rd l i) (by omega) (by omega), wrap32_id (n := rd l i - 55296) (by omega) (by omega), wrap32_id (n := (rd l i - 55296) * 1024) (by omega) (by omega), wrap32_id (n := 65536 + (rd l i - 55296) * 1024) (by omega) (by omega), wrap32_id (n := rd l ((i : Int) + 1)) (by omega) (by omega), wrap32_id (n := 65536 + (rd l i - 55296) * 1024 + rd l ((i : Int) + 1)) (by omega) (by omega), wrap32_id (by omega) (by omega), wrap64_id (by omega) (by omega)]
          rw [show (i : Int) + 1 + 1 = (i : Int) + 2 by omega]
          simpa using go
        · have hbf : ¬ b = true := by
            rw [hb]
            intro e
            simp only [Bool.and_eq_true, decide_eq_true_eq] at e
            exact hp ⟨e.1, e.2.1, e.2.2⟩
          refine Ev.ite_neg hbf (Ev.ite_pos (by omega) (Ev.ite_pos (by omega) ?_))
          by_cases h1 : hiB (rd l i) = true
          · have hs : textStep l i = (65533, true, (i : Int) + 1) := by unfold textStep; rw [if_neg hp, if_pos (.inl h1)]
            rw [hs] at go ⊢
            refine Ev.ite_pos h1 (Ev.ite_pos (by omega) ?_)
            simpa using go
          · refine Ev.ite_neg h1 ?_
            by_cases h2 : loB (rd l i) = true
            · have hs : textStep l i = (65533, true, (i : Int) + 1) := by unfold textStep; rw [if_neg hp, if_pos (.inr h2)]
              rw [hs] at go ⊢
              refine Ev.ite_pos h2 (Ev.ite_pos (by omega) ?_)
              simpa using go
            · have hs : textStep l i = (rd l i, false, (i : Int) + 1) := by unfold textStep; rw [if_neg hp, if_neg (fun e => e.elim h1 h2)]
              rw [hs] at go ⊢
              refine Ev.ite_neg h2 (Ev.ite_pos (by omega) ?_)
              rw [wrap32_id (n := rd l i) (by omega) (by omega)]
              simpa using go
      by_cases h1 : hiB (rd l i) = true
      · refine Ev.ite_pos h1 ?_
        by_cases h2 : (i : Int) + 1 < (l.length : Int)
        · refine Ev.ite_pos h2 (Ev.ite_pos (by omega) (rest _ ?_))
          rw [h1, decide_eq_true h2]
          rfl
        · refine Ev.ite_neg h2 (rest _ ?_)
          rw [decide_eq_false h2]
          simp
      · refine Ev.ite_neg h1 (rest _ ?_)
        rw [Bool.eq_false_iff.mpr h1]
        rfl
    · refine Ev.ite_neg (by omega) ?_
      rw [List.drop_of_length_le (by omega)]
      simp [textAll]
      exact Ev.now _
theorem reftext_spec (l : List Int) (hl : l.length < 1048577) (hw : ∀ x ∈ l, 0 ≤ x ∧ x ≤ 65535) : Ev (fun k => canopyref01_Text.f k l) (⟨(encAll (textAll l).1).toArray⟩, (textAll l).2) := by
  have := reftext_loop l hl hw l.length 0 false [] (by omega) (by omega) (by simp; omega)
  rw [runesBytes_eq] at this
  show Ev (fun k => canopyref01_Text.l0 k l [] false 0) _
  simpa using this
end Go.Proofs.Ytgjifcflkcpnlaa.Pure
namespace Go.Proofs.Ytgjifcflkcpnlaa.Pure
set_option linter.unusedVariables false
set_option linter.unusedSimpArgs false
open Go.RowKit Go.Proofs.Ytgjifcflkcpnlaa.P Go.Proofs.YtgjifcflkcpnlaaW.PrintWords Go.Proofs.YtgjifcflkcpnlaaW.PrintLast Go.Proofs.YtgjifcflkcpnlaaW.PrintMore

theorem wrapu_id {n : Int} (h0 : 0 ≤ n) (h1 : n < 18446744073709551616) : IntKind.u64.wrap n = n := by
  simp [IntKind.wrap, IntKind.bits, IntKind.signed]
  omega
theorem wf_u32 {n : Int} (h : (Lit.int .u32 n).wf = true) : 0 ≤ n ∧ n ≤ 4294967295 := by simpa [Lit.wf, IntKind.min, IntKind.max, IntKind.signed, IntKind.bits] using h
theorem wf_i64 {n : Int} (h : (Lit.int .i64 n).wf = true) : -9223372036854775808 ≤ n ∧ n ≤ 9223372036854775807 := by simpa [Lit.wf, IntKind.min, IntKind.max, IntKind.signed, IntKind.bits] using h
theorem wf_u16 {n : Int} (h : (Lit.int .u16 n).wf = true) : 0 ≤ n ∧ n ≤ 65535 := by simpa [Lit.wf, IntKind.min, IntKind.max, IntKind.signed, IntKind.bits] using h

/-- where the part ends -/
def stop (n a b : Int) : Int := if n - a < b then n else a + b
theorem span_eq (l : List Int) (a b : Int) (ha : 0 ≤ a ∧ a ≤ 4294967295) (hb : 0 ≤ b ∧ b ≤ 4294967295) (hl : l.length < 4611686018427387904) :
    units_span.f l a b = if a > (l.length : Int) then some (0, 0, false) else some (a, stop l.length a b, true) := by
  unfold units_span.f stop
  rw [wrapu_id (n := a) (by omega) (by omega), wrapu_id (n := (l.length : Int)) (by omega) (by omega)]
  by_cases h : a > (l.length : Int)
  · rw [if_pos h, if_pos h]
  · rw [if_neg h, if_neg h, wrap64_id (n := a) (by omega) (by omega), wrapu_id (n := b) (by omega) (by omega), wrap64_id (n := (l.length : Int) - a) (by omega) (by omega), wrapu_id (n := (l.length : Int) - a) (by omega) (by omega)]
    unfold mn
    by_cases h2 : (l.length : Int) - a < b
    · rw [if_pos h2, if_pos h2, wrap64_id (n := (l.length : Int) - a) (by omega) (by omega), wrap64_id (by omega) (by omega)]
      congr 2
      congr 1
      omega
    · rw [if_neg h2, if_neg h2, wrap64_id (n := b) (by omega) (by omega), wrap64_id (by omega) (by omega)]
theorem stop_range {n a b : Int} (ha : 0 ≤ a) (hb : 0 ≤ b) (h : a ≤ n) : a ≤ stop n a b ∧ stop n a b ≤ n := by unfold stop; split <;> omega

def part (l : List Int) (a b : Int) : List Int := (l.take (stop l.length a b).toNat).drop a.toNat
theorem sub_eq (l : List Int) (a b : Int) (ha : 0 ≤ a ∧ a ≤ 4294967295) (hb : 0 ≤ b ∧ b ≤ 4294967295) (hl : l.length < 1048577) :
    units_Sub.f l a b = if a > (l.length : Int) then some ([], 14) else some (part l a b, 0) := by
  unfold units_Sub.f
  rw [span_eq l a b ha hb (by omega)]
  by_cases h : a > (l.length : Int)
  · rw [if_pos h, if_pos h]; rfl
  · have hs := stop_range ha.1 hb.1 (show a ≤ (l.length : Int) by omega)
    rw [if_neg h, if_neg h]
    simp only [Option.bind_some]
    rw [if_pos trivial, if_pos ha.1, if_pos hs.1, if_pos hs.2, if_pos (by simp; omega)]
    rfl
theorem refsub_eq (l : List Int) (a b : Int) (ha : 0 ≤ a ∧ a ≤ 4294967295) (hb : 0 ≤ b ∧ b ≤ 4294967295) (hl : l.length < 1048577) :
    canopyref01_Sub.f l a b = if a > (l.length : Int) then some ([], 14) else some (part l a b, 0) := by
  unfold canopyref01_Sub.f
  rw [wrap64_id (n := a) (by omega) (by omega), wrap64_id (n := b) (by omega) (by omega), wrap64_id (n := a + b) (by omega) (by omega)]
  by_cases h : a > (l.length : Int)
  · rw [if_pos h, if_pos h]
  · have hm : mn (a + b) (l.length : Int) = stop l.length a b := by unfold mn stop; split <;> split <;> omega
    have hs := stop_range ha.1 hb.1 (show a ≤ (l.length : Int) by omega)
    rw [if_neg h, if_neg h, hm]
    simp only [Option.bind_some]
    rw [if_pos ha.1, if_pos hs.1, if_pos hs.2, if_pos (by simp; omega)]
    rfl
theorem part_length (l : List Int) (a b : Int) (ha : 0 ≤ a) (hb : 0 ≤ b) (h : a ≤ (l.length : Int)) : ((part l a b).length : Int) = stop l.length a b - a := by
  have hs := stop_range ha hb h
  unfold part
  rw [List.length_drop, List.length_take]
  omega

def put (l : List Int) (a b : Int) (m : List Int) : List Int := l.take a.toNat ++ m ++ l.drop (stop l.length a b).toNat
theorem replace_eq (l : List Int) (a b : Int) (m : List Int) (ha : 0 ≤ a ∧ a ≤ 4294967295) (hb : 0 ≤ b ∧ b ≤ 4294967295) (hl : l.length < 1048577) (hm : m.length < 1048577) :
    units_Replace.f l a b m = if a > (l.length : Int) then some ([], 14) else if (l.length : Int) - (stop l.length a b - a) + m.length > 16384 then some ([], 4) else some (put l a b m, 0) := by
  unfold units_Replace.f
  rw [span_eq l a b ha hb (by omega)]
  by_cases h : a > (l.length : Int)
  · rw [if_pos h, if_pos h]; rfl
  · have hs := stop_range ha.1 hb.1 (show a ≤ (l.length : Int) by omega)
    rw [if_neg h, if_neg h]
    simp only [Option.bind_some]
    rw [if_pos trivial, wrap64_id (n := stop l.length a b - a) (by omega) (by omega), wrap64_id (n := (l.length : Int) - (stop l.length a b - a)) (by omega) (by omega), wrap64_id (by omega) (by omega)]
    by_cases h2 : (l.length : Int) - (stop l.length a b - a) + m.length > 16384
    · rw [if_pos h2, if_pos h2]
    · rw [if_neg h2, if_neg h2, if_pos ha.1, if_pos (by omega), if_pos (by simp; omega), if_pos (by simp; omega), if_pos (by omega), if_pos (by omega), if_pos (by simp; omega)]
      simp [put]
theorem refreplace_eq (l : List Int) (a b : Int) (m : List Int) (ha : 0 ≤ a ∧ a ≤ 4294967295) (hb : 0 ≤ b ∧ b ≤ 4294967295) (hl : l.length < 1048577) (hm : m.length < 1048577) :
    canopyref01_Replace.f l a b m = if a > (l.length : Int) then some ([], 14) else if (l.length : Int) - (stop l.length a b - a) + m.length > 16384 then some ([], 4) else some (put l a b m, 0) := by
  unfold canopyref01_Replace.f
  rw [refsub_eq l a b ha hb hl]
  by_cases h : a > (l.length : Int)
  · rw [if_pos h, if_pos h]
    simp
  · have hs := stop_range ha.1 hb.1 (show a ≤ (l.length : Int) by omega)
    have hp := part_length l a b ha.1 hb.1 (by omega)
    rw [if_neg h, if_neg h]
    simp only [Option.bind_some]
    rw [if_pos trivial, hp, wrap64_id (n := (l.length : Int) - (stop l.length a b - a)) (by omega) (by omega), wrap64_id (n := (l.length : Int) - (stop l.length a b - a) + (m.length : Int)) (by omega) (by omega)]
    by_cases h2 : (l.length : Int) - (stop l.length a b - a) + m.length > 16384
    · rw [if_pos h2, if_pos h2]
    · rw [if_neg h2, if_neg h2, wrap64_id (n := a) (by omega) (by omega), wrap64_id (n := a + (stop l.length a b - a)) (by omega) (by omega), show a + (stop l.length a b - a) = stop l.length a b by omega]
      rw [if_pos ha.1, if_pos (by omega), if_pos (by simp; omega), if_pos (by simp; omega), if_pos (by omega), if_pos (by omega), if_pos (by simp; omega)]
      simp [put]
theorem wrap_eq (n : Int) : units_Wrap.f n = canopyref01_Wrap.f n := by
  unfold units_Wrap.f canopyref01_Wrap.f
  have h0 : 0 ≤ IntKind.u64.wrap n := by
    simp [IntKind.wrap, IntKind.bits, IntKind.signed]
    omega
  rw [Int.tmod_eq_emod_of_nonneg h0, Int.emod_emod_of_dvd _ (Int.dvd_refl _)]
theorem put_length (l : List Int) (a b : Int) (m : List Int) (ha : 0 ≤ a) (hb : 0 ≤ b) (h : a ≤ (l.length : Int)) : (put l a b m).length ≤ l.length + m.length := by
  have hs := stop_range ha hb h
  unfold put
  simp
  omega
end Go.Proofs.Ytgjifcflkcpnlaa.Pure
namespace Go.Proofs.Ytgjifcflkcpnlaa.Pure
open Go.RowKit Go.Proofs.Ytgjifcflkcpnlaa.P Go.Proofs.YtgjifcflkcpnlaaW.PrintWords
theorem subs_same (l : List Int) (a b : Int) (ha : 0 ≤ a ∧ a ≤ 4294967295) (hb : 0 ≤ b ∧ b ≤ 4294967295) (hl : l.length < 1048577) :
    ∃ x c, units_Sub.f l a b = some (x, c) ∧ canopyref01_Sub.f l a b = some (x, c) ∧ x.length < 4611686018427387904 := by
  rw [sub_eq l a b ha hb hl, refsub_eq l a b ha hb hl]
  by_cases h : a > (l.length : Int)
  · rw [if_pos h]
    exact ⟨_, _, rfl, rfl, by simp⟩
  · rw [if_neg h]
    have := part_length l a b ha.1 hb.1 (by omega)
    have hs := stop_range ha.1 hb.1 (show a ≤ (l.length : Int) by omega)
    exact ⟨_, _, rfl, rfl, by omega⟩
theorem replaces_same (l : List Int) (a b : Int) (m : List Int) (ha : 0 ≤ a ∧ a ≤ 4294967295) (hb : 0 ≤ b ∧ b ≤ 4294967295) (hl : l.length < 1048577) (hm : m.length < 1048577) :
    ∃ x c, units_Replace.f l a b m = some (x, c) ∧ canopyref01_Replace.f l a b m = some (x, c) ∧ x.length < 4611686018427387904 := by
  rw [replace_eq l a b m ha hb hl hm, refreplace_eq l a b m ha hb hl hm]
  by_cases h : a > (l.length : Int)
  · rw [if_pos h]
    exact ⟨_, _, rfl, rfl, by simp⟩
  · rw [if_neg h]
    have hq := put_length l a b m ha.1 hb.1 (by omega)
    by_cases h2 : (l.length : Int) - (stop l.length a b - a) + m.length > 16384
    · rw [if_pos h2]
      exact ⟨_, _, rfl, rfl, by simp⟩
    · rw [if_neg h2]
      exact ⟨_, _, rfl, rfl, by omega⟩
theorem cuts_ev (l0 : List Int) (a1 a2 : Int) (l3 : List Int) (a4 : Int) (hl : l0.length < 1048577) (ha : 0 ≤ a1 ∧ a1 ≤ 4294967295) (hb : 0 ≤ a2 ∧ a2 ≤ 4294967295) (hm : l3.length < 1048577) : Ev (fun k => canopylaw01_UnitsCuts.f k l0 a1 a2 l3 a4) true := by
  unfold canopylaw01_UnitsCuts.f
  obtain ⟨x, c, e1, e2, hx⟩ := subs_same l0 a1 a2 ha hb hl
  obtain ⟨y, d, e3, e4, hy⟩ := replaces_same l0 a1 a2 l3 ha hb hl hm
  obtain ⟨v, hv⟩ : ∃ v, canopyref01_Wrap.f a4 = some v := ⟨_, rfl⟩
  rw [wrap_eq, e1, e2, e3, e4, hv]
  simp only [Option.bind_some]
  refine Ev.bind lives_spec (Ev.ite_pos rfl (Ev.bind (same_spec _ _ hx hx) (Ev.ite_pos (by simp) (Ev.ite_pos trivial (Ev.bind (same_spec _ _ hy hy) (Ev.ite_pos (by simp) (Ev.ite_pos trivial ?_)))))))
  rw [show (v == v) = true from by simp]
  exact Ev.now _
theorem UnitsCuts : ∀ (l0 : List (Int)) (a1 : Int) (a2 : Int) (l3 : List (Int)) (a4 : Int), (l0.length < 1048577 ∧ ∀ x0 ∈ l0, (Lit.int .u16 x0).wf = true) → ((Lit.int .u32 a1).wf = true) → ((Lit.int .u32 a2).wf = true) → (l3.length < 1048577 ∧ ∀ x0 ∈ l3, (Lit.int .u16 x0).wf = true) → ((Lit.int .i64 a4).wf = true) → ∃ k, canopylaw01_UnitsCuts.f k l0 a1 a2 l3 a4 = some true := by
  intro l0 a1 a2 l3 a4 h0 h1 h2 h3 h4
  exact (cuts_ev l0 a1 a2 l3 a4 h0.1 (wf_u32 h1) (wf_u32 h2) h3.1).rounds
end Go.Proofs.Ytgjifcflkcpnlaa.Pure
namespace Go.Proofs.Ytgjifcflkcpnlaa.Pure
set_option linter.unusedVariables false
set_option linter.unusedSimpArgs false
open Go.RowKit Go.Proofs.Ytgjifcflkcpnlaa.P Go.Proofs.YtgjifcflkcpnlaaW.PrintWords Go.Proofs.YtgjifcflkcpnlaaW.PrintLast Go.Proofs.YtgjifcflkcpnlaaW.PrintMore

def mk (l : List UInt8) : ByteArray := ⟨l.toArray⟩
theorem mk_data (l : List UInt8) : (mk l).data.toList = l := by simp [mk]
theorem mk_self (s : ByteArray) : mk s.data.toList = s := ba_ext (mk_data _)
theorem data_len (s : ByteArray) : s.data.toList.length = s.size := by simp
theorem bt_data (s : ByteArray) (i : Nat) (b : UInt8) (h : s.data.toList[i]? = some b) : bt s (i : Int) = (b.toNat : Int) := by
  obtain ⟨hi, e⟩ := List.getElem?_eq_some_iff.1 h
  have hs : i < s.size := by rw [← data_len]; exact hi
  unfold bt
  rw [dif_pos (by simpa using hs)]
  have : s[(i : Int).toNat]'(by simpa using hs) = b := by
    rw [← e]
    simp [ByteArray.getElem_eq_getElem_data]
  rw [this]
theorem byte_drop (s : ByteArray) (i : Nat) (h : i < s.size) : ∃ b : UInt8, s.data.toList.drop i = b :: s.data.toList.drop (i + 1) ∧ bt s (i : Int) = (b.toNat : Int) := by
  have hl : i < s.data.toList.length := by rw [data_len]; exact h
  exact ⟨s.data.toList[i], List.drop_eq_getElem_cons hl, bt_data s i _ (List.getElem?_eq_getElem hl)⟩
theorem extract_mk (s : ByteArray) (a b : Nat) : s.extract a b = mk ((s.data.toList.take b).drop a) := by
  apply ba_ext
  rw [mk_data]
  simp [List.extract_eq_take_drop, List.drop_take]
theorem part_snoc {l : List UInt8} {i a : Nat} {b : UInt8} (h : l.drop i = b :: l.drop (i + 1)) (ha : a ≤ i) : (l.take (i + 1)).drop a = (l.take i).drop a ++ [b] := by
  have hi : i < l.length := by
    rcases Nat.lt_or_ge i l.length with h' | h'
    · exact h'
    · rw [List.drop_of_length_le h'] at h; cases h
  rw [List.drop_eq_getElem_cons hi] at h
  injection h with h _
  rw [List.take_succ_eq_append_getElem hi, h, List.drop_append_of_le_length (by rw [List.length_take]; omega)]

/-! ### words -/
def blk (b : UInt8) : Bool := blankB (b.toNat : Int)
def words : List UInt8 → List UInt8 → List (List UInt8)
  | cur, [] => if cur = [] then [] else [cur]
  | cur, b :: bs => if blk b = true then (if cur = [] then words [] bs else cur :: words [] bs) else words (cur ++ [b]) bs
theorem words_cons (cur : List UInt8) (b : UInt8) (bs : List UInt8) : words cur (b :: bs) = if blk b = true then (if cur = [] then words [] bs else cur :: words [] bs) else words (cur ++ [b]) bs := by rw [words]
theorem words_nil (cur : List UInt8) : words cur [] = if cur = [] then [] else [cur] := by rw [words]
theorem refblank_eq (c : Int) : canopyref01_Blank.f c = some (blankB c) := by
  unfold canopyref01_Blank.f blankB
  by_cases h1 : c = 32
  · simp [h1]
  by_cases h2 : c = 9
  · simp [h2]
  by_cases h3 : c = 10
  · simp [h3]
  by_cases h4 : c = 12
  · simp [h4]
  by_cases h5 : c = 13
  · simp [h5]
  have e : ∀ n : Int, c ≠ n → (c == n) = false := fun n h => beq_eq_false_iff_ne.2 h
  rw [if_neg h2, if_neg h3, if_neg h4, if_neg h5, e 32 h1, e 9 h2, e 10 h3, e 12 h4, e 13 h5]
  rfl
theorem cut_loop (s : ByteArray) (hs : s.size < 1048577) : ∀ (n i : Nat) (at_ : Int) (out : List ByteArray) (cur : List UInt8), s.size - i ≤ n → i ≤ s.size → out.length + n < 2000000 →
    ((at_ = -1 ∧ cur = []) ∨ (∃ a : Nat, at_ = (a : Int) ∧ a < i ∧ cur = (s.data.toList.take i).drop a)) →
    Ev (fun k => cutL k s i at_ out) (out ++ (words cur (s.data.toList.drop i)).map mk) := by
  intro n
  induction n with
  | zero =>
    intro i at_ out cur hn hi ho hc
    have hi2 : i = s.size := by omega
    refine Ev.step (fun _ => cutL.eq_2 ..) (Ev.ite_neg (by omega) ?_)
    rw [List.drop_of_length_le (by rw [data_len]; omega), words_nil]
    rcases hc with ⟨rfl, rfl⟩ | ⟨a, rfl, ha, rfl⟩
    · refine Ev.ite_neg (by omega) ?_
      simp
      exact Ev.now _
    · refine Ev.ite_pos (by omega) (Ev.ite_pos ⟨by omega, by omega⟩ ?_)
      rw [if_neg (fun e => by
        have := congrArg List.length e
        rw [List.length_drop, List.length_take, data_len] at this
        simp at this
        omega)]
      rw [Int.toNat_natCast, extract_mk, hi2]
      exact Ev.now _
  | succ n ih =>
    intro i at_ out cur hn hi ho hc
    refine Ev.step (fun _ => cutL.eq_2 ..) ?_
    by_cases h : i < s.size
    · obtain ⟨b, hb, hbt⟩ := byte_drop s i h
      rw [hb, words_cons]
      have hat : at_ ≤ (i : Int) := by rcases hc with ⟨rfl, _⟩ | ⟨a, rfl, ha, _⟩ <;> omega
      refine Ev.ite_pos (by omega) (Ev.ite_pos ⟨by omega, by omega, by omega, hat⟩ ?_)
      rw [hbt]
      by_cases hk : blk b = true
      · rw [if_pos hk]
        refine Ev.ite_pos hk ?_
        rcases hc with ⟨rfl, rfl⟩ | ⟨a, rfl, ha, rfl⟩
        · rw [if_pos rfl]
          exact Ev.ite_neg (by omega) (ih (i + 1) (-1) out [] (by omega) (by omega) (by omega) (.inl ⟨rfl, rfl⟩))
        · rw [if_neg (fun e => by
            have := congrArg List.length e
            rw [List.length_drop, List.length_take, data_len] at this
            simp at this
            omega)]
          refine Ev.ite_pos (by omega) ?_
          rw [Int.toNat_natCast, Int.toNat_natCast, extract_mk, List.map_cons]
          have := ih (i + 1) (-1) (out ++ [mk ((s.data.toList.take i).drop a)]) [] (by omega) (by omega) (by rw [List.length_append, List.length_singleton]; omega) (.inl ⟨rfl, rfl⟩)
          rw [List.append_assoc, List.singleton_append] at this
          exact this
      · rw [if_neg hk]
        refine Ev.ite_neg hk ?_
        rcases hc with ⟨rfl, rfl⟩ | ⟨a, rfl, ha, rfl⟩
        · refine Ev.ite_neg (by omega) (ih (i + 1) (i : Int) out _ (by omega) (by omega) (by omega) (.inr ⟨i, rfl, by omega, ?_⟩))
          rw [part_snoc hb (Nat.le_refl i), List.drop_of_length_le (by rw [List.length_take]; omega)]
        · refine Ev.ite_pos (by omega) (ih (i + 1) (a : Int) out _ (by omega) (by omega) (by omega) (.inr ⟨a, rfl, by omega, ?_⟩))
          rw [part_snoc hb (by omega)]
    · have hi2 : i = s.size := by omega
      refine Ev.ite_neg (by omega) ?_
      rw [List.drop_of_length_le (by rw [data_len]; omega), words_nil]
      rcases hc with ⟨rfl, rfl⟩ | ⟨a, rfl, ha, rfl⟩
      · refine Ev.ite_neg (by omega) ?_
        simp
        exact Ev.now _
      · refine Ev.ite_pos (by omega) (Ev.ite_pos ⟨by omega, by omega⟩ ?_)
        rw [if_neg (fun e => by
          have := congrArg List.length e
          rw [List.length_drop, List.length_take, data_len] at this
          simp at this
          omega)]
        rw [Int.toNat_natCast, extract_mk, hi2]
        exact Ev.now _
def split (s : ByteArray) : List ByteArray := (words [] s.data.toList).map mk
theorem split_spec (s : ByteArray) (hs : s.size < 1048577) : Ev (fun k => units_Split.f k s) (split s) := by
  have := cut_loop s hs s.size 0 (-1) [] [] (by omega) (by omega) (by simp; omega) (.inl ⟨rfl, rfl⟩)
  show Ev (fun k => cutL k s 0 (-1) []) _
  simpa [split] using this
theorem refsplit_loop (s : ByteArray) (hs : s.size < 1048577) : ∀ (n i a : Nat) (out : List ByteArray), s.size - i ≤ n → i ≤ s.size → a ≤ i → out.length + n < 2000000 →
    Ev (fun k => canopyref01_Split.l0 k s out a i) (out ++ (words ((s.data.toList.take i).drop a) (s.data.toList.drop i)).map mk) := by
  have last : ∀ (a : Nat) (out : List ByteArray), a ≤ s.size → out.length < 2000000 → Ev (fun k => canopyref01_Split.l0 k s out a s.size) (out ++ (words ((s.data.toList.take s.size).drop a) (s.data.toList.drop s.size)).map mk) := by
    intro a out ha ho
    refine Ev.step (fun _ => canopyref01_Split.l0.eq_2 ..) (Ev.ite_pos (by omega) (Ev.ite_neg (by omega) ?_))
    refine Ev.step (fun _ => canopyref01_Split.j1.eq_2 ..) (Ev.ite_neg (by simp) ?_)
    rw [List.drop_of_length_le (l := s.data.toList) (i := s.size) (by rw [data_len]; omega), words_nil, wrap64_id (by omega) (by omega)]
    have hlen : ((s.data.toList.take s.size).drop a).length = s.size - a := by rw [List.length_drop, List.length_take, data_len]; omega
    have done : ∀ (o : List ByteArray) (b : Int), Ev (fun k => canopyref01_Split.l0 k s o b ((s.size : Int) + 1)) o := fun o b => Ev.step (fun _ => canopyref01_Split.l0.eq_2 ..) (Ev.ite_neg (by omega) (Ev.now _))
    by_cases h : a < s.size
    · refine Ev.ite_pos (by omega) (Ev.ite_pos (by omega) (Ev.ite_pos (by omega) (Ev.ite_pos (by omega) (Ev.ite_pos (by omega) ?_))))
      rw [if_neg (fun e => by rw [e] at hlen; simp at hlen; omega), Int.toNat_natCast, Int.toNat_natCast, extract_mk]
      exact done _ _
    · rw [if_pos (List.length_eq_zero_iff.1 (by omega))]
      simp only [List.map_nil, List.append_nil]
      exact Ev.ite_neg (by omega) (done _ _)
  intro n
  induction n with
  | zero =>
    intro i a out hn hi ha ho
    have : i = s.size := by omega
    subst this
    exact last a out ha (by omega)
  | succ n ih =>
    intro i a out hn hi ha ho
    by_cases h : i < s.size
    · obtain ⟨b, hb, hbt⟩ := byte_drop s i h
      rw [hb, words_cons]
      have hlen : ((s.data.toList.take i).drop a).length = i - a := by rw [List.length_drop, List.length_take, data_len]; omega
      refine Ev.step (fun _ => canopyref01_Split.l0.eq_2 ..) (Ev.ite_pos (by omega) (Ev.ite_pos (by omega) (Ev.ite_pos (by omega) ?_)))
      rw [refblank_eq, hbt]
      simp only [Option.bind_some]
      refine Ev.step (fun _ => canopyref01_Split.j1.eq_2 ..) ?_
      rw [wrap64_id (by omega) (by omega)]
      by_cases hk : blk b = true
      · rw [if_pos hk]
        have hk2 : blankB (b.toNat : Int) = true := hk
        rw [hk2]
        refine Ev.ite_neg (by simp) ?_
        have hnil : ∀ j, (s.data.toList.take j).drop j = [] := fun j => List.drop_of_length_le (by rw [List.length_take]; omega)
        by_cases h2 : a < i
        · refine Ev.ite_pos (by omega) (Ev.ite_pos (by omega) (Ev.ite_pos (by omega) (Ev.ite_pos (by omega) (Ev.ite_pos (by omega) ?_))))
          rw [if_neg (fun e => by rw [e] at hlen; simp at hlen; omega), Int.toNat_natCast, Int.toNat_natCast, extract_mk, List.map_cons]
          have := ih (i + 1) (i + 1) (out ++ [mk ((s.data.toList.take i).drop a)]) (by omega) (by omega) (by omega) (by rw [List.length_append, List.length_singleton]; omega)
          rw [hnil, List.append_assoc, List.singleton_append] at this
          exact this
        · rw [if_pos (List.length_eq_zero_iff.1 (by omega))]
          have := ih (i + 1) (i + 1) out (by omega) (by omega) (by omega) (by omega)
          rw [hnil] at this
          exact Ev.ite_neg (by omega) this
      · rw [if_neg hk]
        have hk2 : blankB (b.toNat : Int) = false := by simpa [blk] using hk
        rw [hk2]
        have := ih (i + 1) a out (by omega) (by omega) (by omega) (by omega)
        rw [part_snoc hb ha] at this
        exact Ev.ite_pos rfl this
    · have : i = s.size := by omega
      subst this
      exact last a out ha (by omega)
theorem refsplit_spec (s : ByteArray) (hs : s.size < 1048577) : Ev (fun k => canopyref01_Split.f k s) (split s) := by
  have := refsplit_loop s hs s.size 0 0 [] (by omega) (by omega) (by omega) (by simp; omega)
  show Ev (fun k => canopyref01_Split.l0 k s [] 0 0) _
  simpa [split] using this

/-! ### what words are -/
theorem words_good : ∀ (bs cur : List UInt8), (∀ b ∈ cur, blk b = false) → ∀ w ∈ words cur bs, w ≠ [] ∧ ∀ b ∈ w, blk b = false
  | [], cur, hc, w, hw => by
    rw [words_nil] at hw
    split at hw
    · simp at hw
    · rename_i h
      have : w = cur := by simpa using hw
      subst this
      exact ⟨h, hc⟩
  | b :: bs, cur, hc, w, hw => by
    rw [words_cons] at hw
    split at hw
    · split at hw
      · exact words_good bs [] (by simp) w hw
      · rename_i h
        rcases List.mem_cons.1 hw with e | e
        · subst e; exact ⟨h, hc⟩
        · exact words_good bs [] (by simp) w e
    · rename_i h
      refine words_good bs (cur ++ [b]) (fun x hx => ?_) w hw
      rcases List.mem_append.1 hx with e | e
      · exact hc x e
      · have : x = b := by simpa using e
        subst this
        simpa using h
theorem words_run : ∀ (w cur bs : List UInt8), (∀ b ∈ w, blk b = false) → words cur (w ++ bs) = words (cur ++ w) bs
  | [], cur, bs, _ => by simp
  | b :: w, cur, bs, h => by
    rw [List.cons_append, words_cons, if_neg (by rw [h b (List.mem_cons_self ..)]; simp), words_run w _ bs (fun x hx => h x (List.mem_cons_of_mem _ hx))]
    simp
theorem joinTail_cons (x : List UInt8) (r : List (List UInt8)) : Lib.joinTail [32] (x :: r) = 32 :: (x ++ Lib.joinTail [32] r) := by simp [Lib.joinTail]
theorem words_tail : ∀ (r : List (List UInt8)) (cur : List UInt8), cur ≠ [] → (∀ w ∈ r, w ≠ [] ∧ ∀ b ∈ w, blk b = false) → words cur (Lib.joinTail [32] r) = cur :: r
  | [], cur, h, _ => by simp [Lib.joinTail, words_nil, h]
  | x :: r, cur, h, hr => by
    have hx := hr x (List.mem_cons_self ..)
    have e : Lib.joinTail [32] (x :: r) = 32 :: (x ++ Lib.joinTail [32] r) := by simp [Lib.joinTail]
    rw [e, words_cons, if_pos (by decide), if_neg h, words_run x [] _ hx.2, List.nil_append, words_tail r x hx.1 (fun w hw => hr w (List.mem_cons_of_mem _ hw))]
theorem words_join (ws : List (List UInt8)) (h : ∀ w ∈ ws, w ≠ [] ∧ ∀ b ∈ w, blk b = false) : words [] (Lib.join ws [32]) = ws := by
  cases ws with
  | nil => simp [Lib.join_nil, words_nil]
  | cons x r =>
    have hx := h x (List.mem_cons_self ..)
    rw [Lib.join_cons, words_run x [] _ hx.2, List.nil_append, words_tail r x hx.1 (fun w hw => h w (List.mem_cons_of_mem _ hw))]
theorem words_total : ∀ (bs cur : List UInt8), ((words cur bs).map fun w => w.length + 1).sum ≤ cur.length + bs.length + 1
  | [], cur => by rw [words_nil]; split <;> simp
  | b :: bs, cur => by
    rw [words_cons]
    split
    · have := words_total bs []
      split
      · simp at this ⊢; omega
      · simp at this ⊢; omega
    · have := words_total bs (cur ++ [b])
      simp at this ⊢; omega
theorem joinTail_length : ∀ r : List (List UInt8), (Lib.joinTail [32] r).length = (r.map fun w => w.length + 1).sum
  | [] => by simp [Lib.joinTail]
  | x :: r => by
    have := joinTail_length r
    simp [Lib.joinTail] at this ⊢
    omega
theorem join_length (ws : List (List UInt8)) : (Lib.join ws [32]).length ≤ (ws.map fun w => w.length + 1).sum := by
  cases ws with
  | nil => simp [Lib.join_nil]
  | cons x r =>
    have := joinTail_length r
    rw [Lib.join_cons, List.length_append, this]
    simp
theorem words_count : ∀ ws : List (List UInt8), ws.length ≤ (ws.map fun w => w.length + 1).sum
  | [] => by simp
  | x :: r => by have := words_count r; simp; omega

/-! ### Collapse and Join -/
def collapse (s : ByteArray) : ByteArray := mk (Lib.join (words [] s.data.toList) [32])
theorem collapse_size (s : ByteArray) : (collapse s).size ≤ s.size + 1 := by
  have h1 := join_length (words [] s.data.toList)
  have h2 := words_total s.data.toList []
  have h3 : (collapse s).size = (Lib.join (words [] s.data.toList) [32]).length := by rw [← data_len]; unfold collapse; rw [mk_data]
  rw [data_len] at h2
  simp only [List.length_nil] at h2
  omega
theorem map_mk (l : List (List UInt8)) : (l.map mk).map (·.data.toList) = l := by
  rw [List.map_map]
  conv => rhs; rw [← List.map_id l]
  exact List.map_congr_left (fun x _ => mk_data x)
theorem collapse_spec (s : ByteArray) (hs : s.size < 1048577) : Ev (fun k => units_Collapse.f k s) (collapse s) := by
  unfold units_Collapse.f
  have h1 := join_length (words [] s.data.toList)
  have h2 := words_total s.data.toList []
  have h3 := words_count (words [] s.data.toList)
  rw [data_len] at h2
  simp only [List.length_nil] at h2
  refine Ev.bind (split_spec s hs) ?_
  unfold split collapse
  rw [map_mk]
  exact Ev.ite_pos ⟨by rw [List.length_map]; omega, by omega⟩ (Ev.now _)
theorem nums_bytes (l : List UInt8) (xs : List Int) (h : xs = l.map fun b => (b.toNat : Int)) : strOfNums xs = mk l := by
  subst h
  unfold strOfNums mk
  congr 2
  rw [List.map_map]
  conv => rhs; rw [← List.map_id l]
  refine List.map_congr_left (fun b _ => ?_)
  simp
def numsOf (l : List UInt8) : List Int := l.map fun b => (b.toNat : Int)
theorem join_loop (l : List (List UInt8)) (n : Nat) (hn : n = l.length) : ∀ (d i : Nat) (x3 : List Int), l.length - i ≤ d → i ≤ l.length → 0 < i → x3.length + (Lib.joinTail [32] (l.drop i)).length < 140737488355328 → l.length < 2000000 →
    Ev (fun k => canopyref01_Join.l0 k x3 (l.map mk) (l.length : Int) i) (strOfNums (x3 ++ numsOf (Lib.joinTail [32] (l.drop i)))) := by
  intro d
  induction d with
  | zero =>
    intro i x3 hd hi h0 hx hl
    refine Ev.step (fun _ => canopyref01_Join.l0.eq_2 ..) (Ev.ite_neg (by omega) ?_)
    rw [List.drop_of_length_le (by omega)]
    simp [Lib.joinTail, numsOf]
    exact Ev.now _
  | succ d ih =>
    intro i x3 hd hi h0 hx hl
    refine Ev.step (fun _ => canopyref01_Join.l0.eq_2 ..) ?_
    by_cases h : i < l.length
    · have e : rdOf ByteArray.empty (l.map mk) (i : Int) = mk l[i] := by simp [rdOf, List.getD_eq_getElem?_getD, h]
      have e2 : Lib.joinTail [32] (l.drop i) = 32 :: (l[i] ++ Lib.joinTail [32] (l.drop (i + 1))) := by rw [List.drop_eq_getElem_cons h, joinTail_cons]
      have e3 : (mk l[i]).size = l[i].length := by rw [← data_len, mk_data]
      rw [e2] at hx ⊢
      simp only [List.length_cons, List.length_append] at hx
      rw [e, e3, wrap64_id (by omega) (by omega)]
      simp only [Option.bind_some]
      refine Ev.ite_pos (by omega) (Ev.ite_pos (by omega) (Ev.ite_pos (by rw [List.length_map]; omega) (Ev.ite_pos (by omega) (Ev.ite_pos (by omega) (Ev.ite_pos (by rw [List.length_append, List.length_singleton]; omega) ?_)))))
      have eb : bytesOf (mk l[i]) = numsOf l[i] := by unfold bytesOf numsOf; rw [mk_data]
      have := ih (i + 1) (x3 ++ [32] ++ numsOf l[i]) (by omega) (by omega) (by omega) (by unfold numsOf; simp; omega) hl
      rw [eb]
      have e4 : x3 ++ numsOf (32 :: (l[i] ++ Lib.joinTail [32] (l.drop (i + 1)))) = x3 ++ [32] ++ numsOf l[i] ++ numsOf (Lib.joinTail [32] (l.drop (i + 1))) := by unfold numsOf; simp
      rw [e4]
      exact this
    · refine Ev.ite_neg (by omega) ?_
      rw [List.drop_of_length_le (by omega)]
      simp [Lib.joinTail, numsOf]
      exact Ev.now _
theorem join_spec (l : List (List UInt8)) (hl : l.length < 2000000) (ht : (l.map fun w => w.length + 1).sum < 140737488355328) : Ev (fun k => canopyref01_Join.f k (l.map mk)) (mk (Lib.join l [32])) := by
  unfold canopyref01_Join.f
  rw [List.length_map]
  cases l with
  | nil =>
    refine Ev.step (fun _ => canopyref01_Join.l0.eq_2 ..) (Ev.ite_neg (by simp) ?_)
    exact Ev.now _
  | cons x r =>
    have e3 : (mk x).size = x.length := by rw [← data_len, mk_data]
    have e : rdOf ByteArray.empty ((x :: r).map mk) 0 = mk x := rfl
    have hj := joinTail_length r
    simp only [List.map_cons, List.sum_cons] at ht
    simp only [List.length_cons] at hl
    refine Ev.step (fun _ => canopyref01_Join.l0.eq_2 ..) ?_
    rw [e, e3]
    refine Ev.ite_pos (by rw [List.length_cons]; omega) (Ev.ite_pos (by omega) (Ev.ite_pos (by rw [List.length_map, List.length_cons]; omega) (Ev.ite_neg (by omega) (Ev.ite_pos (by rw [List.length_nil]; omega) ?_))))
    have eb : bytesOf (mk x) = numsOf x := by unfold bytesOf numsOf; rw [mk_data]
    have := join_loop (x :: r) _ rfl (r.length) 1 (numsOf x) (by simp) (by simp) (by omega) (by unfold numsOf; simp; omega) (by simp; omega)
    rw [List.drop_one, List.tail_cons, nums_bytes (x ++ Lib.joinTail [32] r) (numsOf x ++ numsOf (Lib.joinTail [32] r)) (by simp [numsOf])] at this
    rw [eb, List.nil_append, Lib.join_cons, show wrap64 (0 + 1) = ((1 : Nat) : Int) from (wrap64_id (n := 0 + 1) (by omega) (by omega)).trans (by rfl)]
    exact this

/-! ### Lower -/
def lower (s : ByteArray) : ByteArray := strOfNums ((bytesOf s).map lowB)
theorem lower_eq (s : ByteArray) (hs : s.size < 1048577) : units_Lower.f s = some (lower s) := by
  unfold units_Lower.f
  rw [if_pos (by omega)]
  rfl
theorem reflower_loop (s : ByteArray) (hs : s.size < 1048577) : ∀ (d i : Nat) (x3 : List Int), s.size - i ≤ d → i ≤ s.size → x3.length + d < 140737488355328 →
    Ev (fun k => canopyref01_Lower.l0 k s x3 i) (strOfNums (x3 ++ ((bytesOf s).drop i).map lowB)) := by
  intro d
  induction d with
  | zero =>
    intro i x3 hd hi hx
    refine Ev.step (fun _ => canopyref01_Lower.l0.eq_2 ..) (Ev.ite_neg (by omega) ?_)
    rw [List.drop_of_length_le (by rw [bytesOf_length]; omega)]
    simp
    exact Ev.now _
  | succ d ih =>
    intro i x3 hd hi hx
    refine Ev.step (fun _ => canopyref01_Lower.l0.eq_2 ..) ?_
    by_cases h : i < s.size
    · have hb := bt_range s (i : Int)
      have e : (bytesOf s).drop i = bt s (i : Int) :: (bytesOf s).drop (i + 1) := by rw [rd_drop (bytesOf s) i (by rw [bytesOf_length]; exact h), rd_bytesOf]
      rw [e, List.map_cons, wrap64_id (by omega) (by omega)]
      have go := ih (i + 1) (x3 ++ [lowB (bt s (i : Int))]) (by omega) (by omega) (by rw [List.length_append, List.length_singleton]; omega)
      rw [List.append_assoc, List.singleton_append] at go
      generalize hrest : ((bytesOf s).drop (i + 1)).map lowB = rest at go ⊢
      refine Ev.ite_pos (by omega) (Ev.ite_pos (by omega) ?_)
      unfold lowB at go ⊢
      by_cases h1 : bt s (i : Int) ≥ 65
      · refine Ev.ite_pos h1 ?_
        by_cases h2 : bt s (i : Int) ≤ 90
        · rw [if_pos ⟨h1, h2⟩] at go ⊢
          rw [show (bt s (i : Int) + 32) % 256 = bt s (i : Int) + 32 by omega]
          exact Ev.ite_pos h2 (Ev.ite_pos (by omega) go)
        · rw [if_neg (fun e => h2 e.2)] at go ⊢
          exact Ev.ite_neg h2 (Ev.ite_pos (by omega) go)
      · rw [if_neg (fun e => h1 e.1)] at go ⊢
        exact Ev.ite_neg h1 (Ev.ite_pos (by omega) go)
    · refine Ev.ite_neg (by omega) ?_
      rw [List.drop_of_length_le (by rw [bytesOf_length]; omega)]
      simp
      exact Ev.now _
theorem reflower_spec (s : ByteArray) (hs : s.size < 1048577) : Ev (fun k => canopyref01_Lower.f k s) (lower s) := by
  have := reflower_loop s hs s.size 0 [] (by omega) (by omega) (by simp; omega)
  show Ev (fun k => canopyref01_Lower.l0 k s [] 0) _
  simpa [lower] using this
theorem fold_eq (a b : ByteArray) (ha : a.size < 1048577) (hb : b.size < 1048577) : units_Fold.f a b = some ((lower a).toList == (lower b).toList) := by
  unfold units_Fold.f
  rw [lower_eq a ha, lower_eq b hb]
  rfl

/-! ### Set -/
noncomputable instance memDec (x : ByteArray) (l : List ByteArray) : Decidable (x ∈ l) := Classical.propDecidable _
noncomputable def setL : List ByteArray → List ByteArray → List ByteArray
  | acc, [] => acc
  | acc, x :: xs => if x ∈ acc then setL acc xs else setL (acc ++ [x]) xs
theorem setL_snoc : ∀ (l acc : List ByteArray) (x : ByteArray), setL acc (l ++ [x]) = if x ∈ setL acc l then setL acc l else setL acc l ++ [x]
  | [], acc, x => by by_cases h : x ∈ acc <;> simp [setL, h]
  | y :: l, acc, x => by
    rw [List.cons_append]
    unfold setL
    split
    · exact setL_snoc l acc x
    · exact setL_snoc l _ x
theorem setL_mem : ∀ (l acc : List ByteArray) (x : ByteArray), x ∈ setL acc l ↔ x ∈ acc ∨ x ∈ l
  | [], acc, x => by simp [setL]
  | y :: l, acc, x => by
    unfold setL
    split
    · rename_i h
      rw [setL_mem l acc x]
      refine ⟨fun e => e.elim .inl (fun e => .inr (List.mem_cons_of_mem _ e)), fun e => e.elim .inl (fun e => ?_)⟩
      rcases List.mem_cons.1 e with e | e
      · subst e; exact .inl h
      · exact .inr e
    · rw [setL_mem l _ x]
      simp [or_assoc]
theorem setL_nodup : ∀ (l acc : List ByteArray), acc.Nodup → (setL acc l).Nodup
  | [], acc, h => h
  | y :: l, acc, h => by
    unfold setL
    split
    · exact setL_nodup l acc h
    · rename_i hy
      refine setL_nodup l _ ?_
      rw [List.nodup_append]
      refine ⟨h, by simp, fun a ha b hb => ?_⟩
      have : b = y := by simpa using hb
      subst this
      intro e
      subst e
      exact hy ha
theorem setL_id : ∀ (l acc : List ByteArray), (acc ++ l).Nodup → setL acc l = acc ++ l
  | [], acc, _ => by simp [setL]
  | y :: l, acc, h => by
    have hy : y ∉ acc := by
      intro hm
      rw [List.nodup_append] at h
      exact h.2.2 y hm y (List.mem_cons_self ..) rfl
    unfold setL
    rw [if_neg hy, setL_id l _ (by rw [List.append_assoc]; exact h), List.append_assoc]
    rfl
theorem setL_length : ∀ (l acc : List ByteArray), (setL acc l).length ≤ acc.length + l.length
  | [], acc => by simp [setL]
  | y :: l, acc => by
    unfold setL
    split
    · have := setL_length l acc; simp; omega
    · have := setL_length l (acc ++ [y]); simp at this ⊢; omega
theorem cnt_zero (xs : List ByteArray) (x : ByteArray) : cntOf xs (.string x.data.toList) = 0 ↔ x ∉ xs := by
  unfold cntOf
  rw [show (0 : Int) = ((0 : Nat) : Int) from rfl, Int.ofNat_inj, List.length_eq_zero_iff, List.filter_eq_nil_iff]
  refine ⟨fun h hx => h x hx (WideAt.sameKey_self (a := Lit.string x.data.toList) trivial), fun h s hs e => h ?_⟩
  have := WideAt.sameKey_eq e
  injection this with this
  rw [← ba_ext this]
  exact hs
theorem setUpto_eq (l : List ByteArray) : ∀ i, i ≤ l.length → setUpto l i = setL [] (l.take i)
  | 0, _ => rfl
  | i + 1, h => by
    have hi : i < l.length := by omega
    have e : rdOf ByteArray.empty l (i : Int) = l[i] := by simp [rdOf, List.getD_eq_getElem?_getD, hi]
    unfold setUpto
    rw [e, List.take_succ_eq_append_getElem hi, setL_snoc, setUpto_eq l i (by omega)]
    have hm := setL_mem (l.take i) [] l[i]
    by_cases hc : l[i] ∈ l.take i
    · rw [if_neg (fun e => (cnt_zero _ _).1 e hc), if_pos (hm.2 (.inr hc))]
    · rw [if_pos ((cnt_zero _ _).2 hc), if_neg (fun e => (hm.1 e).elim (by simp) hc)]
theorem set_eq (l : List ByteArray) (hl : l.length < 1048577) (hs : ∀ s ∈ l, s.size < 1048577) : units_Set.f l = some (setL [] l) := by
  unfold units_Set.f
  rw [if_pos ⟨by omega, fun s h => by have := hs s h; unfold maxLen; omega⟩, setUpto_eq l l.length (Nat.le_refl _), List.take_length]
theorem has_loop (x : ByteArray) (l : List ByteArray) (hl : l.length < 2000000) : ∀ (d i : Nat), l.length - i ≤ d → i ≤ l.length → Ev (fun k => canopyref01_Has.l0 k x l (l.length : Int) i) (decide (x ∈ l.drop i)) := by
  intro d
  induction d with
  | zero =>
    intro i hd hi
    refine Ev.step (fun _ => canopyref01_Has.l0.eq_2 ..) (Ev.ite_neg (by omega) ?_)
    rw [List.drop_of_length_le (by omega)]
    simp
    exact Ev.now _
  | succ d ih =>
    intro i hd hi
    refine Ev.step (fun _ => canopyref01_Has.l0.eq_2 ..) ?_
    by_cases h : i < l.length
    · rw [rdS_drop l i h]
      refine Ev.ite_pos (by omega) (Ev.ite_pos (by omega) (Ev.ite_pos (by omega) ?_))
      by_cases he : rdOf ByteArray.empty l (i : Int) = x
      · rw [decide_eq_true (List.mem_cons.2 (.inl he.symm))]
        exact Ev.ite_pos (by rw [he]) (Ev.now _)
      · have : (decide (x ∈ rdOf ByteArray.empty l (i : Int) :: l.drop (i + 1))) = decide (x ∈ l.drop (i + 1)) := by
          rw [decide_eq_decide, List.mem_cons]
          exact ⟨fun e => e.elim (fun e => absurd e.symm he) id, .inr⟩
        rw [this, wrap64_id (by omega) (by omega)]
        exact Ev.ite_neg (fun e => he ((toList_inj _ _).1 e)) (ih (i + 1) (by omega) (by omega))
    · refine Ev.ite_neg (by omega) ?_
      rw [List.drop_of_length_le (by omega)]
      simp
      exact Ev.now _
theorem has_spec (l : List ByteArray) (x : ByteArray) (hl : l.length < 2000000) : Ev (fun k => canopyref01_Has.f k l x) (decide (x ∈ l)) := has_loop x l hl l.length 0 (by omega) (by omega)
theorem refset_loop (l : List ByteArray) (hl : l.length < 1048577) : ∀ (d i : Nat) (acc : List ByteArray), l.length - i ≤ d → i ≤ l.length → acc.length + d < 2000000 → Ev (fun k => canopyref01_Set.l0 k acc l (l.length : Int) i) (setL acc (l.drop i)) := by
  intro d
  induction d with
  | zero =>
    intro i acc hd hi ha
    refine Ev.step (fun _ => canopyref01_Set.l0.eq_2 ..) (Ev.ite_neg (by omega) ?_)
    rw [List.drop_of_length_le (by omega)]
    exact Ev.now _
  | succ d ih =>
    intro i acc hd hi ha
    refine Ev.step (fun _ => canopyref01_Set.l0.eq_2 ..) ?_
    by_cases h : i < l.length
    · rw [rdS_drop l i h]
      unfold setL
      rw [wrap64_id (by omega) (by omega)]
      refine Ev.ite_pos (by omega) (Ev.ite_pos (by omega) (Ev.ite_pos (by omega) (Ev.bind (has_spec acc _ (by omega)) ?_)))
      by_cases hm : rdOf ByteArray.empty l (i : Int) ∈ acc
      · rw [if_pos hm, decide_eq_true hm]
        exact Ev.ite_pos rfl (ih (i + 1) acc (by omega) (by omega) (by omega))
      · rw [if_neg hm, decide_eq_false hm]
        exact Ev.ite_neg (by simp) (Ev.ite_pos (by omega) (ih (i + 1) _ (by omega) (by omega) (by rw [List.length_append, List.length_singleton]; omega)))
    · refine Ev.ite_neg (by omega) ?_
      rw [List.drop_of_length_le (by omega)]
      exact Ev.now _
theorem refset_spec (l : List ByteArray) (hl : l.length < 1048577) : Ev (fun k => canopyref01_Set.f k l) (setL [] l) := refset_loop l hl l.length 0 [] (by omega) (by omega) (by simp; omega)

/-! ### Strip -/
theorem empty_iff (s : ByteArray) : s.toList = ([] : List UInt8) ↔ s.size = 0 := by
  rw [bytes_toList, ← data_len, List.length_eq_zero_iff]
theorem strip_l1 : ∀ (k : Nat) (s : ByteArray), units_Strip.l1 k s = canopyref01_Strip.l1 k s
  | 0, s => by rw [units_Strip.l1, canopyref01_Strip.l1]
  | k + 1, s => by
    rw [units_Strip.l1, canopyref01_Strip.l1, blank_eq, refblank_eq, strip_l1 k]
    by_cases h : s.size = 0
    · rw [if_pos ((empty_iff s).2 h), if_neg (show ¬ (s.size : Int) > 0 by omega)]
    · rw [if_neg (fun e => h ((empty_iff s).1 e)), if_pos (show (s.size : Int) > 0 by omega)]
theorem strip_j1 : ∀ (k : Nat) (s : ByteArray), units_Strip.j1 k s = canopyref01_Strip.j1 k s
  | 0, s => by rw [units_Strip.j1, canopyref01_Strip.j1]
  | k + 1, s => by rw [units_Strip.j1, canopyref01_Strip.j1, strip_l1]
theorem strip_l0 : ∀ (k : Nat) (s : ByteArray), units_Strip.l0 k s = canopyref01_Strip.l0 k s
  | 0, s => by rw [units_Strip.l0, canopyref01_Strip.l0]
  | k + 1, s => by
    rw [units_Strip.l0, canopyref01_Strip.l0, blank_eq, refblank_eq, strip_l0 k, strip_j1 k]
    by_cases h : s.size = 0
    · rw [if_pos ((empty_iff s).2 h), if_neg (show ¬ (s.size : Int) > 0 by omega)]
    · have hp : 0 < (s.size : Int) := by omega
      rw [if_neg (fun e => h ((empty_iff s).1 e))]
      simp only [gt_iff_lt, if_pos hp]
theorem strip_eq (k : Nat) (s : ByteArray) : units_Strip.f k s = canopyref01_Strip.f k s := strip_l0 k s
theorem strip_end : ∀ (n : Nat) (s : ByteArray), s.size ≤ n → n < 2000000 → ∃ r, Ev (fun k => units_Strip.l1 k s) r
  | n, s, h, hn => by
    by_cases he : s.size = 0
    · exact ⟨s, Ev.step (fun _ => units_Strip.l1.eq_2 ..) (Ev.ite_pos ((empty_iff s).2 he) (Ev.now _))⟩
    · obtain ⟨n, rfl⟩ : ∃ m, n = m + 1 := ⟨n - 1, by omega⟩
      by_cases hb : blankB (bt s ((s.size : Int) - 1)) = true
      · obtain ⟨r, hr⟩ := strip_end n (s.extract 0 ((s.size : Int) - 1).toNat) (by simp; omega) (by omega)
        refine ⟨r, Ev.step (fun _ => units_Strip.l1.eq_2 ..) (Ev.ite_neg (fun e => he ((empty_iff s).1 e)) ?_)⟩
        rw [wrap64_id (by omega) (by omega), blank_eq]
        simp only [Option.bind_some]
        exact Ev.ite_pos (by omega) (Ev.ite_pos (by omega) (Ev.ite_pos hb (Ev.ite_pos (by omega) hr)))
      · refine ⟨s, Ev.step (fun _ => units_Strip.l1.eq_2 ..) (Ev.ite_neg (fun e => he ((empty_iff s).1 e)) ?_)⟩
        rw [wrap64_id (by omega) (by omega), blank_eq]
        simp only [Option.bind_some]
        exact Ev.ite_pos (by omega) (Ev.ite_pos (by omega) (Ev.ite_neg hb (Ev.now _)))
theorem strip_ends : ∀ (n : Nat) (s : ByteArray), s.size ≤ n → n < 2000000 → ∃ r, Ev (fun k => units_Strip.l0 k s) r
  | n, s, h, hn => by
    obtain ⟨r1, hr1⟩ := strip_end n s h hn
    have hj : Ev (fun k => units_Strip.j1 k s) r1 := Ev.step (fun _ => units_Strip.j1.eq_2 ..) hr1
    by_cases he : s.size = 0
    · exact ⟨r1, Ev.step (fun _ => units_Strip.l0.eq_2 ..) (Ev.ite_pos ((empty_iff s).2 he) hj)⟩
    · obtain ⟨n, rfl⟩ : ∃ m, n = m + 1 := ⟨n - 1, by omega⟩
      by_cases hb : blankB (bt s 0) = true
      · obtain ⟨r, hr⟩ := strip_ends n (s.extract 1 s.size) (by simp; omega) (by omega)
        refine ⟨r, Ev.step (fun _ => units_Strip.l0.eq_2 ..) (Ev.ite_neg (fun e => he ((empty_iff s).1 e)) ?_)⟩
        rw [blank_eq]
        simp only [Option.bind_some]
        exact Ev.ite_pos (by omega) (Ev.ite_pos hb (Ev.ite_pos (by omega) hr))
      · refine ⟨r1, Ev.step (fun _ => units_Strip.l0.eq_2 ..) (Ev.ite_neg (fun e => he ((empty_iff s).1 e)) ?_)⟩
        rw [blank_eq]
        simp only [Option.bind_some]
        exact Ev.ite_pos (by omega) (Ev.ite_neg hb hj)
theorem strip_spec (s : ByteArray) (hs : s.size < 1048577) : ∃ r, Ev (fun k => units_Strip.f k s) r ∧ Ev (fun k => canopyref01_Strip.f k s) r := by
  obtain ⟨r, hr⟩ := strip_ends s.size s (Nat.le_refl _) (by omega)
  exact ⟨r, hr, Ev.congr (fun k => (strip_eq k s).symm) hr⟩
end Go.Proofs.Ytgjifcflkcpnlaa.Pure
namespace Go.Proofs.Ytgjifcflkcpnlaa.Pure
set_option linter.unusedVariables false
open Go.RowKit Go.Proofs.Ytgjifcflkcpnlaa.P Go.Proofs.YtgjifcflkcpnlaaW.PrintWords
theorem own_end (l : List Int) (a : Int) (m : List ByteArray) (hl : l.length < 1048577) (ha : 0 ≤ a ∧ a ≤ 4294967295) (hm : m.length < 1048577 ∧ ∀ x ∈ m, x.size < 1048577) (n : Nat) (hn : n < 2000000) : ∀ (d i : Nat) (x : List ByteArray), n - i ≤ d → i ≤ n → x.length = n → Ev (fun k => canopylaw01_UnitsOwn.l2 k l a m l x (n : Int) i) true := by
  have hsl := setL_length m []
  simp only [List.length_nil] at hsl
  have fin : ∀ (i : Nat) (x : List ByteArray), ¬ ((i : Int) < (n : Int)) → Ev (fun k => canopylaw01_UnitsOwn.l2 k l a m l x (n : Int) i) true := by
    intro i x hi
    refine Ev.step (fun _ => canopylaw01_UnitsOwn.l2.eq_2 ..) (Ev.ite_neg hi (Ev.bind (same_spec l l (by omega) (by omega)) (Ev.ite_pos (by simp) ?_)))
    rw [set_eq m hm.1 hm.2]
    simp only [Option.bind_some]
    refine Ev.bind (cuts_ev l a 9 [] 0 hl ha (by omega) (by simp)) (Ev.ite_pos rfl (Ev.bind (refset_spec m hm.1) (Ev.bind (strings_spec _ _ (by omega)) ?_)))
    simp
    exact Ev.now _
  intro d
  induction d with
  | zero => intro i x hd hi hx; exact fin i x (by omega)
  | succ d ih =>
    intro i x hd hi hx
    by_cases h : i < n
    · refine Ev.step (fun _ => canopylaw01_UnitsOwn.l2.eq_2 ..) (Ev.ite_pos (by omega) (Ev.ite_pos (by omega) (Ev.ite_pos (by omega) ?_)))
      rw [wrap64_id (by omega) (by omega)]
      exact ih (i + 1) _ (by omega) (by omega) (by rw [List.length_set]; exact hx)
    · exact fin i x (by omega)
theorem own_mid (l : List Int) (a : Int) (m : List ByteArray) (s : List ByteArray) (hl : l.length < 1048577) (ha : 0 ≤ a ∧ a ≤ 4294967295) (hm : m.length < 1048577 ∧ ∀ x ∈ m, x.size < 1048577) (hs : s.length < 2000000) (n : Nat) (hn : n < 2000000) : ∀ (d i : Nat) (x : List Int), n - i ≤ d → i ≤ n → x.length = n → Ev (fun k => canopylaw01_UnitsOwn.l1 k l a m l x s (n : Int) i) true := by
  have fin : ∀ (i : Nat) (x : List Int), ¬ ((i : Int) < (n : Int)) → Ev (fun k => canopylaw01_UnitsOwn.l1 k l a m l x s (n : Int) i) true := by
    intro i x hi
    exact Ev.step (fun _ => canopylaw01_UnitsOwn.l1.eq_2 ..) (Ev.ite_neg hi (own_end l a m hl ha hm s.length hs s.length 0 s (by omega) (by omega) rfl))
  intro d
  induction d with
  | zero => intro i x hd hi hx; exact fin i x (by omega)
  | succ d ih =>
    intro i x hd hi hx
    by_cases h : i < n
    · refine Ev.step (fun _ => canopylaw01_UnitsOwn.l1.eq_2 ..) (Ev.ite_pos (by omega) (Ev.ite_pos (by omega) (Ev.ite_pos (by omega) ?_)))
      rw [wrap64_id (by omega) (by omega)]
      exact ih (i + 1) _ (by omega) (by omega) (by rw [List.length_set]; exact hx)
    · exact fin i x (by omega)
theorem own_first (l : List Int) (a : Int) (m : List ByteArray) (b : List Int) (s : List ByteArray) (hl : l.length < 1048577) (ha : 0 ≤ a ∧ a ≤ 4294967295) (hm : m.length < 1048577 ∧ ∀ x ∈ m, x.size < 1048577) (hs : s.length < 2000000) (hb : b.length < 2000000) (n : Nat) (hn : n < 2000000) : ∀ (d i : Nat) (x : List Int), n - i ≤ d → i ≤ n → x.length = n → Ev (fun k => canopylaw01_UnitsOwn.l0 k l a m l x b s (n : Int) i) true := by
  have fin : ∀ (i : Nat) (x : List Int), ¬ ((i : Int) < (n : Int)) → Ev (fun k => canopylaw01_UnitsOwn.l0 k l a m l x b s (n : Int) i) true := by
    intro i x hi
    exact Ev.step (fun _ => canopylaw01_UnitsOwn.l0.eq_2 ..) (Ev.ite_neg hi (own_mid l a m s hl ha hm hs b.length hb b.length 0 b (by omega) (by omega) rfl))
  intro d
  induction d with
  | zero => intro i x hd hi hx; exact fin i x (by omega)
  | succ d ih =>
    intro i x hd hi hx
    by_cases h : i < n
    · refine Ev.step (fun _ => canopylaw01_UnitsOwn.l0.eq_2 ..) (Ev.ite_pos (by omega) (Ev.ite_pos (by omega) (Ev.ite_pos (by omega) ?_)))
      rw [wrap64_id (by omega) (by omega)]
      exact ih (i + 1) _ (by omega) (by omega) (by rw [List.length_set]; exact hx)
    · exact fin i x (by omega)
theorem UnitsOwn : ∀ (l0 : List (Int)) (a1 : Int) (l2 : List (ByteArray)), (l0.length < 1048577 ∧ ∀ x0 ∈ l0, (Lit.int .u16 x0).wf = true) → ((Lit.int .u32 a1).wf = true) → (l2.length < 1048577 ∧ ∀ x0 ∈ l2, x0.size < 1048577) → ∃ k, canopylaw01_UnitsOwn.f k l0 a1 l2 = some true := by
  intro l a m hl wa hm
  have ha := wf_u32 wa
  have hsl := setL_length m []
  simp only [List.length_nil] at hsl
  obtain ⟨x, c, e1, _, hx⟩ : ∃ x c, units_Sub.f l a 9 = some (x, c) ∧ True ∧ x.length < 2000000 := by
    rw [sub_eq l a 9 ha (by omega) hl.1]
    by_cases h : a > (l.length : Int)
    · rw [if_pos h]; exact ⟨_, _, rfl, trivial, by simp⟩
    · rw [if_neg h]
      have := part_length l a 9 ha.1 (by omega) (by omega)
      have hs := stop_range (b := 9) ha.1 (by omega) (show a ≤ (l.length : Int) by omega)
      exact ⟨_, _, rfl, trivial, by omega⟩
  obtain ⟨y, d, e2, _, hy⟩ : ∃ x c, units_Replace.f l a 0 [] = some (x, c) ∧ True ∧ x.length < 2000000 := by
    rw [replace_eq l a 0 [] ha (by omega) hl.1 (by simp)]
    by_cases h : a > (l.length : Int)
    · rw [if_pos h]; exact ⟨_, _, rfl, trivial, by simp⟩
    · rw [if_neg h]
      have := put_length l a 0 [] ha.1 (by omega) (by omega)
      simp only [List.length_nil] at this
      by_cases h2 : (l.length : Int) - (stop l.length a 0 - a) + (([] : List Int).length : Int) > 16384
      · rw [if_pos h2]; exact ⟨_, _, rfl, trivial, by simp⟩
      · rw [if_neg h2]; exact ⟨_, _, rfl, trivial, by omega⟩
  refine Ev.rounds (r := true) ?_
  unfold canopylaw01_UnitsOwn.f
  simp only [Option.bind_some, List.nil_append, List.length_nil]
  refine Ev.bind lives_spec (Ev.ite_pos rfl (Ev.ite_pos (by omega) ?_))
  rw [e1, e2, set_eq m hm.1 hm.2]
  simp only [Option.bind_some]
  exact own_first l a m y (setL [] m) hl.1 ha hm (by omega) hy x.length hx x.length 0 x (by omega) (by omega) rfl
end Go.Proofs.Ytgjifcflkcpnlaa.Pure
