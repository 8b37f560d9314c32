/- Plain laws: lists of numbers and of texts held against each other. -/
import Derived.Test.YtgjifcflkcpnlaaP3
namespace Go.Proofs.Ytgjifcflkcpnlaa.Pure
set_option linter.unusedVariables false
set_option linter.unusedSimpArgs false
open Go.RowKit Go.Proofs.Ytgjifcflkcpnlaa.P Go.Proofs.YtgjifcflkcpnlaaW.PrintWords Go.Proofs.YtgjifcflkcpnlaaW.PrintLast Go.Proofs.YtgjifcflkcpnlaaW.PrintMore

theorem wrap64_id {n : Int} (h0 : -9223372036854775808 ≤ n) (h1 : n ≤ 9223372036854775807) : wrap64 n = n := by unfold wrap64; omega
theorem wrap32_id {n : Int} (h0 : -2147483648 ≤ n) (h1 : n ≤ 2147483647) : wrap32 n = n := by unfold wrap32; omega

theorem Ev.ite_pos {α : Type} {c : Prop} [Decidable c] {f g : Nat → Option α} {r : α} (hc : c) (h : Ev f r) : Ev (fun k => if c then f k else g k) r := Ev.congr (fun k => if_pos hc) h
theorem Ev.ite_neg {α : Type} {c : Prop} [Decidable c] {f g : Nat → Option α} {r : α} (hc : ¬ c) (h : Ev g r) : Ev (fun k => if c then f k else g k) r := Ev.congr (fun k => if_neg hc) h

/-- one list held against another, number by number -/
def cmpI : List Int → List Int → Int
  | [], [] => 0
  | [], _ :: _ => -1
  | _ :: _, [] => 1
  | x :: xs, y :: ys => if x < y then -1 else if x > y then 1 else cmpI xs ys
theorem cmpI_zero : ∀ l m : List Int, cmpI l m = 0 ↔ l = m
  | [], [] => by simp [cmpI]
  | [], _ :: _ => by simp [cmpI]
  | _ :: _, [] => by simp [cmpI]
  | x :: xs, y :: ys => by
    have ih := cmpI_zero xs ys
    unfold cmpI
    by_cases h1 : x < y
    · rw [if_pos h1]; simp; intro h; omega
    · rw [if_neg h1]
      by_cases h2 : x > y
      · rw [if_pos h2]; simp; intro h; omega
      · rw [if_neg h2, ih]
        have : x = y := by omega
        simp [this]
theorem rd_drop (l : List Int) (i : Nat) (h : i < l.length) : l.drop i = rd l i :: l.drop (i + 1) := by
  rw [List.drop_eq_getElem_cons h]
  simp [rd, List.getD_eq_getElem?_getD, h]

theorem compare_loop (l m : List Int) (hl : l.length < 4611686018427387904) (hm : m.length < 4611686018427387904) : ∀ (d i : Nat), l.length - i ≤ d → i ≤ l.length → i ≤ m.length → Ev (fun k => canopyref01_Compare.l0 k l m i) (cmpI (l.drop i) (m.drop i)) := by
  intro d
  induction d with
  | zero =>
    intro i hd hil him
    have hi : i = l.length := by omega
    refine Ev.step (fun _ => canopyref01_Compare.l0.eq_2 ..) ?_
    refine Ev.ite_neg (by omega) (Ev.step (fun _ => canopyref01_Compare.j1.eq_2 ..) ?_)
    refine Ev.ite_neg (by simp) ?_
    rw [hi, List.drop_length]
    by_cases h : l.length < m.length
    · refine Ev.ite_pos (by omega) ?_
      rw [rd_drop m _ h]
      exact Ev.now _
    · refine Ev.ite_neg (by omega) (Ev.ite_neg (by omega) ?_)
      rw [List.drop_of_length_le (by omega)]
      exact Ev.now _
  | succ d ih =>
    intro i hd hil him
    refine Ev.step (fun _ => canopyref01_Compare.l0.eq_2 ..) ?_
    by_cases h1 : i < l.length
    · refine Ev.ite_pos (by omega) (Ev.step (fun _ => canopyref01_Compare.j1.eq_2 ..) ?_)
      by_cases h2 : i < m.length
      · refine Ev.ite_pos (by simp; omega) (Ev.ite_pos (by omega) (Ev.ite_pos (by omega) (Ev.ite_pos (by omega) ?_)))
        rw [rd_drop l i h1, rd_drop m i h2]
        unfold cmpI
        by_cases h3 : rd l i < rd m i
        · rw [if_pos h3]; exact Ev.ite_pos h3 (Ev.now _)
        · rw [if_neg h3]
          refine Ev.ite_neg h3 ?_
          by_cases h4 : rd l i > rd m i
          · rw [if_pos h4]; exact Ev.ite_pos h4 (Ev.now _)
          · rw [if_neg h4]
            refine Ev.ite_neg h4 ?_
            rw [wrap64_id (by omega) (by omega)]
            exact ih (i + 1) (by omega) (by omega) (by omega)
      · refine Ev.ite_neg (by simp; omega) (Ev.ite_neg (by omega) (Ev.ite_pos (by omega) ?_))
        rw [rd_drop l i h1, List.drop_of_length_le (show m.length ≤ i by omega)]
        exact Ev.now _
    · have hi : i = l.length := by omega
      refine Ev.ite_neg (by omega) (Ev.step (fun _ => canopyref01_Compare.j1.eq_2 ..) ?_)
      refine Ev.ite_neg (by simp) ?_
      rw [hi, List.drop_length]
      by_cases h : l.length < m.length
      · refine Ev.ite_pos (by omega) ?_
        rw [rd_drop m _ h]
        exact Ev.now _
      · refine Ev.ite_neg (by omega) (Ev.ite_neg (by omega) ?_)
        rw [List.drop_of_length_le (by omega)]
        exact Ev.now _
theorem compare_spec (l m : List Int) (hl : l.length < 4611686018427387904) (hm : m.length < 4611686018427387904) : Ev (fun k => canopyref01_Compare.f k l m) (cmpI l m) :=
  compare_loop l m hl hm l.length 0 (by omega) (by omega) (by omega)
theorem same_spec (l m : List Int) (hl : l.length < 4611686018427387904) (hm : m.length < 4611686018427387904) : Ev (fun k => canopyref01_Same.f k l m) (decide (l = m)) := by
  refine Ev.bind (f := fun _ t => some (t == 0)) (compare_spec l m hl hm) ?_
  have : (cmpI l m == 0) = decide (l = m) := by
    by_cases h : l = m
    · rw [(cmpI_zero l m).2 h, decide_eq_true h]; rfl
    · have := mt (cmpI_zero l m).1 h
      simp [this, h]
  rw [← this]
  exact Ev.now _

theorem rdS_drop (l : List ByteArray) (i : Nat) (h : i < l.length) : l.drop i = rdOf ByteArray.empty l i :: l.drop (i + 1) := by
  rw [List.drop_eq_getElem_cons h]
  simp [rdOf, List.getD_eq_getElem?_getD, h]
theorem toList_loop (a : ByteArray) : ∀ (d i : Nat) (r : List UInt8), a.size - i ≤ d → ByteArray.toList.loop a i r = r.reverse ++ a.data.toList.drop i
  | 0, i, r, h => by
    unfold ByteArray.toList.loop
    rw [if_neg (by omega), List.drop_of_length_le (by simp; show a.size ≤ i; omega), List.append_nil]
  | d + 1, i, r, h => by
    unfold ByteArray.toList.loop
    by_cases hi : i < a.size
    · rw [if_pos hi, toList_loop a d (i + 1) _ (by omega)]
      have hl : i < a.data.toList.length := by simpa using hi
      rw [List.drop_eq_getElem_cons hl]
      have : a.get! i = a.data.toList[i] := by
        have hi2 : i < a.data.size := hi
        show a.data[i]! = _
        rw [getElem!_pos a.data i hi2]
        simp
      simp [this]
    · rw [if_neg hi, List.drop_of_length_le (by simp; show a.size ≤ i; omega), List.append_nil]
theorem bytes_toList (a : ByteArray) : a.toList = a.data.toList := by
  unfold ByteArray.toList
  rw [toList_loop a a.size 0 [] (by omega)]
  simp
theorem toList_inj (a b : ByteArray) : a.toList = b.toList ↔ a = b := by
  refine ⟨fun h => ?_, fun h => by rw [h]⟩
  have h2 : a.data.toList = b.data.toList := by rw [← bytes_toList, ← bytes_toList]; exact h
  have h3 : a.data = b.data := Array.toList_inj.1 h2
  cases a; cases b; simp_all
theorem strings_loop (l m : List ByteArray) (hlm : l.length = m.length) (hl : l.length < 4611686018427387904) : ∀ (d i : Nat), l.length - i ≤ d → i ≤ l.length → Ev (fun k => canopyref01_Strings.l0 k l m (l.length : Int) i) (decide (l.drop i = m.drop i)) := by
  intro d
  induction d with
  | zero =>
    intro i hd hil
    refine Ev.step (fun _ => canopyref01_Strings.l0.eq_2 ..) ?_
    refine Ev.ite_neg (by omega) ?_
    rw [List.drop_of_length_le (by omega), List.drop_of_length_le (by omega)]
    exact Ev.now _
  | succ d ih =>
    intro i hd hil
    refine Ev.step (fun _ => canopyref01_Strings.l0.eq_2 ..) ?_
    by_cases h1 : i < l.length
    · refine Ev.ite_pos (by omega) (Ev.ite_pos (by omega) (Ev.ite_pos (by omega) (Ev.ite_pos (by omega) ?_)))
      rw [rdS_drop l i h1, rdS_drop m i (by omega)]
      by_cases h : (rdOf ByteArray.empty l i).toList = (rdOf ByteArray.empty m i).toList
      · refine Ev.ite_pos h ?_
        rw [wrap64_id (by omega) (by omega)]
        have := ih (i + 1) (by omega) (by omega)
        have he := (toList_inj _ _).1 h
        simpa [he] using this
      · refine Ev.ite_neg h ?_
        have he := mt (toList_inj _ _).2 h
        simp [he]
        exact Ev.now _
    · refine Ev.ite_neg (by omega) ?_
      rw [List.drop_of_length_le (by omega), List.drop_of_length_le (by omega)]
      exact Ev.now _
theorem strings_spec (l m : List ByteArray) (hl : l.length < 4611686018427387904) : Ev (fun k => canopyref01_Strings.f k l m) (decide (l = m)) := by
  by_cases h : l.length = m.length
  · refine Ev.ite_pos (by omega) ?_
    exact strings_loop l m h hl l.length 0 (by omega) (by omega)
  · have : ¬ l = m := fun e => h (by rw [e])
    rw [decide_eq_false this]
    exact Ev.ite_neg (by omega) (Ev.now _)
end Go.Proofs.Ytgjifcflkcpnlaa.Pure
