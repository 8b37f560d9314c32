/- The pure statement of UnitsOnce. -/
import Derived.Test.YtgjifcflkcpnlaaPureL
import Derived.Test.YtgjifcflkcpnlaaPureW
import Derived.Test.YtgjifcflkcpnlaaP24
namespace Go.Proofs.Ytgjifcflkcpnlaa.Pure
set_option linter.unusedVariables false
open Go.RowKit Go.Proofs.Ytgjifcflkcpnlaa.P Go.Proofs.YtgjifcflkcpnlaaW.PrintWords
theorem split_len1 (s : ByteArray) : (split s).length ≤ s.size + 1 := by
  have h2 := words_total s.data.toList []
  have h3 := words_count (words [] s.data.toList)
  rw [data_len] at h2
  simp only [List.length_nil] at h2
  unfold split
  rw [List.length_map]
  omega
theorem mem_sum : ∀ (l : List (List UInt8)) (w : List UInt8), w ∈ l → w.length + 1 ≤ (l.map fun w => w.length + 1).sum
  | [], w, h => by simp at h
  | x :: l, w, h => by
    simp only [List.map_cons, List.sum_cons]
    rcases List.mem_cons.1 h with e | e
    · subst e; omega
    · have := mem_sum l w e; omega
theorem collapse_le (s : ByteArray) : (collapse s).size ≤ s.size := by
  have h2 := words_total s.data.toList []
  have h3 : (collapse s).size = (Lib.join (words [] s.data.toList) [32]).length := by rw [← data_len]; unfold collapse; rw [mk_data]
  rw [data_len] at h2
  simp only [List.length_nil] at h2
  rw [h3]
  generalize words [] s.data.toList = ws at h2 ⊢
  cases ws with
  | nil => simp [Lib.join_nil]
  | cons x r =>
    have := joinTail_length r
    rw [Lib.join_cons, List.length_append, this]
    simp only [List.map_cons, List.sum_cons] at h2
    omega
theorem split_good (s : ByteArray) : ∀ p ∈ split s, p.size ≠ 0 ∧ p.size ≤ s.size + 1 ∧ ∀ i : Nat, i < p.size → blankB (bt p i) = false := by
  intro p hp
  unfold split at hp
  obtain ⟨w, hw, rfl⟩ := List.mem_map.1 hp
  obtain ⟨h1, h2⟩ := words_good s.data.toList [] (by simp) w hw
  have ht := words_total s.data.toList []
  rw [data_len] at ht
  simp only [List.length_nil] at ht
  have hm : w.length + 1 ≤ ((words [] s.data.toList).map fun w => w.length + 1).sum := mem_sum _ _ hw
  have hs : (mk w).size = w.length := by rw [← data_len, mk_data]
  refine ⟨fun e => h1 (List.length_eq_zero_iff.1 (by omega)), by omega, fun i hi => ?_⟩
  obtain ⟨b, hb⟩ : ∃ b, (mk w).data.toList[i]? = some b := by
    rw [mk_data]
    exact ⟨w[i]'(by omega), List.getElem?_eq_getElem (by omega)⟩
  rw [bt_data (mk w) i b hb]
  rw [mk_data] at hb
  exact h2 b (List.mem_of_getElem? hb)
theorem lower_size (s : ByteArray) : (lower s).size = s.size := by
  rw [← data_len]
  unfold lower strOfNums
  simp [bytesOf]
theorem lowB_range (x : Int) (h : 0 ≤ x ∧ x ≤ 255) : 0 ≤ lowB x ∧ lowB x ≤ 255 := by unfold lowB; split <;> omega
theorem lowB_lowB (x : Int) : lowB (lowB x) = lowB x := by
  unfold lowB
  by_cases h : 65 ≤ x ∧ x ≤ 90
  · rw [if_pos h, if_neg (by omega)]
  · rw [if_neg h, if_neg h]
theorem lower_lower (s : ByteArray) : lower (lower s) = lower s := by
  have e : bytesOf (lower s) = (bytesOf s).map lowB := by
    unfold lower strOfNums
    unfold bytesOf
    simp only [List.map_map]
    refine List.map_congr_left (fun b _ => ?_)
    have hr := lowB_range (b.toNat : Int) (by have := b.toNat_lt; omega)
    simp only [Function.comp]
    have : (lowB (b.toNat : Int)).toNat < 256 := by omega
    rw [UInt8.toNat_ofNat', Nat.mod_eq_of_lt this]
    omega
  unfold lower at e ⊢
  rw [e, List.map_map]
  congr 1
  exact List.map_congr_left (fun x _ => lowB_lowB x)
theorem collapse_words (s : ByteArray) : words [] (collapse s).data.toList = words [] s.data.toList := by
  unfold collapse
  rw [mk_data]
  exact words_join _ (words_good s.data.toList [] (by simp))
theorem collapse_collapse (s : ByteArray) : collapse (collapse s) = collapse s := by
  show mk (Lib.join (words [] (collapse s).data.toList) [32]) = _
  rw [collapse_words]
  rfl
theorem split_collapse (s : ByteArray) : split (collapse s) = split s := by
  unfold split
  rw [collapse_words]
/-- the last byte is not blank -/
def EndsOk (l : List UInt8) : Prop := ∃ a b, l = a ++ [b] ∧ blk b = false
theorem EndsOk.of (w : List UInt8) (h : w ≠ [] ∧ ∀ b ∈ w, blk b = false) : EndsOk w := by
  refine ⟨w.dropLast, w.getLast h.1, (List.dropLast_concat_getLast h.1).symm, h.2 _ (List.getLast_mem h.1)⟩
theorem EndsOk.app (p w : List UInt8) (h : EndsOk w) : EndsOk (p ++ w) := by
  obtain ⟨a, b, rfl, hb⟩ := h
  exact ⟨p ++ a, b, by rw [List.append_assoc], hb⟩
theorem tail_ends : ∀ (r : List (List UInt8)) (p : List UInt8), EndsOk p → (∀ w ∈ r, w ≠ [] ∧ ∀ b ∈ w, blk b = false) → EndsOk (p ++ Lib.joinTail [32] r)
  | [], p, h, _ => by simpa [Lib.joinTail] using h
  | x :: r, p, h, hr => by
    have e : p ++ Lib.joinTail [32] (x :: r) = (p ++ [32] ++ x) ++ Lib.joinTail [32] r := by rw [joinTail_cons]; simp
    rw [e]
    exact tail_ends r _ (EndsOk.app _ _ (EndsOk.of x (hr x (List.mem_cons_self ..)))) (fun w hw => hr w (List.mem_cons_of_mem _ hw))
theorem join_ends (ws : List (List UInt8)) (h : ∀ w ∈ ws, w ≠ [] ∧ ∀ b ∈ w, blk b = false) : Lib.join ws [32] = [] ∨ (EndsOk (Lib.join ws [32]) ∧ ∃ b t, Lib.join ws [32] = b :: t ∧ blk b = false) := by
  cases ws with
  | nil => exact .inl (Lib.join_nil _)
  | cons x r =>
    have hx := h x (List.mem_cons_self ..)
    right
    rw [Lib.join_cons]
    refine ⟨tail_ends r x (EndsOk.of x hx) (fun w hw => h w (List.mem_cons_of_mem _ hw)), ?_⟩
    cases x with
    | nil => exact absurd rfl hx.1
    | cons b t => exact ⟨b, t ++ Lib.joinTail [32] r, rfl, hx.2 b (List.mem_cons_self ..)⟩
theorem strip_collapse (s : ByteArray) (hs : s.size < 1048577) : Ev (fun k => units_Strip.f k (collapse s)) (collapse s) := by
  show Ev (fun k => units_Strip.l0 k (collapse s)) _
  have hsz := collapse_le s
  have hd : (collapse s).data.toList = Lib.join (words [] s.data.toList) [32] := mk_data _
  rcases join_ends (words [] s.data.toList) (words_good s.data.toList [] (by simp)) with h | ⟨⟨a, b, hab, hb⟩, c, t, hct, hc⟩
  · rw [← hd] at h
    have h0 : (collapse s).toList = ([] : List UInt8) := by rw [bytes_toList]; exact h
    refine Ev.step (fun _ => units_Strip.l0.eq_2 ..) (Ev.ite_pos h0 (Ev.step (fun _ => units_Strip.j1.eq_2 ..) (Ev.step (fun _ => units_Strip.l1.eq_2 ..) (Ev.ite_pos h0 (Ev.now _)))))
  · rw [← hd] at hab hct
    have hlen := congrArg List.length hab
    rw [data_len, List.length_append, List.length_singleton] at hlen
    have h0 : ¬ (collapse s).toList = ([] : List UInt8) := fun e => by have := (empty_iff _).1 e; omega
    have e1 : bt (collapse s) 0 = (c.toNat : Int) := bt_data (collapse s) 0 c (by rw [hct]; rfl)
    have e2 : bt (collapse s) ((a.length : Nat) : Int) = (b.toNat : Int) := bt_data (collapse s) a.length b (by rw [hab]; simp)
    have hc2 : blankB (c.toNat : Int) = false := hc
    have hb2 : blankB (b.toNat : Int) = false := hb
    refine Ev.step (fun _ => units_Strip.l0.eq_2 ..) (Ev.ite_neg h0 (Ev.ite_pos (by omega) ?_))
    rw [e1, blank_eq]
    simp only [Option.bind_some]
    refine Ev.ite_neg (by rw [hc2]; simp) (Ev.step (fun _ => units_Strip.j1.eq_2 ..) (Ev.step (fun _ => units_Strip.l1.eq_2 ..) (Ev.ite_neg h0 ?_)))
    rw [wrap64_id (by omega) (by omega), show ((collapse s).size : Int) - 1 = ((a.length : Nat) : Int) by omega, e2, blank_eq]
    simp only [Option.bind_some]
    exact Ev.ite_pos (by omega) (Ev.ite_pos (by omega) (Ev.ite_neg (by rw [hb2]; simp) (Ev.now _)))

/-- the end of the law -/
theorem once_end (s : ByteArray) (l : List ByteArray) (hs : s.size < 1048577) (hl : l.length < 1048577 ∧ ∀ x ∈ l, x.size < 1048577) : ∀ (d i : Nat), l.length - i ≤ d → i ≤ l.length →
    Ev (fun k => canopylaw01_UnitsOnce.l2 k s (split s) (setL [] l) l (l.length : Int) i) true := by
  have hsl := setL_length l []
  simp only [List.length_nil] at hsl
  have hcs := collapse_le s
  have hsp := split_len1 s
  have hss : ∀ x ∈ setL [] l, x.size < 1048577 := fun x hx => ((setL_mem l [] x).1 hx).elim (by simp) (hl.2 x)
  have fin : ∀ i : Nat, ¬ ((i : Int) < (l.length : Int)) → Ev (fun k => canopylaw01_UnitsOnce.l2 k s (split s) (setL [] l) l (l.length : Int) i) true := by
    intro i hi
    refine Ev.step (fun _ => canopylaw01_UnitsOnce.l2.eq_2 ..) (Ev.ite_neg hi ?_)
    rw [lower_eq s (by omega)]
    simp only [Option.bind_some]
    refine Ev.bind (collapse_spec s (by omega)) ?_
    rw [lower_eq (lower s) (by rw [lower_size]; omega), lower_lower, fold_eq s (lower s) (by omega) (by rw [lower_size]; omega), lower_lower, set_eq (setL [] l) (by omega) hss, setL_id (setL [] l) [] (by rw [List.nil_append]; exact setL_nodup l [] (by simp))]
    simp only [Option.bind_some, List.nil_append]
    refine Ev.ite_pos (by trivial) (Ev.ite_pos (by simp) ?_)
    have h1 := collapse_spec (collapse s) (by omega)
    have h2 := split_spec (collapse s) (by omega)
    rw [collapse_collapse] at h1
    rw [split_collapse] at h2
    refine Ev.bind h1 (Ev.ite_pos rfl (Ev.bind (strip_collapse s (by omega)) (Ev.ite_pos rfl (Ev.bind h2 (Ev.bind (strings_spec _ _ (by omega)) (Ev.ite_pos (by simp) (Ev.bind (strings_spec _ _ (by omega)) ?_)))))))
    simp
    exact Ev.now _
  intro d
  induction d with
  | zero => intro i hd hi; exact fin i (by omega)
  | succ d ih =>
    intro i hd hi
    by_cases h : i < l.length
    · have hm : rdOf ByteArray.empty l (i : Int) ∈ setL [] l := by
        have e : rdOf ByteArray.empty l (i : Int) = l[i] := by simp [rdOf, List.getD_eq_getElem?_getD, h]
        rw [e]
        exact (setL_mem l [] _).2 (.inr (List.getElem_mem h))
      refine Ev.step (fun _ => canopylaw01_UnitsOnce.l2.eq_2 ..) (Ev.ite_pos (by omega) (Ev.ite_pos (by omega) (Ev.ite_pos (by omega) (Ev.bind (has_spec (setL [] l) _ (by omega)) ?_))))
      rw [decide_eq_true hm, wrap64_id (by omega) (by omega)]
      exact Ev.ite_pos rfl (ih (i + 1) (by omega) (by omega))
    · exact fin i (by omega)
theorem once_words (s : ByteArray) (l : List ByteArray) (hs : s.size < 1048577) (hl : l.length < 1048577 ∧ ∀ x ∈ l, x.size < 1048577) : ∀ (d i : Nat), (split s).length - i ≤ d → i ≤ (split s).length →
    Ev (fun k => canopylaw01_UnitsOnce.l0 k s l (split s) (split s) ((split s).length : Int) i) true := by
  have hsp := split_len1 s
  have fin : ∀ i : Nat, ¬ ((i : Int) < ((split s).length : Int)) → Ev (fun k => canopylaw01_UnitsOnce.l0 k s l (split s) (split s) ((split s).length : Int) i) true := by
    intro i hi
    refine Ev.step (fun _ => canopylaw01_UnitsOnce.l0.eq_2 ..) (Ev.ite_neg hi ?_)
    rw [set_eq l hl.1 hl.2]
    simp only [Option.bind_some]
    exact once_end s l hs hl l.length 0 (by omega) (by omega)
  intro d
  induction d with
  | zero => intro i hd hi; exact fin i (by omega)
  | succ d ih =>
    intro i hd hi
    by_cases h : i < (split s).length
    · have e : rdOf ByteArray.empty (split s) (i : Int) = (split s)[i] := by simp [rdOf, List.getD_eq_getElem?_getD, h]
      obtain ⟨g1, g2, g3⟩ := split_good s (split s)[i] (List.getElem_mem h)
      refine Ev.step (fun _ => canopylaw01_UnitsOnce.l0.eq_2 ..) (Ev.ite_pos (by omega) (Ev.ite_pos (by omega) (Ev.ite_pos (by omega) ?_)))
      rw [e]
      refine Ev.ite_neg (fun e => g1 ((empty_iff _).1 e)) ?_
      -- the bytes of the word
      have bytes : ∀ (m j : Nat), (split s)[i].size - j ≤ m → j ≤ (split s)[i].size → Ev (fun k => canopylaw01_UnitsOnce.l1 k s l (split s) (split s)[i] j (split s) ((split s).length : Int) i) true := by
        intro m
        induction m with
        | zero =>
          intro j hm hj
          refine Ev.step (fun _ => canopylaw01_UnitsOnce.l1.eq_2 ..) (Ev.ite_neg (by omega) ?_)
          rw [wrap64_id (by omega) (by omega)]
          exact ih (i + 1) (by omega) (by omega)
        | succ m ihm =>
          intro j hm hj
          by_cases hjs : j < (split s)[i].size
          · refine Ev.step (fun _ => canopylaw01_UnitsOnce.l1.eq_2 ..) (Ev.ite_pos (by omega) (Ev.ite_pos (by omega) ?_))
            rw [blank_eq, g3 j hjs, wrap64_id (by omega) (by omega)]
            simp only [Option.bind_some]
            exact Ev.ite_neg (by simp) (ihm (j + 1) (by omega) (by omega))
          · refine Ev.step (fun _ => canopylaw01_UnitsOnce.l1.eq_2 ..) (Ev.ite_neg (by omega) ?_)
            rw [wrap64_id (by omega) (by omega)]
            exact ih (i + 1) (by omega) (by omega)
      exact bytes (split s)[i].size 0 (by omega) (by omega)
    · exact fin i (by omega)
theorem UnitsOnce : ∀ (a0 : ByteArray) (l1 : List (ByteArray)), (a0.size < 1048577) → (l1.length < 1048577 ∧ ∀ x0 ∈ l1, x0.size < 1048577) → ∃ k, canopylaw01_UnitsOnce.f k a0 l1 = some true := by
  intro s l hs hl
  refine Ev.rounds (r := true) ?_
  unfold canopylaw01_UnitsOnce.f
  exact Ev.bind lives_spec (Ev.ite_pos rfl (Ev.bind (split_spec s hs) (once_words s l hs hl _ 0 (Nat.le_refl _) (by omega))))
end Go.Proofs.Ytgjifcflkcpnlaa.Pure
