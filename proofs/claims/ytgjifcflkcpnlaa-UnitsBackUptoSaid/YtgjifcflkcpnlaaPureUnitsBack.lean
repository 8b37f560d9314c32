/- The pure statement of UnitsBack. -/
import Derived.Test.YtgjifcflkcpnlaaPureL
import Derived.Test.YtgjifcflkcpnlaaPureO
import Derived.Test.YtgjifcflkcpnlaaPureT
import Derived.Test.YtgjifcflkcpnlaaPureC
import Derived.Test.YtgjifcflkcpnlaaP7
namespace Go.Proofs.Ytgjifcflkcpnlaa.Pure
set_option linter.unusedVariables false
open Go.RowKit Go.Proofs.Ytgjifcflkcpnlaa.P Go.Proofs.YtgjifcflkcpnlaaW.PrintWords
/-- a rune that UTF-8 can write -/
def VR (r : Int) : Prop := 0 ≤ r ∧ (r < 55296 ∨ 57344 ≤ r) ∧ r ≤ 1114111
theorem decode_step (l : List UInt8) : VR ((Lib.decodeL l).1 : Int) ∧ ((Lib.decodeL l).2 : Int) ≤ lenOf ((Lib.decodeL l).1 : Int) ∧ (lenOf ((Lib.decodeL l).1 : Int) = ((Lib.decodeL l).2 : Int) → ¬ ((Lib.decodeL l).1 = 65533 ∧ (Lib.decodeL l).2 = 1)) := by
  rw [Lib.decodeL_N]
  have k0 := (l.getD 0 0).toNat_lt
  unfold VR lenOf
  rcases Lib.decodeN_shape l.length (l.getD 0 0).toNat (l.getD 1 0).toNat (l.getD 2 0).toNat (l.getD 3 0).toNat with ⟨c, e⟩ | ⟨c1, c2, c3, cv, e⟩ | ⟨c1, c2, c3, c4, cv, cs, e⟩ | ⟨c1, c2, c3, c4, c5, cv, cw, e⟩ | e
  all_goals
    rw [e]
    dsimp only
  · rw [if_pos (by omega)]
    refine ⟨by omega, by omega, by omega⟩
  · rw [if_neg (by omega), if_pos (by omega)]
    refine ⟨by omega, by omega, by omega⟩
  · rw [if_neg (by omega), if_neg (by omega), if_pos (by omega)]
    refine ⟨by omega, by omega, by omega⟩
  · rw [if_neg (by omega), if_neg (by omega), if_neg (by omega)]
    refine ⟨by omega, by omega, by omega⟩
  · rw [if_neg (by omega), if_neg (by omega), if_pos (by omega)]
    refine ⟨by omega, by omega, by omega⟩
theorem runesD_VR : ∀ (n : Nat) (l : List UInt8), ∀ r ∈ runesD n l, VR r
  | 0, _, r, h => by simp [runesD] at h
  | n + 1, l, r, h => by
    rw [runesD_succ] at h
    split at h
    · simp at h
    · rcases List.mem_cons.1 h with e | e
      · rw [e]; exact (decode_step l).1
      · exact runesD_VR n _ r e
theorem text_units : ∀ rs : List Int, (∀ r ∈ rs, VR r) → textAll (unitsAll rs) = (rs, false)
  | [], _ => rfl
  | r :: rs, h => by
    have hr := h r (List.mem_cons_self ..)
    have ih := text_units rs (fun x hx => h x (List.mem_cons_of_mem _ hx))
    unfold VR at hr
    have e : unitsAll (r :: rs) = unitsOf r ++ unitsAll rs := rfl
    rw [e]
    unfold unitsOf
    by_cases hb : r < 65536
    · have h1 : hiB r = false := by unfold hiB; by_cases a : 55296 ≤ r <;> by_cases b : r < 56320 <;> simp [a, b] <;> omega
      have h2 : loB r = false := by unfold loB; by_cases a : 56320 ≤ r <;> by_cases b : r < 57344 <;> simp [a, b] <;> omega
      rw [if_pos hb, List.singleton_append, textAll_cons _ _ (by simp [h1]), if_neg (by simp [h1, h2]), ih]
    · have h1 : hiB (55296 + (r - 65536) / 1024) = true := by unfold hiB; simp; omega
      have h2 : loB (56320 + (r - 65536) % 1024) = true := by unfold loB; simp; omega
      rw [if_neg hb]
      show textAll (_ :: _ :: unitsAll rs) = _
      rw [textAll_two, if_pos ⟨h1, h2⟩, ih]
      have : comb (55296 + (r - 65536) / 1024) (56320 + (r - 65536) % 1024) = r := by unfold comb; omega
      rw [this]
theorem enc_runes : ∀ (n : Nat) (l : List UInt8), l.length ≤ n → (l.length : Int) ≤ ((runesD n l).map lenOf).sum ∧ (((runesD n l).map lenOf).sum = (l.length : Int) → encAll (runesD n l) = l)
  | 0, l, h => by
    have : l = [] := List.length_eq_zero_iff.1 (by omega)
    subst this
    simp [runesD, encAll]
  | n + 1, l, h => by
    rw [runesD_succ]
    by_cases hl : l = []
    · rw [if_pos hl, hl]
      simp [encAll]
    · rw [if_neg hl]
      have hd := decode_step l
      have hle := Lib.decodeL_le l hl
      have hw := Lib.decodeL_width l
      have hlen : (l.drop (Lib.decodeL l).2).length = l.length - (Lib.decodeL l).2 := List.length_drop ..
      have ih := enc_runes n (l.drop (Lib.decodeL l).2) (by omega)
      simp only [List.map_cons, List.sum_cons]
      refine ⟨by omega, fun e => ?_⟩
      have h1 : lenOf ((Lib.decodeL l).1 : Int) = ((Lib.decodeL l).2 : Int) := by omega
      have h2 := ih.2 (by omega)
      unfold encAll at h2 ⊢
      rw [List.flatMap_cons, h2, Lib.encode_decode l hl (hd.2.2 h1), List.take_append_drop]
theorem tb {z : Int} (h0 : 0 ≤ z) (h1 : z < 256) : (z.toNat.toUInt8).toNat = z.toNat := by
  have : z.toNat < 256 := by omega
  simp
  omega
theorem decode_encode (r : Int) (t : List UInt8) (h : VR r) : Lib.decodeL (Lib.encodeRune r ++ t) = (r.toNat, (Lib.encodeRune r).length) := by
  unfold VR at h
  rw [Lib.decodeL_N]
  unfold Lib.encodeRune
  by_cases a : r < 128
  · rw [Lib.encodeRuneZ_one (by omega) (by omega)]
    simp only [List.map_cons, List.map_nil, List.cons_append, List.nil_append, List.getD_cons_zero, List.length_cons, List.length_nil]
    rw [tb (by omega) (by omega)]
    unfold Lib.decodeN
    rw [if_pos (by omega)]
  by_cases b : r < 2048
  · rw [Lib.encodeRuneZ_two (by omega) (by omega)]
    simp only [List.map_cons, List.map_nil, List.cons_append, List.nil_append, List.getD_cons_zero, List.getD_cons_succ, List.length_cons, List.length_nil]
    rw [tb (by omega) (by omega), tb (by omega) (by omega)]
    unfold Lib.decodeN
    rw [if_neg (by omega), if_pos (by omega), if_pos (by omega)]
    refine Prod.ext ?_ rfl
    show _ = r.toNat
    omega
  by_cases c : r < 65536
  · rw [Lib.encodeRuneZ_three (by omega)]
    simp only [List.map_cons, List.map_nil, List.cons_append, List.nil_append, List.getD_cons_zero, List.getD_cons_succ, List.length_cons, List.length_nil]
    rw [tb (by omega) (by omega), tb (by omega) (by omega), tb (by omega) (by omega)]
    unfold Lib.decodeN
    rw [if_neg (by omega), if_neg (by omega), if_pos (by omega), if_pos (by omega)]
    refine Prod.ext ?_ rfl
    show _ = r.toNat
    omega
  · rw [Lib.encodeRuneZ_four (by omega) (by omega)]
    simp only [List.map_cons, List.map_nil, List.cons_append, List.nil_append, List.getD_cons_zero, List.getD_cons_succ, List.length_cons, List.length_nil]
    rw [tb (by omega) (by omega), tb (by omega) (by omega), tb (by omega) (by omega), tb (by omega) (by omega)]
    unfold Lib.decodeN
    rw [if_neg (by omega), if_neg (by omega), if_neg (by omega), if_pos (by omega), if_pos (by omega)]
    refine Prod.ext ?_ rfl
    show _ = r.toNat
    omega
theorem runes_enc : ∀ (rs : List Int) (n : Nat), (encAll rs).length ≤ n → (∀ r ∈ rs, VR r) → runesD n (encAll rs) = rs
  | [], n, _, _ => by cases n <;> simp [runesD, encAll]
  | r :: rs, n, hn, h => by
    have hr := h r (List.mem_cons_self ..)
    have e : encAll (r :: rs) = Lib.encodeRune r ++ encAll rs := rfl
    have hl := enc_length r
    rw [e] at hn ⊢
    rw [List.length_append] at hn
    obtain ⟨n, rfl⟩ : ∃ m, n = m + 1 := ⟨n - 1, by omega⟩
    have hne : Lib.encodeRune r ++ encAll rs ≠ [] := by
      intro e
      have := congrArg List.length e
      rw [List.length_append, List.length_nil] at this
      omega
    rw [runesD_succ, if_neg hne, decode_encode r _ hr]
    simp only
    rw [List.drop_left, runes_enc rs n (by omega) (fun x hx => h x (List.mem_cons_of_mem _ hx))]
    have : (r.toNat : Int) = r := by unfold VR at hr; omega
    rw [this]
theorem units_text : ∀ (n : Nat) (l : List Int), l.length ≤ n → (∀ x ∈ l, 0 ≤ x ∧ x ≤ 65535) → (textAll l).2 = false → (∀ r ∈ (textAll l).1, VR r) ∧ unitsAll (textAll l).1 = l
  | 0, l, hn, _, _ => by
    have : l = [] := List.length_eq_zero_iff.1 (by omega)
    subst this
    simp [textAll, unitsAll]
  | n + 1, [], _, _, _ => by simp [textAll, unitsAll]
  | n + 1, c :: rest, hn, hw, hf => by
    have hc := hw c (List.mem_cons_self ..)
    have hwr : ∀ x ∈ rest, 0 ≤ x ∧ x ≤ 65535 := fun x hx => hw x (List.mem_cons_of_mem _ hx)
    simp only [List.length_cons] at hn
    by_cases hp : hiB c = true ∧ ∃ d r, rest = d :: r ∧ loB d = true
    · obtain ⟨h1, d, r, rfl, h2⟩ := hp
      rw [textAll_two, if_pos ⟨h1, h2⟩] at hf ⊢
      simp only at hf ⊢
      simp only [List.length_cons] at hn
      have ih := units_text n r (by omega) (fun x hx => hwr x (List.mem_cons_of_mem _ hx)) hf
      have b1 : 55296 ≤ c ∧ c < 56320 := by simpa [hiB] using h1
      have b2 : 56320 ≤ d ∧ d < 57344 := by simpa [loB] using h2
      refine ⟨fun x hx => ?_, ?_⟩
      · rcases List.mem_cons.1 hx with e | e
        · rw [e]; unfold VR comb; omega
        · exact ih.1 x e
      · have e : unitsAll (comb c d :: (textAll r).1) = unitsOf (comb c d) ++ unitsAll (textAll r).1 := rfl
        rw [e, ih.2]
        unfold unitsOf
        rw [if_neg (by unfold comb; omega)]
        have e1 : 55296 + (comb c d - 65536) / 1024 = c := by unfold comb; omega
        have e2 : 56320 + (comb c d - 65536) % 1024 = d := by unfold comb; omega
        rw [e1, e2]
        rfl
    · rw [textAll_cons c rest hp] at hf ⊢
      by_cases h1 : hiB c = true ∨ loB c = true
      · rw [if_pos h1] at hf; cases hf
      · rw [if_neg h1] at hf ⊢
        simp only at hf ⊢
        have ih := units_text n rest (by omega) hwr hf
        have b : ¬ (55296 ≤ c ∧ c < 56320) ∧ ¬ (56320 ≤ c ∧ c < 57344) := by
          refine ⟨fun e => h1 (.inl ?_), fun e => h1 (.inr ?_)⟩
          · simpa [hiB] using e
          · simpa [loB] using e
        refine ⟨fun x hx => ?_, ?_⟩
        · rcases List.mem_cons.1 hx with e | e
          · rw [e]; unfold VR; omega
          · exact ih.1 x e
        · have e : unitsAll (c :: (textAll rest).1) = unitsOf c ++ unitsAll (textAll rest).1 := rfl
          rw [e, ih.2]
          unfold unitsOf
          rw [if_pos (by omega)]
          rfl
theorem back_j2 (l : List Int) (hl : l.length < 1048577) (hw : ∀ x ∈ l, 0 ≤ x ∧ x ≤ 65535) (hf : (textAll l).2 = false) (hlen : ¬ (l.length : Int) > 16384) : Ev (fun k => canopylaw01_UnitsBack.j2 k l ⟨(encAll (textAll l).1).toArray⟩ false) true := by
  have h := units_text l.length l (by omega) hw hf
  refine Ev.step (fun _ => canopylaw01_UnitsBack.j2.eq_2 ..) (Ev.ite_neg (by simp) ?_)
  have ho := of_spec ⟨(encAll (textAll l).1).toArray⟩
  have hr : runes ⟨(encAll (textAll l).1).toArray⟩ = (textAll l).1 := by
    unfold runes
    exact runes_enc (textAll l).1 _ (Nat.le_refl _) h.1
  rw [hr, h.2, if_neg (by omega)] at ho
  refine Ev.bind ho (Ev.ite_pos rfl (Ev.bind (same_spec l l (by omega) (by omega)) ?_))
  simp
  exact Ev.now _
theorem back_j1 (l : List Int) (hl : l.length < 1048577) (hw : ∀ x ∈ l, 0 ≤ x ∧ x ≤ 65535) : Ev (fun k => canopylaw01_UnitsBack.j1 k l) true := by
  refine Ev.step (fun _ => canopylaw01_UnitsBack.j1.eq_2 ..) (Ev.bind (text_spec l hl hw) ?_)
  cases hf : (textAll l).2 with
  | true => exact Ev.ite_pos rfl (Ev.step (fun _ => canopylaw01_UnitsBack.j2.eq_2 ..) (Ev.ite_pos rfl (Ev.now _)))
  | false =>
    refine Ev.ite_neg (by simp) ?_
    by_cases hlen : (l.length : Int) > 16384
    · rw [decide_eq_true hlen]
      exact Ev.step (fun _ => canopylaw01_UnitsBack.j2.eq_2 ..) (Ev.ite_pos rfl (Ev.now _))
    · rw [decide_eq_false hlen]
      exact back_j2 l hl hw hf hlen
theorem unit_range (r : Int) (h : VR r) : ∀ x ∈ unitsOf r, 0 ≤ x ∧ x ≤ 65535 := by
  unfold VR at h
  intro x hx
  unfold unitsOf at hx
  split at hx
  · simp at hx; omega
  · simp at hx; omega
theorem back_j0 (s : ByteArray) (l : List Int) (b : Bool) (hs : s.size < 1048577) (hl : l.length < 1048577) (hw : ∀ x ∈ l, 0 ≤ x ∧ x ≤ 65535) (u : List Int) (hb : b = true → u = unitsAll (runes s) ∧ u.length ≤ 16384 ∧ ((runes s).map lenOf).sum = (s.size : Int)) : Ev (fun k => canopylaw01_UnitsBack.j0 k s l u b) true := by
  refine Ev.step (fun _ => canopylaw01_UnitsBack.j0.eq_2 ..) ?_
  cases b with
  | false => exact Ev.ite_neg (by simp) (back_j1 l hl hw)
  | true =>
    obtain ⟨rfl, h1, h2⟩ := hb rfl
    have hv : ∀ r ∈ runes s, VR r := runesD_VR _ _
    have hu : ∀ x ∈ unitsAll (runes s), 0 ≤ x ∧ x ≤ 65535 := by
      intro x hx
      obtain ⟨r, hr, hx⟩ := List.mem_flatMap.1 hx
      exact unit_range r (hv r hr) x hx
    have ht := text_spec (unitsAll (runes s)) (by omega) hu
    rw [text_units (runes s) hv] at ht
    have hsz : s.data.toList.length = s.size := by simp
    have he := (enc_runes s.size s.data.toList (by omega)).2 (by rw [hsz]; exact h2)
    refine Ev.ite_pos rfl (Ev.bind ht (Ev.ite_pos ?_ (Ev.ite_neg (by simp) (back_j1 l hl hw))))
    rw [bytes_toList, bytes_toList]
    exact he
theorem UnitsBack : ∀ (a0 : ByteArray) (l1 : List (Int)), (a0.size < 1048577) → (l1.length < 1048577 ∧ ∀ x0 ∈ l1, (Lit.int .u16 x0).wf = true) → ∃ k, canopylaw01_UnitsBack.f k a0 l1 = some true := by
  intro s l hs hl
  have hw : ∀ x ∈ l, 0 ≤ x ∧ x ≤ 65535 := fun x hx => wf_u16 (hl.2 x hx)
  refine Ev.rounds (r := true) ?_
  unfold canopylaw01_UnitsBack.f
  refine Ev.bind lives_spec (Ev.ite_pos rfl (Ev.bind (of_spec s) ?_))
  by_cases h : (unitsAll (runes s)).length > 16384
  · rw [if_pos h]
    exact Ev.ite_neg (by decide) (back_j0 s l false hs hl.1 hw _ (by simp))
  · rw [if_neg h]
    refine Ev.ite_pos rfl (Ev.bind (valid_spec s hs) (back_j0 s l _ hs hl.1 hw _ (fun e => ⟨rfl, Nat.le_of_not_lt h, ?_⟩)))
    simpa using e
end Go.Proofs.Ytgjifcflkcpnlaa.Pure
