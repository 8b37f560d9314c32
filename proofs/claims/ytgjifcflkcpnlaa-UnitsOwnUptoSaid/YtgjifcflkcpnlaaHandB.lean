/- The functions units.Text and canopyref01.Text, as plain Lean functions, with a proof that the Go code comes to their answers. -/
import Derived.Test.YtgjifcflkcpnlaaHandW
import Derived.Test.YtgjifcflkcpnlaaShelf
import Derived.Test.YtgjifcflkcpnlaaP1
namespace Go.Proofs.Ytgjifcflkcpnlaa.P
open Go.RowKit Go.Proofs.YtgjifcflkcpnlaaW.PrintWords Go.Proofs.YtgjifcflkcpnlaaW.PrintLast Go.Proofs.YtgjifcflkcpnlaaW.PrintMore
set_option linter.unusedVariables false
set_option linter.unusedSimpArgs false

set_option maxHeartbeats 1000000 in
set_option maxRecDepth 100000 in
theorem copyCheck_used (b : Nat) (w : World) (h0 : w.cell? ⟨b, 0, none⟩ = some (.pointer (some ⟨b, 0, none⟩))) :
    Calls Try.prog 50 #[.pointer (some ⟨b, 0, none⟩)] w fun e w' => e = .returned (.tuple #[]) ∧ w' = w := by
  obtain ⟨j, hj, _⟩ := Option.map_eq_some_iff.1 Try.Builder_Extra_169.sizeBuilder
  go_enter Try.func50, Try.ntmps50
  go_wp2
  rw [Lib.run_neq_ptr_same w _ Try.underlying55 hj]
  go_wp2
  go_end0
  exact ⟨rfl, rfl⟩

set_option maxHeartbeats 1000000 in
set_option maxRecDepth 100000 in
theorem copyCheck_fresh (b : Nat) (w : World) (h0 : w.cell? ⟨b, 0, none⟩ = some (.pointer none)) (hsh : w.shape? b = some (58, 2)) (hfz : w.frozen? ⟨b, 0, none⟩ = false) :
    Calls Try.prog 50 #[.pointer (some ⟨b, 0, none⟩)] w fun e w' => e = .returned (.tuple #[]) ∧ w' = w.setCell ⟨b, 0, none⟩ (.pointer (some ⟨b, 0, none⟩)) := by
  obtain ⟨j, hj, hjs⟩ := Option.map_eq_some_iff.1 Try.Builder_Extra_169.sizeBuilder
  go_enter Try.func50, Try.ntmps50
  go_wp2
  rw [Lib.run_to_unsafe w ⟨b, 0, none⟩ Try.underlying55 Try.underlying77 hj (by rw [hjs]; decide) hsh (Nat.zero_lt_succ 1)]
  simp only [Result.andThen]
  rw [Oper.upon_value]
  go_wp2
  rw [run_callFunc_extern Try.func54 (by kernel_rfl) (by kernel_rfl) (by kernel_rfl) (e := Extern.AbiNoEscape.same) (by kernel_rfl)]
  rw [Lib.run_noEscape]
  simp only [Result.andThen]
  rw [Oper.upon_value]
  go_wp2
  rw [Lib.run_from_unsafe w ⟨b, 0, none⟩ Try.underlying77 Try.underlying55 hj hsh Try.Builder_Extra_169.liesBuilder]
  simp only [Result.andThen]
  rw [Oper.upon_value]
  go_wp2
  go_end0
  exact ⟨rfl, rfl⟩

theorem copyCheck_k (B b : Nat) (bs : List Value) (w : World) (h : Lib.IsBuilderF 58 5 B b bs w) :
    Calls Try.prog 50 #[.pointer (some ⟨b, 0, none⟩)] w fun e w' => e = .returned (.tuple #[]) ∧ (Lib.BuilderAtF 58 5 B b (.pointer (some ⟨b, 0, none⟩)) bs w' ∧ Below B w w' ∧ Lib.OthersKept 5 (some b) w w') := by
  rcases h with h | h
  · refine (copyCheck_fresh b w h.cell0 h.shape h.frozen0).mono ?_
    rintro e w' ⟨rfl, rfl⟩
    exact ⟨rfl, h.used _, (Below.refl B w).setCell (p := ⟨b, 0, none⟩) h.1 _, (Lib.OthersKept.refl _ _ w).setCell ⟨b, 0, none⟩ rfl _⟩
  · refine (copyCheck_used b w h.cell0).mono ?_
    rintro e w' ⟨rfl, rfl⟩
    exact ⟨rfl, h, Below.refl B _, Lib.OthersKept.refl _ _ _⟩

set_option maxHeartbeats 4000000 in
set_option maxRecDepth 100000 in
theorem writeRune (B b : Nat) (bs : List Value) (r : Int) (hr0 : -2147483648 ≤ r) (hr1 : r ≤ 2147483647) (w : World) (h : Lib.IsBuilderF 58 5 B b bs w) (hlen : bs.length + 4 ≤ 140737488355328) (hBw : B ≤ w.heap.size) :
    Calls Try.prog 42 #[.pointer (some ⟨b, 0, none⟩), .int .i32 r] w fun e w' => e = .returned (.tuple #[.int .i64 (Lib.runeCells r).length, .nilIface]) ∧ (Lib.BuilderAtF 58 5 B b (.pointer (some ⟨b, 0, none⟩)) (bs ++ Lib.runeCells r) w' ∧ Below B w w' ∧ Lib.OthersKept 5 (some b) w w') := by
  have hk4 := Lib.runeCells_le r
  go_enter Try.func42, Try.ntmps42
  go_wp2_with (go_at_call 50; refine (copyCheck_k B b bs _ h).mono ?_)
  rintro e w1 ⟨rfl, h1, hb1, hk1⟩
  obtain ⟨hB, v, hbk, hown, hne⟩ := h1
  obtain ⟨ao, cap, rfl⟩ : ∃ ao cap, v = .slice ao bs.length cap := by
    rcases hown.2 with ⟨hv, h0⟩ | ⟨g, cap, cur, fz, hv, _⟩
    · exact ⟨none, 0, by rw [hv, h0]⟩
    · exact ⟨_, _, hv⟩
  have c0 : w1.cell? ⟨b, 0, none⟩ = some (.pointer (some ⟨b, 0, none⟩)) := by rw [Lib.cell_of_heap hbk]; rfl
  have c1 : w1.cell? ⟨b, 1, none⟩ = some (.slice ao bs.length cap) := by rw [Lib.cell_of_heap hbk]; rfl
  go_wp2_with (go_at_call 51; refine (Try.utf8_AppendRune_row B _ bs.length bs r hr0 hr1 _ hown hlen (by have := hb1.size; omega)).mono ?_)
  rintro e w2 ⟨v', rfl, hown', o, hgrow⟩
  have hlt : b < w1.heap.size := by
    rcases Nat.lt_or_ge b w1.heap.size with h' | h'
    · exact h'
    · simp [Array.getElem?_eq_none h'] at hbk
  have hb2 : w2.heap[b]? = some (.cells #[.pointer (some ⟨b, 0, none⟩), .slice ao bs.length cap] 58 (0, 0)) := by
    rw [hgrow.block b (by simp; omega) (fun e => hne e.symm), Lib.alloc_old w1 _ b hlt]
    exact hbk
  have d0 : w2.cell? ⟨b, 0, none⟩ = some (.pointer (some ⟨b, 0, none⟩)) := by rw [Lib.cell_of_heap hb2]; rfl
  have d1 : w2.cell? ⟨b, 1, none⟩ = some (.slice ao bs.length cap) := by rw [Lib.cell_of_heap hb2]; rfl
  have f1 : w2.frozen? ⟨b, 1, none⟩ = false := Lib.frozen_of_heap hb2 1
  obtain ⟨g, cap', rfl⟩ : ∃ g cap', v' = .slice (some ⟨g, 0, none⟩) (bs.length + (Lib.runeCells r).length) cap' := by
    rcases hown'.2 with ⟨_, h0⟩ | ⟨g, cap', cur, fz, hv, _⟩
    · omega
    · exact ⟨g, cap', hv⟩
  go_wp2
  go_ret2
  refine ⟨?_, ?_, ?_, ((hk1.alloc _).grown hgrow (Lib.ownsRowF_kind (hown.alloc _))).setCell ⟨b, 1, none⟩ rfl _⟩
  · have e : ((bs.length : Int) + ((Lib.runeCells r).length : Int) - (bs.length : Int)) = ((Lib.runeCells r).length : Int) := by omega
    simp [e]
  · exact Lib.BuilderAtF.put (T := 58) (e := 5) hB hb2 (bs' := bs ++ Lib.runeCells r) (by simpa using hown') (by decide)
  · exact ((hb1.alloc (by have := hb1.size; omega) _).grown hgrow (by have := hb1.size; simp; omega) (fun k hk => (hown.lt k hk).1)).setCell (p := ⟨b, 1, none⟩) hB _

def hiB (c : Int) : Bool := decide (55296 ≤ c) && decide (c < 56320)
def loB (c : Int) : Bool := decide (56320 ≤ c) && decide (c < 57344)
theorem isHigh_eq (c : Int) : units_isHigh.f c = some (hiB c) := by
  unfold units_isHigh.f hiB
  by_cases h : c ≥ 55296
  · rw [if_pos h, decide_eq_true (show 55296 ≤ c from h), Bool.true_and]
  · rw [if_neg h, decide_eq_false (show ¬ 55296 ≤ c from h), Bool.false_and]
theorem isLow_eq (c : Int) : units_isLow.f c = some (loB c) := by
  unfold units_isLow.f loB
  by_cases h : c ≥ 56320
  · rw [if_pos h, decide_eq_true (show 56320 ≤ c from h), Bool.true_and]
  · rw [if_neg h, decide_eq_false (show ¬ 56320 ≤ c from h), Bool.false_and]

/-- one step of Text: the rune at i, whether it stands alone, and where the next begins -/
def textStep (l : List Int) (i : Int) : Int × Bool × Int :=
  if hiB (rd l i) = true ∧ i + 1 < (l.length : Int) ∧ loB (rd l (i + 1)) = true then (65536 + (rd l i - 55296) * 1024 + rd l (i + 1) - 56320, false, i + 2)
  else if hiB (rd l i) = true ∨ loB (rd l i) = true then (65533, true, i + 1)
  else (rd l i, false, i + 1)

def units_Text.l0 : Nat → List Int → Int → Bool → List UInt8 → Option (ByteArray × Bool)
  | 0, _, _, _, _ => none
  | k + 1, l, i, alone, out => if i < (l.length : Int) then
      (if out.length < 140737488355000 ∧ l.length < 70368744177664 ∧ 0 ≤ i ∧ (0 ≤ rd l i ∧ rd l i < 65536) ∧ 0 ≤ rd l (i + 1) ∧ rd l (i + 1) < 65536 then units_Text.l0 k l (textStep l i).2.2 (alone || (textStep l i).2.1) (out ++ Lib.encodeRune (textStep l i).1) else none)
    else some (⟨out.toArray⟩, alone)
def units_Text.f (k : Nat) (l0 : List Int) : Option (ByteArray × Bool) := units_Text.l0 k l0 0 false []
theorem units_Text.mono_l : ∀ k l i alone out, LeO (units_Text.l0 k l i alone out) (units_Text.l0 (k + 1) l i alone out)
  | 0 => fun _ _ _ _ r h => by simp [units_Text.l0] at h
  | k + 1 => fun l i alone out => by
    unfold units_Text.l0
    exact LeO.ite (LeO.ite (units_Text.mono_l k _ _ _ _) (LeO.refl _)) (LeO.refl _)
theorem units_Text.mono : ∀ a0 k, LeO (units_Text.f k a0) (units_Text.f (k + 1) a0) := fun a0 k => units_Text.mono_l k _ _ _ _

theorem builder_drewN {T e B b : Nat} {bs : List Value} {w : World} (h : Lib.IsBuilderF T e B b bs w) (n : Nat) : Lib.IsBuilderF T e B b bs (w.drewN n) := h

set_option maxHeartbeats 1000000 in
set_option maxRecDepth 100000 in
theorem units_Text.calls (k : Nat) (A0 : Option Addr) (c0 : Nat) (l0 : List Int) (r1 : ByteArray) (r2 : Bool) (w : World) (hr0 : Kd.C (Kd.int .u16) w A0 l0.length l0) (hc0 : l0.length ≤ c0) (h : units_Text.f k l0 = some (r1, r2)) :
    Calls Try.prog 13 #[.slice A0 l0.length c0] w fun e w' => e = .returned (.tuple #[.string r1, .bool r2]) ∧ Below w.heap.size w w' := by
  have HR0 := Aside0.mk hr0
  have HC0 := Aside0.mk hc0
  have HH : Aside0 (units_Text.l0 k l0 0 false [] = some (r1, r2)) := ⟨h⟩
  clear hr0 hc0 h
  go_enter Try.func13, Try.ntmps13
  go_wp2
  go_loopg [5, 6] k (fun kq v5 v6 wr => ∃ (i : Int) (alone : Bool) (out : List UInt8), v5 = .bool alone ∧ v6 = .int .i64 i ∧ Aside0 (units_Text.l0 kq l0 i alone out = some (r1, r2)) ∧ Aside0 (Lib.IsBuilderF 58 5 w.heap.size w.heap.size (Lib.byteCells out) wr) ∧ Aside0 (Below w.heap.size w wr))
  case atStart => exact ⟨0, false, [], rfl, rfl, HH, ⟨Lib.IsBuilderF.of (Lib.fresh_isBuilder 58 5 w)⟩, ⟨(Below.refl _ _).alloc (Nat.le_refl _) _⟩⟩
  case round =>
    clear HH
    obtain ⟨i, alone, out, rfl, rfl, HA, HI, HB⟩ := hrel
    cases gk with
    | zero => exact absurd HA.out (by simp [units_Text.l0])
    | succ k1 =>
      have H := HA.out
      clear HA
      simp only [units_Text.l0] at H
      by_cases hp : i < (l0.length : Int)
      · rw [if_pos hp] at H
        by_cases hlim : out.length < 140737488355000 ∧ l0.length < 70368744177664 ∧ 0 ≤ i ∧ (0 ≤ rd l0 i ∧ rd l0 i < 65536) ∧ 0 ≤ rd l0 (i + 1) ∧ rd l0 (i + 1) < 65536
        · rw [if_pos hlim] at H
          obtain ⟨hl1, hl2, hi0, ⟨hu0, hu1⟩, hv0, hv1⟩ := hlim
          have HL1 := Aside0.mk hl1
          have hpd : decide (i < (l0.length : Int)) = true := decide_eq_true hp
          have HRr := Aside0.mk (Kd.C_below HR0.out HB.out)
          obtain ⟨ad, rfl, hx⟩ := Kd.at_int HRr.out i hi0 hp
          have hisz : w.heap.size ≤ wr.heap.size := HB.out.size
          by_cases h1 : hiB (rd l0 i) = true
          · have F1 := Aside0.mk ((isHigh_eq (rd l0 i)).trans (congrArg some h1))
            by_cases h2 : i + 1 < (l0.length : Int)
            · have h2d : decide (i + 1 < (l0.length : Int)) = true := decide_eq_true h2
              obtain ⟨ad2, e2, hx2⟩ := Kd.at_int HRr.out (i + 1) (by omega) h2
              cases e2
              by_cases h3 : loB (rd l0 (i + 1)) = true
              · have F2 := Aside0.mk ((isLow_eq (rd l0 (i + 1))).trans (congrArg some h3))
                have hst : textStep l0 i = (65536 + (rd l0 i - 55296) * 1024 + rd l0 (i + 1) - 56320, false, i + 2) := by unfold textStep; rw [if_pos ⟨h1, h2, h3⟩]
                have hb1 : 55296 ≤ rd l0 i ∧ rd l0 i < 56320 := by simpa [hiB] using h1
                have hb2 : 56320 ≤ rd l0 (i + 1) ∧ rd l0 (i + 1) < 57344 := by simpa [loB] using h3
                obtain ⟨q1, q2⟩ := hb1
                obtain ⟨q3, q4⟩ := hb2
                rw [hst, Bool.or_false] at H
                have H' := Aside0.mk H
                clear H hst
                go_wp2_with (first | (go_at_call 40; (with_reducible refine (units_isHigh.calls (rd l0 i) true _ F1.out).mono ?_); rintro e w' ⟨rfl, ⟨nd, rfl⟩⟩) | (go_at_call 41; (with_reducible refine (units_isLow.calls (rd l0 (i + 1)) true _ F2.out).mono ?_); rintro e w' ⟨rfl, ⟨nd, rfl⟩⟩) | (go_at_call 42; refine (writeRune w.heap.size w.heap.size _ (65536 + (rd l0 i - 55296) * 1024 + rd l0 (i + 1) - 56320) (by omega) (by omega) _ (by exact HI.out) (by rw [Lib.byteCells_length]; have := HL1.out; omega) (by exact hisz)).mono ?_; rintro e W1 ⟨rfl, g1, b1, ok1⟩))
                go_roundg k1
                case measure => omega
                case rel =>
                  refine ⟨_, _, out ++ Lib.encodeRune (65536 + (rd l0 i - 55296) * 1024 + rd l0 (i + 1) - 56320), rfl, rfl, ?_, ⟨?_⟩, ⟨HB.out.trans ((pw_below_drewN (Below.refl _ _) _).trans b1)⟩⟩
                  · have H2 := H'.out
                    first | exact ⟨H2⟩ | (refine ⟨?_⟩; rw [show i + 1 + 1 = i + 2 from by omega]; exact H2)
                  · rw [Lib.byteCells_append, Lib.byteCells_encodeRune]; exact Or.inr g1
              · have F2 := Aside0.mk ((isLow_eq (rd l0 (i + 1))).trans (congrArg some (Bool.eq_false_iff.mpr h3)))
                have hst : textStep l0 i = (65533, true, i + 1) := by unfold textStep; rw [if_neg (fun h => h3 h.2.2), if_pos (.inl h1)]
                rw [hst, Bool.or_true] at H
                clear h1 h3
                have H' := Aside0.mk H
                clear H hst
                go_wp2_with (first | (go_at_call 40; (with_reducible refine (units_isHigh.calls (rd l0 i) true _ F1.out).mono ?_); rintro e w' ⟨rfl, ⟨nd, rfl⟩⟩) | (go_at_call 41; (with_reducible refine (units_isLow.calls (rd l0 (i + 1)) false _ F2.out).mono ?_); rintro e w' ⟨rfl, ⟨nd, rfl⟩⟩) | (go_at_call 42; refine (writeRune w.heap.size w.heap.size _ (65533) (by omega) (by omega) _ (by exact HI.out) (by rw [Lib.byteCells_length]; have := HL1.out; omega) (by exact hisz)).mono ?_; rintro e W1 ⟨rfl, g1, b1, ok1⟩))
                go_roundg k1
                case measure => omega
                case rel =>
                  refine ⟨_, _, out ++ Lib.encodeRune (65533), rfl, rfl, ?_, ⟨?_⟩, ⟨HB.out.trans ((pw_below_drewN (Below.refl _ _) _).trans b1)⟩⟩
                  · have H2 := H'.out
                    first | exact ⟨H2⟩ | (refine ⟨?_⟩; rw [show i + 1 + 1 = i + 2 from by omega]; exact H2)
                  · rw [Lib.byteCells_append, Lib.byteCells_encodeRune]; exact Or.inr g1
            · have h2d : decide (i + 1 < (l0.length : Int)) = false := decide_eq_false h2
              have hst : textStep l0 i = (65533, true, i + 1) := by unfold textStep; rw [if_neg (fun h => h2 h.2.1), if_pos (.inl h1)]
              rw [hst, Bool.or_true] at H
              clear h1 h2
              have H' := Aside0.mk H
              clear H hst
              go_wp2_with (first | (go_at_call 40; (with_reducible refine (units_isHigh.calls (rd l0 i) true _ F1.out).mono ?_); rintro e w' ⟨rfl, ⟨nd, rfl⟩⟩) | (go_at_call 42; refine (writeRune w.heap.size w.heap.size _ (65533) (by omega) (by omega) _ (by exact HI.out) (by rw [Lib.byteCells_length]; have := HL1.out; omega) (by exact hisz)).mono ?_; rintro e W1 ⟨rfl, g1, b1, ok1⟩))
              go_roundg k1
              case measure => omega
              case rel =>
                refine ⟨_, _, out ++ Lib.encodeRune (65533), rfl, rfl, ?_, ⟨?_⟩, ⟨HB.out.trans ((pw_below_drewN (Below.refl _ _) _).trans b1)⟩⟩
                · have H2 := H'.out
                  first | exact ⟨H2⟩ | (refine ⟨?_⟩; rw [show i + 1 + 1 = i + 2 from by omega]; exact H2)
                · rw [Lib.byteCells_append, Lib.byteCells_encodeRune]; exact Or.inr g1
          · have F1 := Aside0.mk ((isHigh_eq (rd l0 i)).trans (congrArg some (Bool.eq_false_iff.mpr h1)))
            by_cases h3 : loB (rd l0 i) = true
            · have F2 := Aside0.mk ((isLow_eq (rd l0 i)).trans (congrArg some h3))
              have hst : textStep l0 i = (65533, true, i + 1) := by unfold textStep; rw [if_neg (fun h => h1 h.1), if_pos (.inr h3)]
              rw [hst, Bool.or_true] at H
              clear h1 h3
              have H' := Aside0.mk H
              clear H hst
              go_wp2_with (first | (go_at_call 40; (with_reducible refine (units_isHigh.calls (rd l0 i) false _ F1.out).mono ?_); rintro e w' ⟨rfl, ⟨nd, rfl⟩⟩) | (go_at_call 41; (with_reducible refine (units_isLow.calls (rd l0 i) true _ F2.out).mono ?_); rintro e w' ⟨rfl, ⟨nd, rfl⟩⟩) | (go_at_call 42; refine (writeRune w.heap.size w.heap.size _ (65533) (by omega) (by omega) _ (by exact HI.out) (by rw [Lib.byteCells_length]; have := HL1.out; omega) (by exact hisz)).mono ?_; rintro e W1 ⟨rfl, g1, b1, ok1⟩))
              go_roundg k1
              case measure => omega
              case rel =>
                refine ⟨_, _, out ++ Lib.encodeRune (65533), rfl, rfl, ?_, ⟨?_⟩, ⟨HB.out.trans ((pw_below_drewN (Below.refl _ _) _).trans b1)⟩⟩
                · have H2 := H'.out
                  first | exact ⟨H2⟩ | (refine ⟨?_⟩; rw [show i + 1 + 1 = i + 2 from by omega]; exact H2)
                · rw [Lib.byteCells_append, Lib.byteCells_encodeRune]; exact Or.inr g1
            · have F2 := Aside0.mk ((isLow_eq (rd l0 i)).trans (congrArg some (Bool.eq_false_iff.mpr h3)))
              have hst : textStep l0 i = (rd l0 i, false, i + 1) := by unfold textStep; rw [if_neg (fun h => h1 h.1), if_neg (fun h => h.elim h1 h3)]
              rw [hst, Bool.or_false] at H
              clear h1 h3
              have H' := Aside0.mk H
              clear H hst
              go_wp2_with (first | (go_at_call 40; (with_reducible refine (units_isHigh.calls (rd l0 i) false _ F1.out).mono ?_); rintro e w' ⟨rfl, ⟨nd, rfl⟩⟩) | (go_at_call 41; (with_reducible refine (units_isLow.calls (rd l0 i) false _ F2.out).mono ?_); rintro e w' ⟨rfl, ⟨nd, rfl⟩⟩) | (go_at_call 42; refine (writeRune w.heap.size w.heap.size _ (rd l0 i) (by omega) (by omega) _ (by exact HI.out) (by rw [Lib.byteCells_length]; have := HL1.out; omega) (by exact hisz)).mono ?_; rintro e W1 ⟨rfl, g1, b1, ok1⟩))
              go_roundg k1
              case measure => omega
              case rel =>
                refine ⟨_, _, out ++ Lib.encodeRune (rd l0 i), rfl, rfl, ?_, ⟨?_⟩, ⟨HB.out.trans ((pw_below_drewN (Below.refl _ _) _).trans b1)⟩⟩
                · have H2 := H'.out
                  first | exact ⟨H2⟩ | (refine ⟨?_⟩; rw [show i + 1 + 1 = i + 2 from by omega]; exact H2)
                · rw [Lib.byteCells_append, Lib.byteCells_encodeRune]; exact Or.inr g1
        · rw [if_neg hlim] at H
          exact absurd H (by simp)
      · rw [if_neg hp] at H
        simp only [Option.some.injEq, Prod.mk.injEq] at H
        obtain ⟨rfl, rfl⟩ := H
        have hpd : decide (i < (l0.length : Int)) = false := decide_eq_false hp
        go_wp2_with (go_at_call 43; refine (Try.Builder_String_any_k w.heap.size w.heap.size out _ HI.out HB.out.size).mono ?_; rintro e W1 ⟨rfl, _, b1, _⟩)
        go_ret2
        exact ⟨rfl, HB.out.trans b1⟩
end Go.Proofs.Ytgjifcflkcpnlaa.P
