/- The functions units.Lower, Split, Collapse and Set, as plain Lean functions, with a proof that the Go code comes to their answers. -/
import Derived.Test.YtgjifcflkcpnlaaHandW
import Derived.Test.YtgjifcflkcpnlaaShelf
import Derived.Lib.ConvBytes
namespace Go.Proofs.Ytgjifcflkcpnlaa.P
open Go.RowKit Go.Proofs.YtgjifcflkcpnlaaW.PrintWords Go.Proofs.YtgjifcflkcpnlaaW.PrintLast Go.Proofs.YtgjifcflkcpnlaaW.PrintMore
set_option linter.unusedVariables false
set_option linter.unusedSimpArgs false

/-- block b is a row of bytes that came of a string: none of its cells is frozen -/
def Row8 (W : World) (b : Nat) (xs : List Int) : Prop := ∃ cs : Array Value, W.heap[b]? = some (.cells cs 5 (cs.size, cs.size + 1)) ∧ ∀ j, j < xs.length → cs[j]? = some (.int .u8 (xs.getD j 0))
theorem Row8.cell {W : World} {b : Nat} {xs : List Int} (h : Row8 W b xs) (j : Nat) (hj : j < xs.length) : W.cell? ⟨b, j, none⟩ = some (.int .u8 (xs.getD j 0)) ∧ W.frozen? ⟨b, j, none⟩ = false := by
  obtain ⟨cs, hb, hc⟩ := h
  have hlt := (Array.getElem?_eq_some_iff.1 (hc j hj)).1
  refine ⟨by rw [Lib.cell_of_heap hb]; exact hc j hj, ?_⟩
  simp [World.frozen?, hb]
  omega
theorem Row8.set {W : World} {b : Nat} {xs : List Int} (h : Row8 W b xs) (j : Nat) (x : Int) : Row8 (W.setCell ⟨b, j, none⟩ (.int .u8 x)) b (xs.set j x) := by
  obtain ⟨cs, hb, hc⟩ := h
  refine ⟨cs.setIfInBounds j (.int .u8 x), ?_, ?_⟩
  · have hlt := (Array.getElem?_eq_some_iff.1 hb).1
    simp [World.setCell, Array.getElem?_modify, hb]
  · intro i hi
    rw [List.length_set] at hi
    rw [Array.getElem?_setIfInBounds]
    have h1 := hc i hi
    by_cases e : j = i
    · subst e
      have hlt := (Array.getElem?_eq_some_iff.1 h1).1
      simp [hlt, List.getD_eq_getElem?_getD, hi]
    · rw [if_neg e, h1, List.getD_eq_getElem?_getD, List.getD_eq_getElem?_getD, List.getElem?_set_ne e]
theorem to_bytes (w : World) (s : ByteArray) : ∃ (W : World) (c : Nat), (convert 9 56 (.string s)).run Try.prog w = .ok (.slice (some ⟨w.heap.size, 0, none⟩) s.size c) W ∧ Row8 W w.heap.size (bytesOf s) ∧ Below w.heap.size w W := by
  refine ⟨Lib.bytesWorld w 5 s, grownCap w s.size 0 5, Lib.run_convert_string_bytes w 9 56 5 s Try.underlying9 Try.underlying56 Try.underlying5, ⟨Lib.bytesCells w 5 s, Lib.bytesWorld_at_new w 5 s, ?_⟩, ?_⟩
  · intro j hj
    rw [bytesOf_length] at hj
    have h1 := Lib.bytesWorld_cell w 5 s j hj
    rw [Lib.cell_of_heap (Lib.bytesWorld_at_new w 5 s)] at h1
    rw [h1]
    simp [bytesOf, List.getD_eq_getElem?_getD]
    cases s.data[j]? <;> simp
  · exact ⟨rfl, rfl, rfl, by rw [Lib.bytesWorld_size]; omega, fun i hi => Lib.bytesWorld_at_old w 5 s i hi⟩

def lowB (x : Int) : Int := if 65 ≤ x ∧ x ≤ 90 then x + 32 else x
/-- the bytes, the first i of them lowered -/
def mixed (bs : List Int) (i : Nat) : List Int := (bs.take i).map lowB ++ bs.drop i
theorem mixed_length (bs : List Int) (i : Nat) : (mixed bs i).length = bs.length := by simp [mixed]; omega
theorem mixed_get (bs : List Int) (i : Nat) (h : i < bs.length) : (mixed bs i).getD i 0 = bs.getD i 0 := by
  have hl : ((bs.take i).map lowB).length = i := by simp; omega
  unfold mixed
  rw [List.getD_eq_getElem?_getD, List.getElem?_append_right (by omega), hl, Nat.sub_self, List.getElem?_drop, Nat.add_zero, List.getD_eq_getElem?_getD]
theorem mixed_succ (bs : List Int) (i : Nat) (h : i < bs.length) : (mixed bs i).set i (lowB (bs.getD i 0)) = mixed bs (i + 1) := by
  have hl : ((bs.take i).map lowB).length = i := by simp; omega
  have hg : bs.getD i 0 = bs[i] := by simp [List.getD_eq_getElem?_getD, h]
  unfold mixed
  rw [List.set_append_right _ _ (by omega), hl, Nat.sub_self, List.drop_eq_getElem_cons h, List.set_cons_zero, List.take_succ_eq_append_getElem h, hg, List.map_append, List.append_assoc]
  rfl
theorem mixed_same (bs : List Int) (i : Nat) (h : i < bs.length) (he : lowB (bs.getD i 0) = bs.getD i 0) : mixed bs i = mixed bs (i + 1) := by
  rw [← mixed_succ bs i h, he, ← mixed_get bs i h, List.getD_eq_getElem?_getD]
  rw [List.getElem?_eq_getElem (by rw [mixed_length]; exact h), Option.getD_some, List.set_getElem_self]
theorem bytesOf_range (s : ByteArray) (i : Nat) : 0 ≤ (bytesOf s).getD i 0 ∧ (bytesOf s).getD i 0 ≤ 255 := by
  unfold bytesOf
  rw [List.getD_eq_getElem?_getD, List.getElem?_map]
  cases s.data.toList[i]? with
  | none => simp
  | some b => simp; have := b.toNat_lt; omega

def units_Lower.f (a0 : ByteArray) : Option ByteArray := if a0.size ≤ 140737488355328 then some (strOfNums ((bytesOf a0).map lowB)) else none

set_option maxHeartbeats 1000000 in
set_option maxRecDepth 100000 in
theorem units_Lower.calls (a0 : ByteArray) (r : ByteArray) (w : World) (h : units_Lower.f a0 = some r) :
    Calls Try.prog 30 #[.string a0] w fun e w' => e = .returned (.string r) ∧ Below w.heap.size w w' := by
  unfold units_Lower.f at h
  by_cases hs : a0.size ≤ 140737488355328
  · rw [if_pos hs] at h
    obtain rfl := Option.some.inj h
    go_enter Try.func30, Try.ntmps30
    obtain ⟨W, c, hcv, hrow, hbel⟩ := to_bytes w a0
    go_wp2
    go_loopg [10] (a0.size + 1) (fun kq v10 wr => ∃ i : Nat, v10 = .int .i64 i ∧ Aside0 (i + kq = a0.size + 1) ∧ Aside0 (Row8 wr w.heap.size (mixed (bytesOf a0) i)) ∧ Aside0 (Below w.heap.size w wr))
    case atStart => exact ⟨0, rfl, ⟨by omega⟩, ⟨by simpa [mixed] using hrow⟩, ⟨hbel⟩⟩
    case round =>
      clear hrow hbel
      obtain ⟨i, rfl, HA, HR, HB⟩ := hrel
      have hA := HA.out
      by_cases hi : i < a0.size
      · have hid : decide ((i : Int) < (a0.size : Int)) = true := decide_eq_true (by omega)
        have hid2 : decide (i < a0.size) = true := decide_eq_true hi
        have hbl : (bytesOf a0).length = a0.size := bytesOf_length a0
        obtain ⟨hc, hf⟩ := HR.out.cell i (by rw [mixed_length, hbl]; exact hi)
        rw [mixed_get _ _ (by omega)] at hc
        have hr := bytesOf_range a0 i
        have hm1 := mixed_succ (bytesOf a0) i (by omega)
        have hm2 := mixed_same (bytesOf a0) i (by omega)
        have HM1 := Aside0.mk hm1
        have HM2 := Aside0.mk hm2
        clear hm1 hm2 hbl HA
        generalize hx : (bytesOf a0).getD i 0 = x at *
        have HX := Aside0.mk hx
        clear hx
        obtain ⟨hr0, hr1⟩ := hr
        obtain ⟨gk, rfl⟩ : ∃ g, gk = g + 1 := ⟨gk - 1, by omega⟩
        have HA := Aside0.mk hA
        clear hA
        by_cases hlo : 65 ≤ x
        · have d1 : decide (65 ≤ x) = true := decide_eq_true hlo
          by_cases hhi : x ≤ 90
          · have d2 : decide (x ≤ 90) = true := decide_eq_true hhi
            go_wp2
            go_roundg gk
            case measure => omega
            case rel =>
              refine ⟨i + 1, by go_num, ⟨by have := HA.out; omega⟩, ⟨?_⟩, ⟨HB.out.setCell (Nat.le_refl _) _⟩⟩
              have := HR.out.set i (lowB x)
              rw [HM1.out] at this
              have e : lowB x = x + 97 - 65 := by unfold lowB; rw [if_pos ⟨hlo, hhi⟩]; omega
              rw [← e]
              exact this
          · have d2 : decide (x ≤ 90) = false := decide_eq_false hhi
            go_wp2
            go_roundg gk
            case measure => omega
            case rel => exact ⟨i + 1, by go_num, ⟨by have := HA.out; omega⟩, ⟨by rw [← HM2.out (by unfold lowB; rw [if_neg (by omega)])]; exact HR.out⟩, HB⟩
        · have d1 : decide (65 ≤ x) = false := decide_eq_false hlo
          go_wp2
          go_roundg gk
          case measure => omega
          case rel => exact ⟨i + 1, by go_num, ⟨by have := HA.out; omega⟩, ⟨by rw [← HM2.out (by unfold lowB; rw [if_neg (by omega)])]; exact HR.out⟩, HB⟩
      · have hid : decide ((i : Int) < (a0.size : Int)) = false := decide_eq_false (by omega)
        have hid2 : decide (i < a0.size) = false := decide_eq_false hi
        have hfin : mixed (bytesOf a0) i = (bytesOf a0).map lowB := by
          have hbl : (bytesOf a0).length = a0.size := bytesOf_length a0
          simp [mixed, List.take_of_length_le (show (bytesOf a0).length ≤ i by omega), List.drop_of_length_le (show (bytesOf a0).length ≤ i by omega)]
        have hR := HR.out
        rw [hfin] at hR
        have hcv2 := run_convert_bytes_arg wr 56 5 Try.underlying56 Try.underlying5 w.heap.size 0 a0.size c ((bytesOf a0).map lowB) (by simp [bytesOf_length]) (fun j hj => by have := (hR.cell j (by simpa [bytesOf_length] using hj)).1; simpa using this) 9 Try.underlying9
        clear hfin hR hA
        go_wp2
        go_ret
        exact ⟨rfl, HB.out⟩
  · rw [if_neg hs] at h
    exact absurd h (by simp)
end Go.Proofs.Ytgjifcflkcpnlaa.P
