/- The functions units.Of and canopyref01.Units, as plain Lean functions, with a proof that the Go code comes to their answers. -/
import Derived.Test.YtgjifcflkcpnlaaHandW
namespace Go.Proofs.Ytgjifcflkcpnlaa.P
open Go.RowKit Go.Proofs.YtgjifcflkcpnlaaW.PrintWords Go.Proofs.YtgjifcflkcpnlaaW.PrintLast Go.Proofs.YtgjifcflkcpnlaaW.PrintMore
set_option linter.unusedVariables false
set_option linter.unusedSimpArgs false

/-- the rune at pos, and its units -/
def runeAt (s : ByteArray) (pos : Nat) : Int := ((Utf8.decode s pos).1 : Int)
def widthAt (s : ByteArray) (pos : Nat) : Nat := (Utf8.decode s pos).2
def unitsOf (c : Int) : List Int := if c < 65536 then [c] else [55296 + (c - 65536) / 1024, 56320 + (c - 65536) % 1024]

def units_Of.l0 : Nat → ByteArray → Nat → List Int → Option (List Int × Int)
  | 0, _, _, _ => none
  | k + 1, s, pos, out => if pos < s.size then
      (if (out ++ unitsOf (runeAt s pos)).length > 16384 then some ([], 4) else units_Of.l0 k s (pos + widthAt s pos) (out ++ unitsOf (runeAt s pos)))
    else some (out, 0)

def units_Of.f (k : Nat) (a0 : ByteArray) : Option (List Int × Int) := units_Of.l0 k a0 0 []
theorem units_Of.mono_l : ∀ k s pos out, LeO (units_Of.l0 k s pos out) (units_Of.l0 (k + 1) s pos out)
  | 0 => fun _ _ _ r h => by simp [units_Of.l0] at h
  | k + 1 => fun s pos out => by
    unfold units_Of.l0
    exact LeO.ite (LeO.ite (LeO.refl _) (units_Of.mono_l k _ _ _)) (LeO.refl _)
theorem units_Of.mono : ∀ a0 k, LeO (units_Of.f k a0) (units_Of.f (k + 1) a0) := fun a0 k => units_Of.mono_l k _ _ _

theorem R_iter {α : Type} {d : Kd α} {e : Nat} {w : World} {base : Nat} {ok : Nat → Prop} {v : Value} {xs : List α} (h : d.R e w base ok v xs) {k : Nat} {s : ByteArray} {pos : Nat} (hk : w.heap[k]? = some (.stringIter s pos)) (pos' : Nat) :
    d.R e (w.iterAt k s pos') base ok v xs := by
  refine Kd.R_mono (Kd.R_move (Kd.R_bound h) (fun j hj => ?_)) (fun _ hk => hk.1)
  obtain ⟨_, _, _, q, _, cells, hc⟩ := hj
  refine Lib.iterAt_other w k j s pos' ?_
  rintro rfl
  rw [hk] at hc
  cases hc

theorem iter_grown {w w1 : World} {k : Nat} {s : ByteArray} {pos : Nat} {e base : Nat} {v : Value} {xs : List Int} {q : IntKind} (hk : w.heap[k]? = some (.stringIter s pos)) (ho : (Kd.int q).R e w base (fun _ => True) v xs) (hg : w.grownBy w1 v.ownBlock) : w1.heap[k]? = some (.stringIter s pos) := by
  have hlt : k < w.heap.size := (Array.getElem?_eq_some_iff.1 hk).1
  rw [hg.block k hlt ?_, hk]
  intro h
  obtain ⟨cells, hc⟩ := own_typed (Kd.own_of_R ho) k h.symm
  rw [hk] at hc
  cases hc

/-- one step of a string's iterator, the world behind it under a name of its own -/
theorem next_step {w : World} {B b : Nat} {s : ByteArray} {pos : Nat} (hk : w.heap[b]? = some (.stringIter s pos)) (hb : B ≤ b) (h : pos < s.size) :
    ∃ w1 : World, (∀ ty, (Instr.next (.pointer (some ⟨b, 0, none⟩)) true ty).run Try.prog w = .ok (.tuple #[.bool true, .int .i64 pos, .int .i32 (runeAt s pos)]) w1) ∧
      w1.heap[b]? = some (.stringIter s (pos + widthAt s pos)) ∧ Below B w w1 ∧ w1.heap.size = w.heap.size ∧
      ∀ (base : Nat) (ok : Nat → Prop) (v : Value) (xs : List Int), (Kd.int .u16).R 43 w base ok v xs → (Kd.int .u16).R 43 w1 base ok v xs := by
  refine ⟨w.iterAt b s (pos + (Utf8.decode s pos).2), fun ty => Lib.run_next_any_at w b s pos ty hk h, Lib.iterAt_heap w b s pos _ hk, Lib.below_iterAt (Below.refl _ _) hb _ _, Lib.iterAt_size _ _ _ _, fun base ok v xs hR => R_iter hR hk _⟩

theorem rune_le (s : ByteArray) (pos : Nat) : runeAt s pos ≤ 1114111 := by
  have hb : ∀ k, (s.get! (pos + k)).toNat < 256 := fun k => (s.get! (pos + k)).toNat_lt
  have h0 := hb 0; have h1 := hb 1; have h2 := hb 2; have h3 := hb 3
  unfold runeAt
  simp only [Utf8.decode]
  repeat' split
  all_goals simp_all [Utf8.runeError, Utf8.valid]
  all_goals omega

theorem and_1023 (n : Int) (h0 : 0 ≤ n) (h1 : n < 2147483648) : bits BinOp.and IntKind.i32 n 1023 = n % 1024 := by
  exact bits_mask .i32 31 (by decide) wraps_i32 10 (by decide) n h0 (by simpa using h1)

set_option maxHeartbeats 1000000 in
set_option maxRecDepth 100000 in
theorem units_Of.calls (k : Nat) (a0 : ByteArray) (r1 : List Int) (r2 : Int) (w : World) (h : units_Of.f k a0 = some (r1, r2)) :
    Calls Try.prog 11 #[.string a0] w fun e w' => ∃ v0_ : Value, e = .returned (.tuple #[v0_, .int .i64 r2]) ∧ Kd.R (Kd.int .u16) 43 w' w.heap.size (fun _ => True) v0_ r1 ∧ Below w.heap.size w w' := by
  have HH : Aside0 (units_Of.l0 k a0 0 [] = some (r1, r2)) := ⟨h⟩
  clear h
  go_enter Try.func11, Try.ntmps11
  go_wp2
  go_loopg [4] k (fun kq v4 wr => ∃ (pos : Nat) (out : List Int), Aside0 (units_Of.l0 kq a0 pos out = some (r1, r2)) ∧ Aside0 (out.length ≤ 16384) ∧ Aside0 (Kd.R (Kd.int .u16) 43 wr w.heap.size (fun _ => True) v4 out) ∧ Aside0 (wr.heap[w.heap.size]? = some (.stringIter a0 pos)) ∧ Aside0 (Below w.heap.size w wr))
  case atStart => exact ⟨0, [], HH, ⟨by simp⟩, ⟨Kd.R_nil _ _ _ _ _⟩, ⟨World.iter_heap _ _ _⟩, ⟨(Below.refl _ _).alloc (Nat.le_refl _) _⟩⟩
  case round =>
    clear HH
    obtain ⟨pos, out, HA, HL, HO, HI, HB⟩ := hrel
    cases gk with
    | zero => exact absurd HA.out (by simp [units_Of.l0])
    | succ k1 =>
      have H := HA.out
      clear HA
      simp only [units_Of.l0] at H
      by_cases hp : pos < a0.size
      · rw [if_pos hp] at H
        obtain ⟨w1, hnx, hi1, hb1, hs1, hr1⟩ := next_step (B := w.heap.size) HI.out (Nat.le_refl _) hp
        have HO1 := Aside0.mk (hr1 _ _ _ _ HO.out)
        have HI1 := Aside0.mk hi1
        have HB1 := Aside0.mk (HB.out.trans hb1)
        have H' := Aside0.mk H
        clear H HO HI HB hi1 hb1 hs1 hr1
        have hc0 : 0 ≤ runeAt a0 pos := Int.natCast_nonneg _
        have hc1 : runeAt a0 pos ≤ 1114111 := rune_le a0 pos
        generalize runeAt a0 pos = c at *
        by_cases hc : c < 65536
        · have hd : decide (c < 65536) = true := decide_eq_true hc
          have hc0' : c < 65536 := hc
          have hu : unitsOf c = [c] := by unfold unitsOf; first | exact if_pos hc | exact if_neg hc
          have H := H'.out
          rw [hu] at H
          generalize hout : out ++ [c] = out2 at H
          have hl2 : out2.length = out.length + 1 := by rw [← hout]; simp
          have Hout := Aside0.mk hout
          have HL2 := Aside0.mk hl2
          clear hout H' hu hl2 hc
          by_cases h16 : out2.length > 16384
          · rw [if_pos h16] at H
            have h16b : decide ((16384 : Int) < (out2.length : Int)) = true := decide_eq_true (by omega)
            have h16c : decide (16384 < out2.length) = true := decide_eq_true (by omega)
            simp only [Option.some.injEq, Prod.mk.injEq] at H
            obtain ⟨rfl, rfl⟩ := H
            clear h16
            go_wp2_with (first | ((with_reducible refine gate_builtin (b := .append) (xs := #[.tmp 14, .tmp 17]) rfl ?_); at_builtin; refine R_append_lits (enc := Value.int .u16) (h1 := fun _ => rfl) (w0 := w) rfl (.tmp 14) (.tmp 17) 23 43 (.int .u16 0) 2 rfl Try.underlying23 info43 rfl (by decide) u4 out [c] 1 rfl rfl rfl HO1.out HB1.out (by have := HL.out; omega) ?_; intro v4 w2 ho hb hg; rw [Hout.out] at ho; obtain ⟨A4, c4, rfl⟩ := Kd.R_slice ho; have HO2 := Aside0.mk ho; have HB2 := Aside0.mk hb; have HI2 := Aside0.mk (iter_grown HI1.out HO1.out hg); clear ho hb hg))
            go_ret2
            exact ⟨_, rfl, Kd.R_nil _ _ _ _ _, HB2.out⟩
          · rw [if_neg h16] at H
            have h16b : decide ((16384 : Int) < (out2.length : Int)) = false := decide_eq_false (by omega)
            have h16c : decide (16384 < out2.length) = false := decide_eq_false (by omega)
            have H' := Aside0.mk H
            have HL3 := Aside0.mk (show out2.length ≤ 16384 by omega)
            clear h16 H
            go_wp2_with (first | ((with_reducible refine gate_builtin (b := .append) (xs := #[.tmp 14, .tmp 17]) rfl ?_); at_builtin; refine R_append_lits (enc := Value.int .u16) (h1 := fun _ => rfl) (w0 := w) rfl (.tmp 14) (.tmp 17) 23 43 (.int .u16 0) 2 rfl Try.underlying23 info43 rfl (by decide) u4 out [c] 1 rfl rfl rfl HO1.out HB1.out (by have := HL.out; omega) ?_; intro v4 w2 ho hb hg; rw [Hout.out] at ho; obtain ⟨A4, c4, rfl⟩ := Kd.R_slice ho; have HO2 := Aside0.mk ho; have HB2 := Aside0.mk hb; have HI2 := Aside0.mk (iter_grown HI1.out HO1.out hg); clear ho hb hg))
            go_roundg k1
            case measure => omega
            case rel => exact ⟨_, out2, H', HL3, HO2, HI2, HB2⟩
        · have hd : decide (c < 65536) = false := decide_eq_false hc
          have hbits : bits BinOp.and IntKind.i32 (c - 65536) 1023 = (c - 65536) % 1024 := and_1023 _ (by omega) (by omega)
          have hc0' : 65536 ≤ c := by omega
          have hu : unitsOf c = [55296 + (c - 65536) / 1024, 56320 + (c - 65536) % 1024] := by unfold unitsOf; first | exact if_pos hc | exact if_neg hc
          have H := H'.out
          rw [hu] at H
          generalize hout : out ++ [55296 + (c - 65536) / 1024, 56320 + (c - 65536) % 1024] = out2 at H
          have hl2 : out2.length = out.length + 2 := by rw [← hout]; simp
          have Hout := Aside0.mk hout
          have HL2 := Aside0.mk hl2
          clear hout H' hu hl2 hc
          by_cases h16 : out2.length > 16384
          · rw [if_pos h16] at H
            have h16b : decide ((16384 : Int) < (out2.length : Int)) = true := decide_eq_true (by omega)
            have h16c : decide (16384 < out2.length) = true := decide_eq_true (by omega)
            simp only [Option.some.injEq, Prod.mk.injEq] at H
            obtain ⟨rfl, rfl⟩ := H
            clear h16
            go_wp2_with (first | ((with_reducible refine gate_builtin (b := .append) (xs := #[.tmp 21, .tmp 30]) rfl ?_); at_builtin; refine R_append_lits (enc := Value.int .u16) (h1 := fun _ => rfl) (w0 := w) rfl (.tmp 21) (.tmp 30) 23 43 (.int .u16 0) 2 rfl Try.underlying23 info43 rfl (by decide) u4 out [55296 + (c - 65536) / 1024, 56320 + (c - 65536) % 1024] 2 rfl rfl rfl HO1.out HB1.out (by have := HL.out; omega) ?_; intro v4 w2 ho hb hg; rw [Hout.out] at ho; obtain ⟨A4, c4, rfl⟩ := Kd.R_slice ho; have HO2 := Aside0.mk ho; have HB2 := Aside0.mk hb; have HI2 := Aside0.mk (iter_grown HI1.out HO1.out hg); clear ho hb hg))
            go_ret2
            exact ⟨_, rfl, Kd.R_nil _ _ _ _ _, HB2.out⟩
          · rw [if_neg h16] at H
            have h16b : decide ((16384 : Int) < (out2.length : Int)) = false := decide_eq_false (by omega)
            have h16c : decide (16384 < out2.length) = false := decide_eq_false (by omega)
            have H' := Aside0.mk H
            have HL3 := Aside0.mk (show out2.length ≤ 16384 by omega)
            clear h16 H
            go_wp2_with (first | ((with_reducible refine gate_builtin (b := .append) (xs := #[.tmp 21, .tmp 30]) rfl ?_); at_builtin; refine R_append_lits (enc := Value.int .u16) (h1 := fun _ => rfl) (w0 := w) rfl (.tmp 21) (.tmp 30) 23 43 (.int .u16 0) 2 rfl Try.underlying23 info43 rfl (by decide) u4 out [55296 + (c - 65536) / 1024, 56320 + (c - 65536) % 1024] 2 rfl rfl rfl HO1.out HB1.out (by have := HL.out; omega) ?_; intro v4 w2 ho hb hg; rw [Hout.out] at ho; obtain ⟨A4, c4, rfl⟩ := Kd.R_slice ho; have HO2 := Aside0.mk ho; have HB2 := Aside0.mk hb; have HI2 := Aside0.mk (iter_grown HI1.out HO1.out hg); clear ho hb hg))
            go_roundg k1
            case measure => omega
            case rel => exact ⟨_, out2, H', HL3, HO2, HI2, HB2⟩
      · rw [if_neg hp] at H
        simp only [Option.some.injEq, Prod.mk.injEq] at H
        obtain ⟨rfl, rfl⟩ := H
        have hnx := fun ty => Lib.run_next_end_at (P := Try.prog) wr w.heap.size a0 pos ty HI.out hp
        go_wp2
        go_ret2
        exact ⟨_, rfl, HO.out, HB.out⟩

def canopyref01_Units.l0 : Nat → ByteArray → Nat → List Int → Option (List Int)
  | 0, _, _, _ => none
  | k + 1, s, pos, out => if pos < s.size then
      (if out.length < 35184372088832 then canopyref01_Units.l0 k s (pos + widthAt s pos) (out ++ unitsOf (runeAt s pos)) else none)
    else some out
def canopyref01_Units.f (k : Nat) (a0 : ByteArray) : Option (List Int) := canopyref01_Units.l0 k a0 0 []
theorem canopyref01_Units.mono_l : ∀ k s pos out, LeO (canopyref01_Units.l0 k s pos out) (canopyref01_Units.l0 (k + 1) s pos out)
  | 0 => fun _ _ _ r h => by simp [canopyref01_Units.l0] at h
  | k + 1 => fun s pos out => by
    unfold canopyref01_Units.l0
    exact LeO.ite (LeO.ite (canopyref01_Units.mono_l k _ _ _) (LeO.refl _)) (LeO.refl _)
theorem canopyref01_Units.mono : ∀ a0 k, LeO (canopyref01_Units.f k a0) (canopyref01_Units.f (k + 1) a0) := fun a0 k => canopyref01_Units.mono_l k _ _ _

set_option maxHeartbeats 1000000 in
set_option maxRecDepth 100000 in
theorem canopyref01_Units.calls (k : Nat) (a0 : ByteArray) (r : List Int) (w : World) (h : canopyref01_Units.f k a0 = some r) :
    Calls Try.prog 44 #[.string a0] w fun e w' => ∃ v0_ : Value, e = .returned (v0_) ∧ Kd.R (Kd.int .u16) 43 w' w.heap.size (fun _ => True) v0_ r ∧ Below w.heap.size w w' := by
  have HH : Aside0 (canopyref01_Units.l0 k a0 0 [] = some r) := ⟨h⟩
  clear h
  go_enter Try.func44, Try.ntmps44
  go_wp2
  go_loopg [3] k (fun kq v3 wr => ∃ (pos : Nat) (out : List Int), Aside0 (canopyref01_Units.l0 kq a0 pos out = some r) ∧ Aside0 (Kd.R (Kd.int .u16) 43 wr w.heap.size (fun _ => True) v3 out) ∧ Aside0 (wr.heap[w.heap.size]? = some (.stringIter a0 pos)) ∧ Aside0 (Below w.heap.size w wr))
  case atStart => exact ⟨0, [], HH, ⟨Kd.R_nil _ _ _ _ _⟩, ⟨World.iter_heap _ _ _⟩, ⟨(Below.refl _ _).alloc (Nat.le_refl _) _⟩⟩
  case round =>
    clear HH
    obtain ⟨pos, out, HA, HO, HI, HB⟩ := hrel
    cases gk with
    | zero => exact absurd HA.out (by simp [canopyref01_Units.l0])
    | succ k1 =>
      have H := HA.out
      clear HA
      simp only [canopyref01_Units.l0] at H
      by_cases hp : pos < a0.size
      · rw [if_pos hp] at H
        by_cases hlim : out.length < 35184372088832
        · rw [if_pos hlim] at H
          have HL := Aside0.mk hlim
          clear hlim
          obtain ⟨w1, hnx, hi1, hb1, hs1, hr1⟩ := next_step (B := w.heap.size) HI.out (Nat.le_refl _) hp
          have HO1 := Aside0.mk (hr1 _ _ _ _ HO.out)
          have HI1 := Aside0.mk hi1
          have HB1 := Aside0.mk (HB.out.trans hb1)
          have H' := Aside0.mk H
          clear H HO HI HB hi1 hb1 hs1 hr1
          have hc0 : 0 ≤ runeAt a0 pos := Int.natCast_nonneg _
          have hc1 : runeAt a0 pos ≤ 1114111 := rune_le a0 pos
          generalize runeAt a0 pos = c at *
          by_cases hc : c < 65536
          · have hd : decide (c < 65536) = true := decide_eq_true hc
            have hu : unitsOf c = [c] := by unfold unitsOf; exact if_pos hc
            have H := H'.out
            rw [hu] at H
            have H2 := Aside0.mk H
            clear H' hu H
            go_wp2_with (first | ((with_reducible refine gate_builtin (b := .append) (xs := #[.tmp 13, .tmp 16]) rfl ?_); at_builtin; refine R_append_lits (enc := Value.int .u16) (h1 := fun _ => rfl) (w0 := w) rfl (.tmp 13) (.tmp 16) 23 43 (.int .u16 0) 2 rfl Try.underlying23 info43 rfl (by decide) u3 out [c] 1 rfl rfl rfl HO1.out HB1.out (by have := HL.out; omega) ?_; intro v4 w2 ho hb hg; have HO2 := Aside0.mk ho; have HB2 := Aside0.mk hb; have HI2 := Aside0.mk (iter_grown HI1.out HO1.out hg); clear ho hb hg))
            go_roundg k1
            case measure => omega
            case rel => exact ⟨_, _, H2, HO2, HI2, HB2⟩
          · have hd : decide (c < 65536) = false := decide_eq_false hc
            have hu : unitsOf c = [55296 + (c - 65536) / 1024, 56320 + (c - 65536) % 1024] := by unfold unitsOf; exact if_neg hc
            have hc' : 65536 ≤ c := by omega
            have H := H'.out
            rw [hu] at H
            have H2 := Aside0.mk H
            clear H' hu hc H
            go_wp2_with (first | ((with_reducible refine gate_builtin (b := .append) (xs := #[.tmp 18, .tmp 29]) rfl ?_); at_builtin; refine R_append_lits (enc := Value.int .u16) (h1 := fun _ => rfl) (w0 := w) rfl (.tmp 18) (.tmp 29) 23 43 (.int .u16 0) 2 rfl Try.underlying23 info43 rfl (by decide) u3 out [55296 + (c - 65536) / 1024, 56320 + (c - 65536) % 1024] 2 rfl rfl rfl HO1.out HB1.out (by have := HL.out; omega) ?_; intro v4 w2 ho hb hg; have HO2 := Aside0.mk ho; have HB2 := Aside0.mk hb; have HI2 := Aside0.mk (iter_grown HI1.out HO1.out hg); clear ho hb hg))
            go_roundg k1
            case measure => omega
            case rel => exact ⟨_, _, H2, HO2, HI2, HB2⟩
        · rw [if_neg hlim] at H
          exact absurd H (by simp)
      · rw [if_neg hp] at H
        simp only [Option.some.injEq] at H
        obtain rfl := H
        have hnx := fun ty => Lib.run_next_end_at (P := Try.prog) wr w.heap.size a0 pos ty HI.out hp
        go_wp2
        go_ret
        exact ⟨_, rfl, HO.out, HB.out⟩

/-- how many bytes a rune takes -/
def lenOf (c : Int) : Int := if c < 128 then 1 else if c < 2048 then 2 else if c < 65536 then 3 else 4
def canopylaw01_valid.l0 : Nat → ByteArray → Nat → Int → Option Bool
  | 0, _, _, _ => none
  | k + 1, s, pos, n => if pos < s.size then
      (if 0 ≤ n ∧ n < 35184372088832 then canopylaw01_valid.l0 k s (pos + widthAt s pos) (n + lenOf (runeAt s pos)) else none)
    else some (n == (s.size : Int))
def canopylaw01_valid.f (k : Nat) (a0 : ByteArray) : Option Bool := canopylaw01_valid.l0 k a0 0 0
theorem canopylaw01_valid.mono_l : ∀ k s pos out, LeO (canopylaw01_valid.l0 k s pos out) (canopylaw01_valid.l0 (k + 1) s pos out)
  | 0 => fun _ _ _ r h => by simp [canopylaw01_valid.l0] at h
  | k + 1 => fun s pos out => by
    unfold canopylaw01_valid.l0
    exact LeO.ite (LeO.ite (canopylaw01_valid.mono_l k _ _ _) (LeO.refl _)) (LeO.refl _)
theorem canopylaw01_valid.mono : ∀ a0 k, LeO (canopylaw01_valid.f k a0) (canopylaw01_valid.f (k + 1) a0) := fun a0 k => canopylaw01_valid.mono_l k _ _ _

set_option maxHeartbeats 1000000 in
set_option maxRecDepth 100000 in
theorem canopylaw01_valid.calls (k : Nat) (a0 : ByteArray) (r : Bool) (w : World) (h : canopylaw01_valid.f k a0 = some r) :
    Calls Try.prog 12 #[.string a0] w fun e w' => e = .returned (.bool r) ∧ Below w.heap.size w w' := by
  have HH : Aside0 (canopylaw01_valid.l0 k a0 0 0 = some r) := ⟨h⟩
  clear h
  go_enter Try.func12, Try.ntmps12
  go_wp2
  go_loopg [3] k (fun kq v3 wr => ∃ (pos : Nat) (n : Int), v3 = .int .i64 n ∧ Aside0 (canopylaw01_valid.l0 kq a0 pos n = some r) ∧ Aside0 (wr.heap[w.heap.size]? = some (.stringIter a0 pos)) ∧ Aside0 (Below w.heap.size w wr))
  case atStart => exact ⟨0, 0, rfl, HH, ⟨World.iter_heap _ _ _⟩, ⟨(Below.refl _ _).alloc (Nat.le_refl _) _⟩⟩
  case round =>
    clear HH
    obtain ⟨pos, n, rfl, HA, HI, HB⟩ := hrel
    cases gk with
    | zero => exact absurd HA.out (by simp [canopylaw01_valid.l0])
    | succ k1 =>
      have H := HA.out
      clear HA
      simp only [canopylaw01_valid.l0] at H
      by_cases hp : pos < a0.size
      · rw [if_pos hp] at H
        by_cases hlim : 0 ≤ n ∧ n < 35184372088832
        · rw [if_pos hlim] at H
          obtain ⟨hn0, hn1⟩ := hlim
          obtain ⟨w1, hnx, hi1, hb1, hs1, hr1⟩ := next_step (B := w.heap.size) HI.out (Nat.le_refl _) hp
          have HI1 := Aside0.mk hi1
          have HB1 := Aside0.mk (HB.out.trans hb1)
          have H' := Aside0.mk H
          clear H HI HB hi1 hb1 hs1 hr1
          have hc0 : 0 ≤ runeAt a0 pos := Int.natCast_nonneg _
          have hc1 : runeAt a0 pos ≤ 1114111 := rune_le a0 pos
          generalize runeAt a0 pos = c at *
          unfold lenOf at H'
          by_cases e1 : c < 128
          · have d1 : decide (c < 128) = true := decide_eq_true e1
            rw [if_pos e1] at H'
            go_wp2
            go_roundg k1
            case measure => omega
            case rel => exact ⟨_, _, rfl, H', HI1, HB1⟩
          have d1 : decide (c < 128) = false := decide_eq_false e1
          rw [if_neg e1] at H'
          by_cases e2 : c < 2048
          · have d2 : decide (c < 2048) = true := decide_eq_true e2
            rw [if_pos e2] at H'
            go_wp2
            go_roundg k1
            case measure => omega
            case rel => exact ⟨_, _, rfl, H', HI1, HB1⟩
          have d2 : decide (c < 2048) = false := decide_eq_false e2
          rw [if_neg e2] at H'
          by_cases e3 : c < 65536
          · have d3 : decide (c < 65536) = true := decide_eq_true e3
            rw [if_pos e3] at H'
            go_wp2
            go_roundg k1
            case measure => omega
            case rel => exact ⟨_, _, rfl, H', HI1, HB1⟩
          have d3 : decide (c < 65536) = false := decide_eq_false e3
          rw [if_neg e3] at H'
          go_wp2
          go_roundg k1
          case measure => omega
          case rel => exact ⟨_, _, rfl, H', HI1, HB1⟩
        · rw [if_neg hlim] at H
          exact absurd H (by simp)
      · rw [if_neg hp] at H
        simp only [Option.some.injEq] at H
        obtain rfl := H
        have hnx := fun ty => Lib.run_next_end_at (P := Try.prog) wr w.heap.size a0 pos ty HI.out hp
        go_wp2
        go_ret
        exact ⟨rfl, HB.out⟩
end Go.Proofs.Ytgjifcflkcpnlaa.P
