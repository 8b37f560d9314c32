/- The functions units.Split and units.Collapse, as plain Lean functions, with a proof that the Go code comes to their answers. -/
import Derived.Test.YtgjifcflkcpnlaaHandW
import Derived.Test.YtgjifcflkcpnlaaShelf
import Derived.Test.YtgjifcflkcpnlaaP4
namespace Go.Proofs.Ytgjifcflkcpnlaa.P
open Go.RowKit Go.Proofs.YtgjifcflkcpnlaaW.PrintWords Go.Proofs.YtgjifcflkcpnlaaW.PrintLast Go.Proofs.YtgjifcflkcpnlaaW.PrintMore
set_option linter.unusedVariables false
set_option linter.unusedSimpArgs false

def blankB (c : Int) : Bool := c == 32 || c == 9 || c == 10 || c == 12 || c == 13
theorem blank_eq (c : Int) : units_Blank.f c = some (blankB c) := by
  unfold units_Blank.f blankB
  by_cases h1 : c = 32
  · simp [h1]
  by_cases h2 : c = 9
  · simp [h2]
  by_cases h3 : c = 10
  · simp [h3]
  by_cases h4 : c = 12
  · simp [h4]
  simp [h1, h2, h3, h4]

/-- the runs of bytes that are not blank -/
def cutL : Nat → ByteArray → Int → Int → List ByteArray → Option (List ByteArray)
  | 0, _, _, _, _ => none
  | k + 1, s, i, at_, out => if i < (s.size : Int) then
      (if 0 ≤ i ∧ s.size ≤ 140737488355328 ∧ out.length < 8796093022208 ∧ at_ ≤ i then
        (if blankB (bt s i) = true then (if 0 ≤ at_ then cutL k s (i + 1) (-1) (out ++ [s.extract at_.toNat i.toNat]) else cutL k s (i + 1) at_ out)
          else (if 0 ≤ at_ then cutL k s (i + 1) at_ out else cutL k s (i + 1) i out)) else none)
    else (if 0 ≤ at_ then (if at_ ≤ (s.size : Int) ∧ out.length < 8796093022208 then some (out ++ [s.extract at_.toNat s.size]) else none) else some out)
theorem cutL_mono : ∀ k s i at_ out, LeO (cutL k s i at_ out) (cutL (k + 1) s i at_ out)
  | 0 => fun _ _ _ _ r h => by simp [cutL] at h
  | k + 1 => fun s i at_ out => by
    unfold cutL
    exact LeO.ite (LeO.ite (LeO.ite (LeO.ite (cutL_mono k _ _ _ _) (cutL_mono k _ _ _ _)) (LeO.ite (cutL_mono k _ _ _ _) (cutL_mono k _ _ _ _))) (LeO.refl _)) (LeO.refl _)

def fnBlank : Value := .func (.func 28) #[] #[]

set_option maxHeartbeats 1000000 in
set_option maxRecDepth 100000 in
theorem cut_calls (k : Nat) (s : ByteArray) (r : List ByteArray) (w : World) (h : cutL k s 0 (-1) [] = some r) :
    Calls Try.prog 48 #[.string s, .func (.func 28) #[] #[]] w fun e w' => ∃ v0_ : Value, e = .returned v0_ ∧ Kd.R Kd.string 9 w' w.heap.size (fun _ => True) v0_ r ∧ Below w.heap.size w w' := by
  have HH := Aside0.mk h
  clear h
  go_enter Try.func48, Try.ntmps48
  go_wp2
  go_loopg [5, 6, 11] k (fun kq v5 v6 v11 wr => ∃ (i at_ : Int) (out : List ByteArray), v6 = .int .i64 at_ ∧ v11 = .int .i64 i ∧ Aside0 (cutL kq s i at_ out = some r) ∧ Aside0 (Kd.R Kd.string 9 wr w.heap.size (fun _ => True) v5 out) ∧ Aside0 (Below w.heap.size w wr))
  case atStart => exact ⟨0, -1, [], rfl, rfl, HH, ⟨Kd.R_nil _ _ _ _ _⟩, ⟨Below.refl _ _⟩⟩
  case round =>
    clear HH
    obtain ⟨i, at_, out, rfl, rfl, HA, HO, HB⟩ := hrel
    cases gk with
    | zero => exact absurd HA.out (by simp [cutL])
    | succ k1 =>
      have H := HA.out
      clear HA
      simp only [cutL] at H
      by_cases hp : i < (s.size : Int)
      · rw [if_pos hp] at H
        have hpd : decide (i < (s.size : Int)) = true := decide_eq_true hp
        by_cases hg : 0 ≤ i ∧ s.size ≤ 140737488355328 ∧ out.length < 8796093022208 ∧ at_ ≤ i
        · rw [if_pos hg] at H
          obtain ⟨hi0, hsz, hol, hai⟩ := hg
          have hx6 := bt_at s i
          have hi0t := eq_true hi0
          have hpt := eq_true hp
          by_cases hbl : blankB (bt s i) = true
          · rw [if_pos hbl] at H
            have F1 := Aside0.mk ((blank_eq (bt s i)).trans (congrArg some hbl))
            clear hbl
            by_cases ha : 0 ≤ at_
            · rw [if_pos ha] at H
              have H' := Aside0.mk H
              have HOL := Aside0.mk hol
              clear H hol
              have had : decide (0 ≤ at_) = true := decide_eq_true ha
              have hat := eq_true ha
              have hai' := eq_true hai
              have hile := eq_true (show i ≤ (s.size : Int) by omega)
              go_wp2_with (first | (go_at_call 28; (with_reducible refine (units_Blank.calls (bt s i) true _ F1.out).mono ?_); rintro e w' ⟨rfl, ⟨nd, rfl⟩⟩) | ((with_reducible refine gate_builtin (b := .append) (xs := #[.tmp 25, .tmp 30]) rfl ?_); at_builtin; refine R_append_lits (enc := Value.string) (h1 := fun _ => rfl) (w0 := w) rfl (.tmp 25) (.tmp 30) 41 9 (.string ⟨#[]⟩) 16 rfl Try.underlying41 info9 rfl (by decide) u5 out [s.extract at_.toNat i.toNat] 1 rfl rfl rfl (by exact Kd.R_drewN HO.out _) (by exact pw_below_drewN HB.out _) (by have := HOL.out; omega) ?_; intro v4 w2 ho hb hg; have HO2 := Aside0.mk ho; have HB2 := Aside0.mk hb; clear ho hb hg))
              go_roundg k1
              case measure => omega
              case rel => exact ⟨_, _, _, rfl, rfl, H', HO2, HB2⟩
            · rw [if_neg ha] at H
              have H' := Aside0.mk H
              clear H
              have had : decide (0 ≤ at_) = false := decide_eq_false ha
              have had2 : decide (at_ < 0) = true := decide_eq_true (by omega)
              go_wp2_with (first | (go_at_call 28; (with_reducible refine (units_Blank.calls (bt s i) true _ F1.out).mono ?_); rintro e w' ⟨rfl, ⟨nd, rfl⟩⟩))
              go_roundg k1
              case measure => omega
              case rel => exact ⟨_, _, _, rfl, rfl, H', ⟨Kd.R_drewN HO.out _⟩, ⟨pw_below_drewN HB.out _⟩⟩
          · rw [if_neg hbl] at H
            have F1 := Aside0.mk ((blank_eq (bt s i)).trans (congrArg some (Bool.eq_false_iff.mpr hbl)))
            clear hbl
            by_cases ha : 0 ≤ at_
            · rw [if_pos ha] at H
              have H' := Aside0.mk H
              clear H
              have had : decide (0 ≤ at_) = true := decide_eq_true ha
              have had2 : decide (at_ < 0) = false := decide_eq_false (by omega)
              go_wp2_with (first | (go_at_call 28; (with_reducible refine (units_Blank.calls (bt s i) false _ F1.out).mono ?_); rintro e w' ⟨rfl, ⟨nd, rfl⟩⟩))
              go_roundg k1
              case measure => omega
              case rel => exact ⟨_, _, _, rfl, rfl, H', ⟨Kd.R_drewN HO.out _⟩, ⟨pw_below_drewN HB.out _⟩⟩
            · rw [if_neg ha] at H
              have H' := Aside0.mk H
              clear H
              have had : decide (0 ≤ at_) = false := decide_eq_false ha
              have had2 : decide (at_ < 0) = true := decide_eq_true (by omega)
              go_wp2_with (first | (go_at_call 28; (with_reducible refine (units_Blank.calls (bt s i) false _ F1.out).mono ?_); rintro e w' ⟨rfl, ⟨nd, rfl⟩⟩))
              go_roundg k1
              case measure => omega
              case rel => exact ⟨_, _, _, rfl, rfl, H', ⟨Kd.R_drewN HO.out _⟩, ⟨pw_below_drewN HB.out _⟩⟩
        · rw [if_neg hg] at H
          exact absurd H (by simp)
      · rw [if_neg hp] at H
        have hpd : decide (i < (s.size : Int)) = false := decide_eq_false hp
        by_cases ha : 0 ≤ at_
        · rw [if_pos ha] at H
          have had : decide (0 ≤ at_) = true := decide_eq_true ha
          by_cases hg : at_ ≤ (s.size : Int) ∧ out.length < 8796093022208
          · rw [if_pos hg] at H
            obtain rfl := Option.some.inj H
            obtain ⟨hg1, hg2⟩ := hg
            have HOL := Aside0.mk hg2
            have hat := eq_true ha
            have hgt := eq_true hg1
            clear H hg2
            go_wp2_with (first | ((with_reducible refine gate_builtin (b := .append) (xs := #[.tmp 43, .tmp 47]) rfl ?_); at_builtin; refine R_append_lits (enc := Value.string) (h1 := fun _ => rfl) (w0 := w) rfl (.tmp 43) (.tmp 47) 41 9 (.string ⟨#[]⟩) 16 rfl Try.underlying41 info9 rfl (by decide) u5 out [s.extract at_.toNat s.size] 1 rfl rfl rfl (by exact HO.out) (by exact HB.out) (by have := HOL.out; omega) ?_; intro v4 w2 ho hb hg; have HO2 := Aside0.mk ho; have HB2 := Aside0.mk hb; clear ho hb hg))
            go_ret
            exact ⟨_, rfl, HO2.out, HB2.out⟩
          · rw [if_neg hg] at H
            exact absurd H (by simp)
        · rw [if_neg ha] at H
          obtain rfl := Option.some.inj H
          have had : decide (0 ≤ at_) = false := decide_eq_false ha
          go_wp2
          go_ret
          exact ⟨_, rfl, HO.out, HB.out⟩

def units_Split.f (k : Nat) (a0 : ByteArray) : Option (List ByteArray) := cutL k a0 0 (-1) []
theorem units_Split.mono : ∀ a0 k, LeO (units_Split.f k a0) (units_Split.f (k + 1) a0) := fun a0 k => cutL_mono k _ _ _ _

set_option maxHeartbeats 1000000 in
set_option maxRecDepth 100000 in
theorem units_Split.calls (k : Nat) (a0 : ByteArray) (r : List ByteArray) (w : World) (h : units_Split.f k a0 = some r) :
    Calls Try.prog 35 #[.string a0] w fun e w' => ∃ v0_ : Value, e = .returned (v0_) ∧ Kd.R Kd.string 9 w' w.heap.size (fun _ => True) v0_ r ∧ Below w.heap.size w w' := by
  have HH : Aside0 (cutL k a0 0 (-1) [] = some r) := ⟨h⟩
  clear h
  go_enter Try.func35, Try.ntmps35
  go_wp2_with (first | (go_at_call 48; (with_reducible refine (cut_calls k a0 r _ HH.out).mono ?_); rintro e w' ⟨v, rfl, h1, h2⟩))
  go_ret
  exact ⟨_, rfl, h1, h2⟩

def units_Collapse.f (k : Nat) (a0 : ByteArray) : Option ByteArray := (units_Split.f k a0).bind fun l => if l.length ≤ 140737488355328 ∧ (Lib.join (l.map (·.data.toList)) [32]).length ≤ 140737488355328 then some ⟨(Lib.join (l.map (·.data.toList)) [32]).toArray⟩ else none
theorem units_Collapse.mono : ∀ a0 k, LeO (units_Collapse.f k a0) (units_Collapse.f (k + 1) a0) := fun a0 k => LeO.bind (units_Split.mono a0 k) (fun _ => LeO.refl _)

set_option maxHeartbeats 1000000 in
set_option maxRecDepth 100000 in
theorem units_Collapse.calls (k : Nat) (a0 : ByteArray) (r : ByteArray) (w : World) (h : units_Collapse.f k a0 = some r) :
    Calls Try.prog 37 #[.string a0] w fun e w' => e = .returned (.string r) ∧ Below w.heap.size w w' := by
  obtain ⟨l, hl, H⟩ := Option.bind_eq_some_iff.mp h
  by_cases hg : l.length ≤ 140737488355328 ∧ (Lib.join (l.map (·.data.toList)) [32]).length ≤ 140737488355328
  · rw [if_pos hg] at H
    obtain rfl := Option.some.inj H
    obtain ⟨g1, g2⟩ := hg
    have HS := Aside0.mk hl
    have G1 := Aside0.mk g1
    have G2 := Aside0.mk g2
    clear h hl H g1 g2
    go_enter Try.func37, Try.ntmps37
    go_wp2_with (first | (go_at_call 35; (with_reducible refine (units_Split.calls k a0 l _ HS.out).mono ?_); rintro e w1 ⟨v, rfl, h1, h2⟩))
    have hown := Kd.own_of_R h1
    rcases hown.2 with ⟨rfl, hn⟩ | ⟨g, cap, cur, rfl, hbg, hg, hcap, hcur⟩
    · obtain rfl : l = [] := List.eq_nil_of_length_eq_zero hn
      refine (Try.strings_Join_none none 0 ⟨#[32]⟩ w1).mono ?_
      rintro e w2 ⟨rfl, rfl⟩
      go_wp2
      go_ret
      exact ⟨rfl, h2⟩
    · have hcells : ∀ (j : Nat) x, l[j]? = some x → w1.cell? ⟨g, 0 + j, none⟩ = some (.string x) := by
        intro j x hj
        have := hown.cells (g := g) rfl j (.string x) (by simp [encs, hj])
        have ha : (⟨g, 0, none⟩ : Addr).add j = ⟨g, 0 + j, none⟩ := by unfold Addr.add; split <;> simp_all
        rwa [ha] at this
      refine (Try.strings_Join g 0 cap l ⟨#[32]⟩ w1 hcells (Array.getElem?_eq_some_iff.1 hg).1 G1.out hcap (by simpa using G2.out)).mono ?_
      rintro e w2 ⟨rfl, h3⟩
      go_wp2
      go_ret
      exact ⟨by simp, h2.trans (h3.mono h2.size)⟩
  · rw [if_neg hg] at H
    exact absurd H (by simp)
end Go.Proofs.Ytgjifcflkcpnlaa.P
