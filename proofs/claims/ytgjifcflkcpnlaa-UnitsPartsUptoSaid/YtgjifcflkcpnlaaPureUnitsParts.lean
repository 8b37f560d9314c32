/- The pure statement of UnitsParts. -/
import Derived.Test.YtgjifcflkcpnlaaPureL
import Derived.Test.YtgjifcflkcpnlaaPureC
import Derived.Test.YtgjifcflkcpnlaaP15
namespace Go.Proofs.Ytgjifcflkcpnlaa.Pure
set_option linter.unusedVariables false
open Go.RowKit Go.Proofs.Ytgjifcflkcpnlaa.P Go.Proofs.YtgjifcflkcpnlaaW.PrintWords
theorem put_part (l : List Int) (a b : Int) (ha : 0 ≤ a) (hb : 0 ≤ b) (h : a ≤ (l.length : Int)) : put l a b (part l a b) = l := by
  have hs := stop_range ha hb h
  unfold put part
  have e : (l.take (stop l.length a b).toNat).drop a.toNat ++ l.drop (stop l.length a b).toNat = l.drop a.toNat := by
    have h1 : l = l.take (stop l.length a b).toNat ++ l.drop (stop l.length a b).toNat := (List.take_append_drop _ _).symm
    conv => rhs; rw [h1]
    rw [List.drop_append_of_le_length (by rw [List.length_take]; omega)]
  rw [List.append_assoc, e, List.take_append_drop]
theorem parts_whole (l : List Int) (a : Int) (ha : 0 ≤ a) (hl : l.length < 4294967295) : part l 0 a ++ part l ((part l 0 a).length : Int) 4294967295 = l := by
  have hp := part_length l 0 a (by omega) ha (by omega)
  have hs := stop_range (n := (l.length : Int)) (a := 0) (b := a) (by omega) ha (by omega)
  rw [hp]
  unfold part
  have e : stop (l.length : Int) (stop (l.length : Int) 0 a - 0) 4294967295 = l.length := by
    unfold stop at hs ⊢
    split at hs <;> split <;> simp_all <;> omega
  rw [e]
  simp
theorem UnitsParts : ∀ (l0 : List (Int)) (a1 : Int) (a2 : Int), (l0.length < 1048577 ∧ ∀ x0 ∈ l0, (Lit.int .u16 x0).wf = true) → ((Lit.int .u32 a1).wf = true) → ((Lit.int .u32 a2).wf = true) → ∃ k, canopylaw01_UnitsParts.f k l0 a1 a2 = some true := by
  intro l a b hl wa wb
  have ha := wf_u32 wa
  have hb := wf_u32 wb
  have hl := hl.1
  have hp := part_length l 0 a (by omega) ha.1 (by omega)
  have hs := stop_range (n := (l.length : Int)) (a := 0) (b := a) (by omega) ha.1 (by omega)
  have hw := parts_whole l a ha.1 (by omega)
  have hwl := congrArg List.length hw
  rw [List.length_append] at hwl
  refine Ev.rounds (r := true) ?_
  unfold canopylaw01_UnitsParts.f
  refine Ev.bind lives_spec (Ev.ite_pos rfl ?_)
  rw [sub_eq l 0 a (by omega) ha hl, if_neg (by omega)]
  simp only [Option.bind_some]
  refine Ev.ite_pos trivial ?_
  rw [show ((part l 0 a).length : Int) % 4294967296 = ((part l 0 a).length : Int) by omega, sub_eq l _ 4294967295 (by omega) (by omega) hl, if_neg (by omega)]
  simp only [Option.bind_some, List.nil_append]
  rw [hw]
  refine Ev.ite_pos trivial (Ev.ite_pos (by simp; omega) (Ev.ite_pos (by omega) (Ev.bind (same_spec l l (by omega) (by omega)) ?_)))
  refine Ev.step (fun _ => canopylaw01_UnitsParts.j0.eq_2 ..) (Ev.ite_neg (by simp) ?_)
  rw [sub_eq l a b ha hb hl]
  by_cases h : a > (l.length : Int)
  · rw [if_pos h]
    simp only [Option.bind_some]
    refine Ev.ite_neg (by decide) (Ev.ite_pos trivial ?_)
    rw [wrap64_id (by omega) (by omega)]
    exact Ev.ite_pos h (Ev.now _)
  · rw [if_neg h]
    simp only [Option.bind_some]
    refine Ev.ite_pos trivial ?_
    have hpl := part_length l a b ha.1 hb.1 (by omega)
    have hs := stop_range ha.1 hb.1 (show a ≤ (l.length : Int) by omega)
    rw [replace_eq l a b _ ha hb hl (by omega), if_neg h]
    by_cases h2 : (l.length : Int) - (stop l.length a b - a) + ((part l a b).length : Int) > 16384
    · rw [if_pos h2]
      simp only [Option.bind_some]
      exact Ev.ite_pos trivial (Ev.ite_pos (by omega) (Ev.now _))
    · rw [if_neg h2, put_part l a b ha.1 hb.1 (by omega)]
      simp only [Option.bind_some]
      refine Ev.ite_neg (by decide) (Ev.ite_pos trivial (Ev.bind (same_spec l l (by omega) (by omega)) ?_))
      simp
      exact Ev.now _
end Go.Proofs.Ytgjifcflkcpnlaa.Pure
