/- Plain law: lives, the law's own question, is answered true. -/
import Derived.Test.YtgjifcflkcpnlaaPureA
import Derived.Test.YtgjifcflkcpnlaaP5
namespace Go.Proofs.Ytgjifcflkcpnlaa.Pure
set_option linter.unusedVariables false
set_option linter.unusedSimpArgs false
open Go.RowKit Go.Proofs.Ytgjifcflkcpnlaa.P Go.Proofs.YtgjifcflkcpnlaaW.PrintWords Go.Proofs.YtgjifcflkcpnlaaW.PrintLast Go.Proofs.YtgjifcflkcpnlaaW.PrintMore

theorem lives_of : units_Of.f 9 (⟨#[97, 240, 159, 152, 128]⟩ : ByteArray) = some ([97, 55357, 56832], 0) := by decide +kernel
theorem lives_text : units_Text.f 9 ([56832, 97] : List Int) = some (⟨#[239, 191, 189, 97]⟩, true) := by decide +kernel
theorem lives_split : units_Split.f 20 (⟨#[32, 97, 32, 32, 98, 9, 99, 32]⟩ : ByteArray) = some [⟨#[97]⟩, ⟨#[98]⟩, ⟨#[99]⟩] := by decide +kernel
theorem lives_low1 : units_Lower.f (⟨#[68, 73, 86]⟩ : ByteArray) = some ⟨#[100, 105, 118]⟩ := by decide +kernel
theorem lives_low2 : units_Lower.f (⟨#[100, 105, 118]⟩ : ByteArray) = some ⟨#[100, 105, 118]⟩ := by decide +kernel
theorem lives_low3 : units_Lower.f (⟨#[197, 191]⟩ : ByteArray) = some ⟨#[197, 191]⟩ := by decide +kernel
theorem lives_low4 : units_Lower.f (⟨#[83]⟩ : ByteArray) = some ⟨#[115]⟩ := by decide +kernel
theorem bytes_ne {a b : ByteArray} (h : a.data.toList ≠ b.data.toList) : (a.toList == b.toList) = false := by
  rw [bytes_toList, bytes_toList]
  exact beq_eq_false_iff_ne.2 h
theorem fold1 : units_Fold.f (⟨#[68, 73, 86]⟩ : ByteArray) (⟨#[100, 105, 118]⟩ : ByteArray) = some true := by
  unfold units_Fold.f
  rw [lives_low1, lives_low2]
  simp
theorem fold2 : units_Fold.f (⟨#[197, 191]⟩ : ByteArray) (⟨#[83]⟩ : ByteArray) = some false := by
  unfold units_Fold.f
  rw [lives_low3, lives_low4]
  simp only [Option.bind_some]
  rw [bytes_ne (by simp)]
theorem lives_spec : Ev (fun k => canopylaw01_lives.f k) true := by
  unfold canopylaw01_lives.f
  refine Ev.bind (Ev.of (units_Of.mono _) lives_of) (Ev.bind (Ev.of (units_Text.mono _) lives_text) (Ev.bind (Ev.of (units_Split.mono _) lives_split) ?_))
  refine Ev.ite_pos rfl (Ev.bind (same_spec _ _ (by decide) (by decide)) ?_)
  refine Ev.ite_pos (by simp) (Ev.ite_pos (by rw [bytes_toList]) (Ev.ite_pos rfl (Ev.bind (strings_spec _ _ (by decide)) ?_)))
  refine Ev.ite_pos (by simp) ?_
  rw [show units_Wrap.f (-1) = some 4294967295 from by decide +kernel, fold1, fold2]
  simp only [Option.bind_some]
  exact Ev.ite_pos trivial (Ev.ite_pos trivial (Ev.now _))
end Go.Proofs.Ytgjifcflkcpnlaa.Pure
