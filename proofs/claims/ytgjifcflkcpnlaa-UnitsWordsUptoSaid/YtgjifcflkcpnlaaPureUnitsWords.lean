/- The pure statement of UnitsWords. -/
import Derived.Test.YtgjifcflkcpnlaaPureL
import Derived.Test.YtgjifcflkcpnlaaPureW
import Derived.Test.YtgjifcflkcpnlaaP23
namespace Go.Proofs.Ytgjifcflkcpnlaa.Pure
set_option linter.unusedVariables false
open Go.RowKit Go.Proofs.Ytgjifcflkcpnlaa.P Go.Proofs.YtgjifcflkcpnlaaW.PrintWords
theorem split_length (s : ByteArray) : (split s).length ≤ s.size + 1 := by
  have h2 := words_total s.data.toList []
  have h3 := words_count (words [] s.data.toList)
  rw [data_len] at h2
  simp only [List.length_nil] at h2
  unfold split
  rw [List.length_map]
  omega
theorem refjoin_split (s : ByteArray) (hs : s.size < 1048577) : Ev (fun k => canopyref01_Join.f k (split s)) (collapse s) := by
  have h2 := words_total s.data.toList []
  have h3 := words_count (words [] s.data.toList)
  rw [data_len] at h2
  simp only [List.length_nil] at h2
  exact join_spec (words [] s.data.toList) (by omega) (by omega)
theorem words_j0 (a b : ByteArray) (ha : a.size < 1048577) (hb : b.size < 1048577) : Ev (fun k => canopylaw01_UnitsWords.j0 k a b false) true := by
  obtain ⟨r, hr1, hr2⟩ := strip_spec a ha
  have hl := split_length a
  refine Ev.step (fun _ => canopylaw01_UnitsWords.j0.eq_2 ..) (Ev.ite_neg (by simp) ?_)
  rw [lower_eq a ha, fold_eq a b ha hb]
  simp only [Option.bind_some]
  refine Ev.bind (reflower_spec a ha) (Ev.ite_pos rfl (Ev.bind (reflower_spec a ha) (Ev.bind (reflower_spec b hb) (Ev.ite_pos (by simp) ?_))))
  refine Ev.bind hr1 (Ev.bind hr2 (Ev.ite_pos rfl (Ev.bind (split_spec a ha) (Ev.bind (refsplit_spec a ha) (Ev.bind (strings_spec _ _ (by omega)) (Ev.ite_pos (by simp) ?_))))))
  refine Ev.bind (collapse_spec a ha) (Ev.bind (refsplit_spec a ha) (Ev.bind (refjoin_split a ha) ?_))
  rw [show ((collapse a).toList == (collapse a).toList) = true by simp]
  exact Ev.now _
theorem UnitsWords : ∀ (a0 : ByteArray) (a1 : ByteArray) (l2 : List (ByteArray)) (a3 : Int), (a0.size < 1048577) → (a1.size < 1048577) → (l2.length < 1048577 ∧ ∀ x0 ∈ l2, x0.size < 1048577) → ((Lit.int .u8 a3).wf = true) → ∃ k, canopylaw01_UnitsWords.f k a0 a1 l2 a3 = some true := by
  intro a b l c ha hb hl hc
  have hsl := setL_length l []
  simp only [List.length_nil] at hsl
  refine Ev.rounds (r := true) ?_
  unfold canopylaw01_UnitsWords.f
  simp only [Option.bind_some, List.nil_append, List.length_nil]
  refine Ev.ite_pos (by omega) ?_
  rw [set_eq l hl.1 hl.2]
  simp only [Option.bind_some]
  refine Ev.bind lives_spec (Ev.ite_pos rfl (Ev.bind (refset_spec l hl.1) (Ev.bind (strings_spec _ _ (by omega)) (Ev.ite_pos (by simp) (Ev.bind (strings_spec l l (by omega)) (Ev.ite_pos (by simp) ?_))))))
  rw [blank_eq, refblank_eq]
  simp only [Option.bind_some]
  rw [show (blankB c != blankB c) = false by simp]
  exact words_j0 a b ha hb
end Go.Proofs.Ytgjifcflkcpnlaa.Pure
