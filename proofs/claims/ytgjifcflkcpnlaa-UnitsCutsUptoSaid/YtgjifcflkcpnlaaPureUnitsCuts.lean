/- The pure statement of UnitsCuts. -/
import Derived.Test.YtgjifcflkcpnlaaPureL
import Derived.Test.YtgjifcflkcpnlaaPureC
import Derived.Test.YtgjifcflkcpnlaaP14
namespace Go.Proofs.Ytgjifcflkcpnlaa.Pure
open Go.RowKit Go.Proofs.Ytgjifcflkcpnlaa.P Go.Proofs.YtgjifcflkcpnlaaW.PrintWords
theorem subs_same (l : List Int) (a b : Int) (ha : 0 ≤ a ∧ a ≤ 4294967295) (hb : 0 ≤ b ∧ b ≤ 4294967295) (hl : l.length < 1048577) :
    ∃ x c, units_Sub.f l a b = some (x, c) ∧ canopyref01_Sub.f l a b = some (x, c) ∧ x.length < 4611686018427387904 := by
  rw [sub_eq l a b ha hb hl, refsub_eq l a b ha hb hl]
  by_cases h : a > (l.length : Int)
  · rw [if_pos h]
    exact ⟨_, _, rfl, rfl, by simp⟩
  · rw [if_neg h]
    have := part_length l a b ha.1 hb.1 (by omega)
    have hs := stop_range ha.1 hb.1 (show a ≤ (l.length : Int) by omega)
    exact ⟨_, _, rfl, rfl, by omega⟩
theorem replaces_same (l : List Int) (a b : Int) (m : List Int) (ha : 0 ≤ a ∧ a ≤ 4294967295) (hb : 0 ≤ b ∧ b ≤ 4294967295) (hl : l.length < 1048577) (hm : m.length < 1048577) :
    ∃ x c, units_Replace.f l a b m = some (x, c) ∧ canopyref01_Replace.f l a b m = some (x, c) ∧ x.length < 4611686018427387904 := by
  rw [replace_eq l a b m ha hb hl hm, refreplace_eq l a b m ha hb hl hm]
  by_cases h : a > (l.length : Int)
  · rw [if_pos h]
    exact ⟨_, _, rfl, rfl, by simp⟩
  · rw [if_neg h]
    have hq := put_length l a b m ha.1 hb.1 (by omega)
    by_cases h2 : (l.length : Int) - (stop l.length a b - a) + m.length > 16384
    · rw [if_pos h2]
      exact ⟨_, _, rfl, rfl, by simp⟩
    · rw [if_neg h2]
      exact ⟨_, _, rfl, rfl, by omega⟩
theorem cuts_ev (l0 : List Int) (a1 a2 : Int) (l3 : List Int) (a4 : Int) (hl : l0.length < 1048577) (ha : 0 ≤ a1 ∧ a1 ≤ 4294967295) (hb : 0 ≤ a2 ∧ a2 ≤ 4294967295) (hm : l3.length < 1048577) : Ev (fun k => canopylaw01_UnitsCuts.f k l0 a1 a2 l3 a4) true := by
  unfold canopylaw01_UnitsCuts.f
  obtain ⟨x, c, e1, e2, hx⟩ := subs_same l0 a1 a2 ha hb hl
  obtain ⟨y, d, e3, e4, hy⟩ := replaces_same l0 a1 a2 l3 ha hb hl hm
  obtain ⟨v, hv⟩ : ∃ v, canopyref01_Wrap.f a4 = some v := ⟨_, rfl⟩
  rw [wrap_eq, e1, e2, e3, e4, hv]
  simp only [Option.bind_some]
  refine Ev.bind lives_spec (Ev.ite_pos rfl (Ev.bind (same_spec _ _ hx hx) (Ev.ite_pos (by simp) (Ev.ite_pos trivial (Ev.bind (same_spec _ _ hy hy) (Ev.ite_pos (by simp) (Ev.ite_pos trivial ?_)))))))
  rw [show (v == v) = true from by simp]
  exact Ev.now _
theorem UnitsCuts : ∀ (l0 : List (Int)) (a1 : Int) (a2 : Int) (l3 : List (Int)) (a4 : Int), (l0.length < 1048577 ∧ ∀ x0 ∈ l0, (Lit.int .u16 x0).wf = true) → ((Lit.int .u32 a1).wf = true) → ((Lit.int .u32 a2).wf = true) → (l3.length < 1048577 ∧ ∀ x0 ∈ l3, (Lit.int .u16 x0).wf = true) → ((Lit.int .i64 a4).wf = true) → ∃ k, canopylaw01_UnitsCuts.f k l0 a1 a2 l3 a4 = some true := by
  intro l0 a1 a2 l3 a4 h0 h1 h2 h3 h4
  exact (cuts_ev l0 a1 a2 l3 a4 h0.1 (wf_u32 h1) (wf_u32 h2) h3.1).rounds
end Go.Proofs.Ytgjifcflkcpnlaa.Pure
