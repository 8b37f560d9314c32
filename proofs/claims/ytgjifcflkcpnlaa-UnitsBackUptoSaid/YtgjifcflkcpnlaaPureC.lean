/- Plain laws: parts of units, and replacements. -/
import Derived.Test.YtgjifcflkcpnlaaPureA
import Derived.Test.YtgjifcflkcpnlaaP13
namespace Go.Proofs.Ytgjifcflkcpnlaa.Pure
set_option linter.unusedVariables false
set_option linter.unusedSimpArgs false
open Go.RowKit Go.Proofs.Ytgjifcflkcpnlaa.P Go.Proofs.YtgjifcflkcpnlaaW.PrintWords Go.Proofs.YtgjifcflkcpnlaaW.PrintLast Go.Proofs.YtgjifcflkcpnlaaW.PrintMore

theorem wrapu_id {n : Int} (h0 : 0 ≤ n) (h1 : n < 18446744073709551616) : IntKind.u64.wrap n = n := by
  simp [IntKind.wrap, IntKind.bits, IntKind.signed]
  omega
theorem wf_u32 {n : Int} (h : (Lit.int .u32 n).wf = true) : 0 ≤ n ∧ n ≤ 4294967295 := by simpa [Lit.wf, IntKind.min, IntKind.max, IntKind.signed, IntKind.bits] using h
theorem wf_i64 {n : Int} (h : (Lit.int .i64 n).wf = true) : -9223372036854775808 ≤ n ∧ n ≤ 9223372036854775807 := by simpa [Lit.wf, IntKind.min, IntKind.max, IntKind.signed, IntKind.bits] using h
theorem wf_u16 {n : Int} (h : (Lit.int .u16 n).wf = true) : 0 ≤ n ∧ n ≤ 65535 := by simpa [Lit.wf, IntKind.min, IntKind.max, IntKind.signed, IntKind.bits] using h

/-- where the part ends -/
def stop (n a b : Int) : Int := if n - a < b then n else a + b
theorem span_eq (l : List Int) (a b : Int) (ha : 0 ≤ a ∧ a ≤ 4294967295) (hb : 0 ≤ b ∧ b ≤ 4294967295) (hl : l.length < 4611686018427387904) :
    units_span.f l a b = if a > (l.length : Int) then some (0, 0, false) else some (a, stop l.length a b, true) := by
  unfold units_span.f stop
  rw [wrapu_id (n := a) (by omega) (by omega), wrapu_id (n := (l.length : Int)) (by omega) (by omega)]
  by_cases h : a > (l.length : Int)
  · rw [if_pos h, if_pos h]
  · rw [if_neg h, if_neg h, wrap64_id (n := a) (by omega) (by omega), wrapu_id (n := b) (by omega) (by omega), wrap64_id (n := (l.length : Int) - a) (by omega) (by omega), wrapu_id (n := (l.length : Int) - a) (by omega) (by omega)]
    unfold mn
    by_cases h2 : (l.length : Int) - a < b
    · rw [if_pos h2, if_pos h2, wrap64_id (n := (l.length : Int) - a) (by omega) (by omega), wrap64_id (by omega) (by omega)]
      congr 2
      congr 1
      omega
    · rw [if_neg h2, if_neg h2, wrap64_id (n := b) (by omega) (by omega), wrap64_id (by omega) (by omega)]
theorem stop_range {n a b : Int} (ha : 0 ≤ a) (hb : 0 ≤ b) (h : a ≤ n) : a ≤ stop n a b ∧ stop n a b ≤ n := by unfold stop; split <;> omega

def part (l : List Int) (a b : Int) : List Int := (l.take (stop l.length a b).toNat).drop a.toNat
theorem sub_eq (l : List Int) (a b : Int) (ha : 0 ≤ a ∧ a ≤ 4294967295) (hb : 0 ≤ b ∧ b ≤ 4294967295) (hl : l.length < 1048577) :
    units_Sub.f l a b = if a > (l.length : Int) then some ([], 14) else some (part l a b, 0) := by
  unfold units_Sub.f
  rw [span_eq l a b ha hb (by omega)]
  by_cases h : a > (l.length : Int)
  · rw [if_pos h, if_pos h]; rfl
  · have hs := stop_range ha.1 hb.1 (show a ≤ (l.length : Int) by omega)
    rw [if_neg h, if_neg h]
    simp only [Option.bind_some]
    rw [if_pos trivial, if_pos ha.1, if_pos hs.1, if_pos hs.2, if_pos (by simp; omega)]
    rfl
theorem refsub_eq (l : List Int) (a b : Int) (ha : 0 ≤ a ∧ a ≤ 4294967295) (hb : 0 ≤ b ∧ b ≤ 4294967295) (hl : l.length < 1048577) :
    canopyref01_Sub.f l a b = if a > (l.length : Int) then some ([], 14) else some (part l a b, 0) := by
  unfold canopyref01_Sub.f
  rw [wrap64_id (n := a) (by omega) (by omega), wrap64_id (n := b) (by omega) (by omega), wrap64_id (n := a + b) (by omega) (by omega)]
  by_cases h : a > (l.length : Int)
  · rw [if_pos h, if_pos h]
  · have hm : mn (a + b) (l.length : Int) = stop l.length a b := by unfold mn stop; split <;> split <;> omega
    have hs := stop_range ha.1 hb.1 (show a ≤ (l.length : Int) by omega)
    rw [if_neg h, if_neg h, hm]
    simp only [Option.bind_some]
    rw [if_pos ha.1, if_pos hs.1, if_pos hs.2, if_pos (by simp; omega)]
    rfl
theorem part_length (l : List Int) (a b : Int) (ha : 0 ≤ a) (hb : 0 ≤ b) (h : a ≤ (l.length : Int)) : ((part l a b).length : Int) = stop l.length a b - a := by
  have hs := stop_range ha hb h
  unfold part
  rw [List.length_drop, List.length_take]
  omega

def put (l : List Int) (a b : Int) (m : List Int) : List Int := l.take a.toNat ++ m ++ l.drop (stop l.length a b).toNat
theorem replace_eq (l : List Int) (a b : Int) (m : List Int) (ha : 0 ≤ a ∧ a ≤ 4294967295) (hb : 0 ≤ b ∧ b ≤ 4294967295) (hl : l.length < 1048577) (hm : m.length < 1048577) :
    units_Replace.f l a b m = if a > (l.length : Int) then some ([], 14) else if (l.length : Int) - (stop l.length a b - a) + m.length > 16384 then some ([], 4) else some (put l a b m, 0) := by
  unfold units_Replace.f
  rw [span_eq l a b ha hb (by omega)]
  by_cases h : a > (l.length : Int)
  · rw [if_pos h, if_pos h]; rfl
  · have hs := stop_range ha.1 hb.1 (show a ≤ (l.length : Int) by omega)
    rw [if_neg h, if_neg h]
    simp only [Option.bind_some]
    rw [if_pos trivial, wrap64_id (n := stop l.length a b - a) (by omega) (by omega), wrap64_id (n := (l.length : Int) - (stop l.length a b - a)) (by omega) (by omega), wrap64_id (by omega) (by omega)]
    by_cases h2 : (l.length : Int) - (stop l.length a b - a) + m.length > 16384
    · rw [if_pos h2, if_pos h2]
    · rw [if_neg h2, if_neg h2, if_pos ha.1, if_pos (by omega), if_pos (by simp; omega), if_pos (by simp; omega), if_pos (by omega), if_pos (by omega), if_pos (by simp; omega)]
      simp [put]
theorem refreplace_eq (l : List Int) (a b : Int) (m : List Int) (ha : 0 ≤ a ∧ a ≤ 4294967295) (hb : 0 ≤ b ∧ b ≤ 4294967295) (hl : l.length < 1048577) (hm : m.length < 1048577) :
    canopyref01_Replace.f l a b m = if a > (l.length : Int) then some ([], 14) else if (l.length : Int) - (stop l.length a b - a) + m.length > 16384 then some ([], 4) else some (put l a b m, 0) := by
  unfold canopyref01_Replace.f
  rw [refsub_eq l a b ha hb hl]
  by_cases h : a > (l.length : Int)
  · rw [if_pos h, if_pos h]
    simp
  · have hs := stop_range ha.1 hb.1 (show a ≤ (l.length : Int) by omega)
    have hp := part_length l a b ha.1 hb.1 (by omega)
    rw [if_neg h, if_neg h]
    simp only [Option.bind_some]
    rw [if_pos trivial, hp, wrap64_id (n := (l.length : Int) - (stop l.length a b - a)) (by omega) (by omega), wrap64_id (n := (l.length : Int) - (stop l.length a b - a) + (m.length : Int)) (by omega) (by omega)]
    by_cases h2 : (l.length : Int) - (stop l.length a b - a) + m.length > 16384
    · rw [if_pos h2, if_pos h2]
    · rw [if_neg h2, if_neg h2, wrap64_id (n := a) (by omega) (by omega), wrap64_id (n := a + (stop l.length a b - a)) (by omega) (by omega), show a + (stop l.length a b - a) = stop l.length a b by omega]
      rw [if_pos ha.1, if_pos (by omega), if_pos (by simp; omega), if_pos (by simp; omega), if_pos (by omega), if_pos (by omega), if_pos (by simp; omega)]
      simp [put]
theorem wrap_eq (n : Int) : units_Wrap.f n = canopyref01_Wrap.f n := by
  unfold units_Wrap.f canopyref01_Wrap.f
  have h0 : 0 ≤ IntKind.u64.wrap n := by
    simp [IntKind.wrap, IntKind.bits, IntKind.signed]
    omega
  rw [Int.tmod_eq_emod_of_nonneg h0, Int.emod_emod_of_dvd _ (Int.dvd_refl _)]
theorem put_length (l : List Int) (a b : Int) (m : List Int) (ha : 0 ≤ a) (hb : 0 ≤ b) (h : a ≤ (l.length : Int)) : (put l a b m).length ≤ l.length + m.length := by
  have hs := stop_range ha hb h
  unfold put
  simp
  omega
end Go.Proofs.Ytgjifcflkcpnlaa.Pure
