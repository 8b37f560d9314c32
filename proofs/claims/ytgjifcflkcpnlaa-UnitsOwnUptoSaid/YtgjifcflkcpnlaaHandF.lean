/- The function units.Set, as a plain Lean function, with a proof that the Go code comes to its answers. -/
import Derived.Test.YtgjifcflkcpnlaaHandW
import Derived.Test.YtgjifcflkcpnlaaHandM
namespace Go.Proofs.Ytgjifcflkcpnlaa.P
open Go.RowKit Go.Maps Go.WideMaps Go.Proofs.YtgjifcflkcpnlaaW.PrintWords Go.Proofs.YtgjifcflkcpnlaaW.PrintLast Go.Proofs.YtgjifcflkcpnlaaW.PrintMore
set_option linter.unusedVariables false
set_option linter.unusedSimpArgs false

/-- how often a text stands in a list -/
def cntOf (xs : List ByteArray) (l : Lit) : Int := ((xs.filter fun s => (Lit.string s.data.toList).sameKey l).length : Int)
theorem cntOf_self (xs : List ByteArray) (s : ByteArray) : cntOf (xs ++ [s]) (.string s.data.toList) = cntOf xs (.string s.data.toList) + 1 := by
  unfold cntOf
  rw [List.filter_append, List.length_append]
  simp [WideAt.sameKey_self (a := Lit.string s.data.toList) trivial]
theorem cntOf_other (xs : List ByteArray) (s : ByteArray) (l : Lit) (h : l ≠ .string s.data.toList) : cntOf (xs ++ [s]) l = cntOf xs l := by
  unfold cntOf
  rw [List.filter_append, List.length_append]
  simp [sameKey_ne (fun e => h e.symm)]
theorem cntOf_range (xs : List ByteArray) (l : Lit) : 0 ≤ cntOf xs l ∧ cntOf xs l ≤ xs.length := by
  unfold cntOf
  have := List.length_filter_le (fun s : ByteArray => (Lit.string s.data.toList).sameKey l) xs
  omega

/-- what Set has collected of the first i texts -/
def setUpto (l : List ByteArray) : Nat → List ByteArray
  | 0 => []
  | i + 1 => if cntOf (l.take i) (.string (rdOf ByteArray.empty l i).data.toList) = 0 then setUpto l i ++ [rdOf ByteArray.empty l i] else setUpto l i
theorem setUpto_length (l : List ByteArray) : ∀ i, (setUpto l i).length ≤ i
  | 0 => Nat.le_refl _
  | i + 1 => by
    have := setUpto_length l i
    unfold setUpto
    split
    · simp; omega
    · omega
def units_Set.f (l0 : List ByteArray) : Option (List ByteArray) := if l0.length < 8796093022208 ∧ (∀ s ∈ l0, s.size ≤ maxLen) then some (setUpto l0 l0.length) else none

theorem CntMap.block {P : Program} {k e : TypeId} {W : World} {b n : Nat} {f : Lit → Int} (h : CntMap P k e W b n f) : ∃ es clock, W.heap[b]? = some (.map es clock) := by
  obtain ⟨D, ⟨es, clock, hb, _⟩, _⟩ := h
  exact ⟨es, clock, hb⟩
theorem R_cnt {α : Type} {d : Kd α} {P : Program} {e e' k : TypeId} {W W1 : World} {base b n : Nat} {f : Lit → Int} {v : Value} {xs : List α} (h : d.R e W base (fun _ => True) v xs) (hm : CntMap P k e' W b n f) (hg : W.grownBy W1 (some b)) : d.R e W1 base (fun _ => True) v xs := by
  obtain ⟨es, clock, hb⟩ := hm.block
  refine Kd.R_mono (Kd.R_move (Kd.R_bound h) (fun j hj => ?_)) (fun _ _ => trivial)
  obtain ⟨_, _, hlt, q, _, cells, hc⟩ := hj
  refine hg.block j hlt (fun e => ?_)
  injection e with e
  subst e
  rw [hb] at hc
  cases hc
theorem CntMap.append {P : Program} {k e e' : TypeId} {W W1 : World} {base b n m : Nat} {f : Lit → Int} {v : Value} {xs : List Value} {size : Nat} (hm : CntMap P k e W b n f) (ho : W.ownsRow base e' size v m xs) (hg : W.grownBy W1 v.ownBlock) : CntMap P k e W1 b n f := by
  refine hm.grown hg (fun e => ?_)
  obtain ⟨es, clock, hb⟩ := hm.block
  obtain ⟨cells, hc⟩ := own_typed ho b e.symm
  rw [hb] at hc
  cases hc

theorem keyed9 : Keyed Try.prog 9 := string_keyed Try.underlying9
theorem zeroI3 (w : World) : (zeroValue 3).run Try.prog w = .ok (.int .i64 0) w := by kernel_rfl

set_option maxHeartbeats 1000000 in
set_option maxRecDepth 100000 in
theorem units_Set.calls (A0 : Option Addr) (c0 : Nat) (l0 : List ByteArray) (r : List ByteArray) (w : World) (hr0 : Kd.C Kd.string w A0 l0.length l0) (hc0 : l0.length ≤ c0) (h : units_Set.f l0 = some r) :
    Calls Try.prog 25 #[.slice A0 l0.length c0] w fun e w' => ∃ v0_ : Value, e = .returned (v0_) ∧ Kd.R Kd.string 9 w' w.heap.size (fun _ => True) v0_ r ∧ Below w.heap.size w w' := by
  unfold units_Set.f at h
  by_cases hg : l0.length < 8796093022208 ∧ (∀ s ∈ l0, s.size ≤ maxLen)
  · rw [if_pos hg] at h
    obtain rfl := Option.some.inj h
    have HR0 := Aside0.mk hr0
    have HC0 := Aside0.mk hc0
    have HG := Aside0.mk hg
    clear h hg hr0 hc0
    have hmm := @run_makeMap Try.prog
    go_enter Try.func25, Try.ntmps25
    go_wp2
    go_loopg [3, 10] (l0.length + 1) (fun kq v3 v10 wr => ∃ i : Nat, v10 = .int .i64 i ∧ Aside0 (i + kq = l0.length + 1 ∧ i ≤ l0.length) ∧ Aside0 (Kd.R Kd.string 9 wr w.heap.size (fun _ => True) v3 (setUpto l0 i)) ∧ Aside0 (CntMap Try.prog 9 3 wr w.heap.size i (cntOf (l0.take i))) ∧ Aside0 (Below w.heap.size w wr))
    case atStart => exact ⟨0, rfl, ⟨by omega, by omega⟩, ⟨Kd.R_nil _ _ _ _ _⟩, ⟨CntMap.made _ _ _⟩, ⟨(Below.refl _ _).alloc (Nat.le_refl _) _⟩⟩
    case round =>
      obtain ⟨i, rfl, HA, HO, HM, HB⟩ := hrel
      by_cases hi : i < l0.length
      · have hid : decide ((i : Int) < (l0.length : Int)) = true := decide_eq_true (by omega)
        have hid2 : decide (i < l0.length) = true := decide_eq_true hi
        obtain ⟨ad, e, hx⟩ := Kd.at_string (Kd.C_below HR0.out HB.out) (i : Int) (by omega) (by omega)
        cases e
        rw [Int.toNat_natCast] at hx
        obtain ⟨hA1, hA2⟩ := HA.out
        obtain ⟨gk, rfl⟩ : ∃ g, gk = g + 1 := ⟨gk - 1, by omega⟩
        have hget : l0.take (i + 1) = l0.take i ++ [rdOf ByteArray.empty l0 (i : Int)] := by
          rw [List.take_succ_eq_append_getElem hi]
          simp [rdOf, List.getD_eq_getElem?_getD, hi]
        have hmem : rdOf ByteArray.empty l0 (i : Int) ∈ l0 := by
          have : rdOf ByteArray.empty l0 (i : Int) = l0[i] := by simp [rdOf, List.getD_eq_getElem?_getD, hi]
          rw [this]; exact List.getElem_mem hi
        have hsz := HG.out.2 _ hmem
        have hlen := HG.out.1
        have hup : setUpto l0 (i + 1) = if cntOf (l0.take i) (.string (rdOf ByteArray.empty l0 i).data.toList) = 0 then setUpto l0 i ++ [rdOf ByteArray.empty l0 i] else setUpto l0 i := rfl
        have hul := setUpto_length l0 i
        generalize hs : rdOf ByteArray.empty l0 (i : Int) = s at *
        have hkey : keyOf Try.prog 9 (.string s) = some (.string s.data.toList) := keyOf_string_mk Try.underlying9 hsz
        have hr := cntOf_range (l0.take i) (.string s.data.toList)
        have htk : (l0.take i).length ≤ i := List.length_take_le _ _
        have hlk1 := HM.out.look keyed9 Try.underlying70 Try.underlying3 (zeroI3 _) hkey
        have hself := cntOf_self (l0.take i) s
        have hoth := cntOf_other (l0.take i) s
        rw [← hget] at hself hoth
        generalize hcv : cntOf (l0.take i) (.string s.data.toList) = cv at *
        obtain ⟨hr0, hr1⟩ := hr
        have hcv1 : cv ≤ 8796093022208 := by omega
        have HS := Aside0.mk hself
        have HT := Aside0.mk hoth
        have HU := Aside0.mk hup
        have HK := Aside0.mk hkey
        have HI := Aside0.mk hA1
        have HUL := Aside0.mk hul
        clear hself hoth hup hkey hA1 hul hget hs hcv htk hr1 hmem hsz HA
        by_cases hz : cv = 0
        · have hb1 : ((cv + 1) == 1) = true := beq_iff_eq.2 (by omega)
          have hu2 := HU.out
          rw [if_pos hz] at hu2
          have HU2 := Aside0.mk hu2
          clear hu2 hz
          go_wp2_with (first | (at_mapUpdate; refine wpList_cnt _ rfl _ _ _ 70 rfl 9 3 keyed9 Try.underlying70 Try.underlying3 w.heap.size i (cntOf (l0.take i)) rfl HM.out (by unfold maxLen; omega) (.string s) (.string s.data.toList) (cv + 1) rfl rfl HK.out (WalkArith.wf_i64 (by omega)) (cntOf (l0.take (i + 1))) HS.out HT.out ?_; intro W1 hm1 hg1; have hlk2 := hm1.look keyed9 Try.underlying70 Try.underlying3 (zeroI3 _) HK.out; rw [HS.out] at hlk2; have HM1 := Aside0.mk hm1; have HO1 := Aside0.mk (R_cnt HO.out HM.out hg1); have HB1 := Aside0.mk (HB.out.grown hg1 HB.out.size (fun k hk => by cases hk; exact Nat.le_refl _)); clear hm1 hg1 hlk1) | ((with_reducible refine gate_builtin (b := .append) (xs := #[.tmp 22, .tmp 24]) rfl ?_); at_builtin; refine R_append_lits (enc := Value.string) (h1 := fun _ => rfl) (w0 := w) rfl (.tmp 22) (.tmp 24) 41 9 (.string ⟨#[]⟩) 16 rfl Try.underlying41 info9 rfl (by decide) u3 (setUpto l0 i) [s] 1 rfl rfl rfl HO1.out HB1.out (by have := HUL.out; omega) ?_; intro v4 w2 ho hb hg; have HM2 := Aside0.mk (HM1.out.append (Kd.own_of_R HO1.out) hg); have HO2 := Aside0.mk ho; have HB2 := Aside0.mk hb; clear ho hb hg))
          go_roundg gk
          case measure => omega
          case rel => exact ⟨i + 1, by go_num, ⟨by have := HI.out; omega, by omega⟩, ⟨by rw [HU2.out]; exact HO2.out⟩, HM2, HB2⟩
        · have hb1 : ((cv + 1) == 1) = false := beq_eq_false_iff_ne.2 (by omega)
          have hu2 := HU.out
          rw [if_neg hz] at hu2
          have HU2 := Aside0.mk hu2
          clear hu2 hz
          go_wp2_with (first | (at_mapUpdate; refine wpList_cnt _ rfl _ _ _ 70 rfl 9 3 keyed9 Try.underlying70 Try.underlying3 w.heap.size i (cntOf (l0.take i)) rfl HM.out (by unfold maxLen; omega) (.string s) (.string s.data.toList) (cv + 1) rfl rfl HK.out (WalkArith.wf_i64 (by omega)) (cntOf (l0.take (i + 1))) HS.out HT.out ?_; intro W1 hm1 hg1; have hlk2 := hm1.look keyed9 Try.underlying70 Try.underlying3 (zeroI3 _) HK.out; rw [HS.out] at hlk2; have HM1 := Aside0.mk hm1; have HO1 := Aside0.mk (R_cnt HO.out HM.out hg1); have HB1 := Aside0.mk (HB.out.grown hg1 HB.out.size (fun k hk => by cases hk; exact Nat.le_refl _)); clear hm1 hg1 hlk1))
          go_roundg gk
          case measure => omega
          case rel => exact ⟨i + 1, by go_num, ⟨by have := HI.out; omega, by omega⟩, ⟨by rw [HU2.out]; exact HO1.out⟩, HM1, HB1⟩
      · have hid : decide ((i : Int) < (l0.length : Int)) = false := decide_eq_false (by omega)
        have hid2 : decide (i < l0.length) = false := decide_eq_false hi
        have hil : i = l0.length := by have := HA.out; omega
        have HO2 := HO.out
        rw [hil] at HO2
        have HO3 := Aside0.mk HO2
        clear hil HO2
        go_wp2
        go_ret
        exact ⟨_, rfl, HO3.out, HB.out⟩
  · rw [if_neg hg] at h
    exact absurd h (by simp)
end Go.Proofs.Ytgjifcflkcpnlaa.P
