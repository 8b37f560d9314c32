/- Contracts of Go functions of this seat, laid by program out of the translation's own print: each Go function as a plain Lean function, and a proof that the machine's call comes to its answers. -/
import Derived.Test.YtgjifcflkcpnlaaP0
import Derived.Test.YtgjifcflkcpnlaaP3
import Derived.Test.YtgjifcflkcpnlaaP4
import Derived.Test.YtgjifcflkcpnlaaP5
import Derived.Test.YtgjifcflkcpnlaaP16
import Derived.Test.YtgjifcflkcpnlaaP18
import Derived.Test.YtgjifcflkcpnlaaP19
import Derived.Test.YtgjifcflkcpnlaaP20
import Derived.Test.YtgjifcflkcpnlaaP21
import Derived.Test.YtgjifcflkcpnlaaP22
import Derived.Test.YtgjifcflkcpnlaaHandD
import Derived.Test.YtgjifcflkcpnlaaHandE
import Derived.Test.YtgjifcflkcpnlaaHandF
namespace Go.Proofs.Ytgjifcflkcpnlaa.P
open Go.RowKit Go.Proofs.YtgjifcflkcpnlaaW.PrintWords Go.Proofs.YtgjifcflkcpnlaaW.PrintLast Go.Proofs.YtgjifcflkcpnlaaW.PrintMore
attribute [local go_sem] max2_int min2_int max_two min_two max_three min_three max_four min_four   -- for this text's walks alone
set_option linter.unusedVariables false
set_option linter.unusedSimpArgs false

/-! ### canopylaw01_UnitsWords: function 8 -/
def canopylaw01_UnitsWords.j0 : Nat → ByteArray → ByteArray → Bool → Option (Bool)
  | 0, _, _, _ => none
  | k + 1, x0, x1, x37 => if x37 = true then (some false) else ((units_Lower.f x0).bind fun t371 => ((canopyref01_Lower.f k x0).bind fun t372 => (if t371.toList = t372.toList then ((units_Fold.f x0 x1).bind fun t373 => ((canopyref01_Lower.f k x0).bind fun t374 => ((canopyref01_Lower.f k x1).bind fun t375 => (if (t373 == (t374.toList == t375.toList)) = true then ((units_Strip.f k x0).bind fun t376 => ((canopyref01_Strip.f k x0).bind fun t377 => (if t376.toList = t377.toList then ((units_Split.f k x0).bind fun t378 => ((canopyref01_Split.f k x0).bind fun t381 => ((canopyref01_Strings.f k t378 t381).bind fun t384 => (if t384 = true then ((units_Collapse.f k x0).bind fun t385 => ((canopyref01_Split.f k x0).bind fun t386 => ((canopyref01_Join.f k t386).bind fun t389 => (some (t385.toList == t389.toList))))) else (some false))))) else (some false)))) else (some false))))) else (some false))))
def canopylaw01_UnitsWords.f (k : Nat) (a0 : ByteArray) (a1 : ByteArray) (l2 : List ByteArray) (a3 : Int) : Option (Bool) := (some (([] : List ByteArray) : List ByteArray)).bind fun y354 => (if y354.length + l2.length < 8796093022208 then ((some (y354 ++ l2 : List ByteArray)).bind fun y357 => ((units_Set.f y357).bind fun t360 => ((canopylaw01_lives.f k).bind fun t363 => (if t363 = true then ((canopyref01_Set.f k l2).bind fun t364 => ((canopyref01_Strings.f k t360 t364).bind fun t367 => (if t367 = true then ((canopyref01_Strings.f k y357 l2).bind fun t368 => (if t368 = true then ((units_Blank.f a3).bind fun t369 => ((canopyref01_Blank.f a3).bind fun t370 => (canopylaw01_UnitsWords.j0 k a0 a1 (t369 != t370)))) else (canopylaw01_UnitsWords.j0 k a0 a1 true))) else (canopylaw01_UnitsWords.j0 k a0 a1 true)))) else (canopylaw01_UnitsWords.j0 k a0 a1 true))))) else (none))
theorem canopylaw01_UnitsWords.mono_l : ∀ k, (∀ y0 y1 y2, LeO (canopylaw01_UnitsWords.j0 k y0 y1 y2) (canopylaw01_UnitsWords.j0 (k + 1) y0 y1 y2))
  | 0 => fun _ _ _ r h => by simp [canopylaw01_UnitsWords.j0] at h
  | k + 1 => by
    have ih0 := canopylaw01_UnitsWords.mono_l k
    · intro y0 y1 y2
      unfold canopylaw01_UnitsWords.j0
      repeat' first
      | (with_reducible exact ih0 _ _ _)
      | (with_reducible exact canopylaw01_lives.mono _)
      | (with_reducible exact canopyref01_Join.mono _ _)
      | (with_reducible exact canopyref01_Lower.mono _ _)
      | (with_reducible exact canopyref01_Set.mono _ _)
      | (with_reducible exact canopyref01_Split.mono _ _)
      | (with_reducible exact canopyref01_Strings.mono _ _ _)
      | (with_reducible exact canopyref01_Strip.mono _ _)
      | (with_reducible exact units_Collapse.mono _ _)
      | (with_reducible exact units_Split.mono _ _)
      | (with_reducible exact units_Strip.mono _ _)
      | (with_reducible exact LeO.refl _)
      | (with_reducible exact LeO.none _)
      | (with_reducible refine LeO.ite ?_ ?_)
      | (with_reducible refine LeO.bind ?_ (fun _ => ?_))
      | exact ih0 _ _ _
      | exact canopylaw01_lives.mono _
      | exact canopyref01_Join.mono _ _
      | exact canopyref01_Lower.mono _ _
      | exact canopyref01_Set.mono _ _
      | exact canopyref01_Split.mono _ _
      | exact canopyref01_Strings.mono _ _ _
      | exact canopyref01_Strip.mono _ _
      | exact units_Collapse.mono _ _
      | exact units_Split.mono _ _
      | exact units_Strip.mono _ _
      | exact LeO.none _
      | refine LeO.ite ?_ ?_
      | refine LeO.bind ?_ (fun _ => ?_)
theorem canopylaw01_UnitsWords.mono : ∀ a0 a1 a2 a3 k, LeO (canopylaw01_UnitsWords.f k a0 a1 a2 a3) (canopylaw01_UnitsWords.f (k + 1) a0 a1 a2 a3) := by
  intro a0 a1 a2 a3 k
  have ih0 := canopylaw01_UnitsWords.mono_l k
  unfold canopylaw01_UnitsWords.f
  repeat' first
      | (with_reducible exact ih0 _ _ _)
      | (with_reducible exact canopylaw01_lives.mono _)
      | (with_reducible exact canopyref01_Join.mono _ _)
      | (with_reducible exact canopyref01_Lower.mono _ _)
      | (with_reducible exact canopyref01_Set.mono _ _)
      | (with_reducible exact canopyref01_Split.mono _ _)
      | (with_reducible exact canopyref01_Strings.mono _ _ _)
      | (with_reducible exact canopyref01_Strip.mono _ _)
      | (with_reducible exact units_Collapse.mono _ _)
      | (with_reducible exact units_Split.mono _ _)
      | (with_reducible exact units_Strip.mono _ _)
      | (with_reducible exact LeO.refl _)
      | (with_reducible exact LeO.none _)
      | (with_reducible refine LeO.ite ?_ ?_)
      | (with_reducible refine LeO.bind ?_ (fun _ => ?_))
      | exact ih0 _ _ _
      | exact canopylaw01_lives.mono _
      | exact canopyref01_Join.mono _ _
      | exact canopyref01_Lower.mono _ _
      | exact canopyref01_Set.mono _ _
      | exact canopyref01_Split.mono _ _
      | exact canopyref01_Strings.mono _ _ _
      | exact canopyref01_Strip.mono _ _
      | exact units_Collapse.mono _ _
      | exact units_Split.mono _ _
      | exact units_Strip.mono _ _
      | exact LeO.none _
      | refine LeO.ite ?_ ?_
      | refine LeO.bind ?_ (fun _ => ?_)
set_option maxHeartbeats 8000000 in
set_option maxRecDepth 100000 in
theorem canopylaw01_UnitsWords.calls (k : Nat) (a0 : ByteArray) (a1 : ByteArray) (A2 : Option Addr) (c2 : Nat) (l2 : List ByteArray) (a3 : Int) (r : Bool) (w : World) (hr2 : Kd.C Kd.string w A2 l2.length l2) (hc2 : l2.length ≤ c2) (h : canopylaw01_UnitsWords.f k a0 a1 l2 a3 = some r) :
    Calls Try.prog 8 #[.string a0, .string a1, .slice A2 l2.length c2, .int .u8 a3] w fun e w' => e = .returned (.bool r) ∧ Below w.heap.size w w' := by
  have HR2 := Aside0.mk hr2
  have HC2 := Aside0.mk hc2
  clear hr2 hc2
  have HB := Aside0.mk (Below.refl w.heap.size w)
  have H : ((some (([] : List ByteArray) : List ByteArray)).bind fun y354 => (if y354.length + l2.length < 8796093022208 then ((some (y354 ++ l2 : List ByteArray)).bind fun y357 => ((units_Set.f y357).bind fun t360 => ((canopylaw01_lives.f k).bind fun t363 => (if t363 = true then ((canopyref01_Set.f k l2).bind fun t364 => ((canopyref01_Strings.f k t360 t364).bind fun t367 => (if t367 = true then ((canopyref01_Strings.f k y357 l2).bind fun t368 => (if t368 = true then ((units_Blank.f a3).bind fun t369 => ((canopyref01_Blank.f a3).bind fun t370 => (canopylaw01_UnitsWords.j0 k a0 a1 (t369 != t370)))) else (canopylaw01_UnitsWords.j0 k a0 a1 true))) else (canopylaw01_UnitsWords.j0 k a0 a1 true)))) else (canopylaw01_UnitsWords.j0 k a0 a1 true))))) else (none))) = some r := h
  clear h
  obtain ⟨y354, hy354⟩ : ∃ y_ : List ByteArray, y_ = (([] : List ByteArray)) := ⟨_, rfl⟩
  replace H : (if y354.length + l2.length < 8796093022208 then ((some (y354 ++ l2 : List ByteArray)).bind fun y357 => ((units_Set.f y357).bind fun t360 => ((canopylaw01_lives.f k).bind fun t363 => (if t363 = true then ((canopyref01_Set.f k l2).bind fun t364 => ((canopyref01_Strings.f k t360 t364).bind fun t367 => (if t367 = true then ((canopyref01_Strings.f k y357 l2).bind fun t368 => (if t368 = true then ((units_Blank.f a3).bind fun t369 => ((canopyref01_Blank.f a3).bind fun t370 => (canopylaw01_UnitsWords.j0 k a0 a1 (t369 != t370)))) else (canopylaw01_UnitsWords.j0 k a0 a1 true))) else (canopylaw01_UnitsWords.j0 k a0 a1 true)))) else (canopylaw01_UnitsWords.j0 k a0 a1 true))))) else (none)) = some r := by first | (rw [hy354]; with_reducible exact H) | (have H2_ := (Option.bind_some _ _).symm.trans H; rw [hy354]; with_reducible exact H2_) | (have H2_ := (Option.bind_some _ _).symm.trans H; with_reducible exact H2_) | with_reducible exact H | (rw [hy354]; exact H) | exact H
  have Ny354 := Aside0.mk hy354
  clear hy354
  by_cases c5 : y354.length + l2.length < 8796093022208
  · rw [if_pos c5] at H
    have LMc5 := Aside0.mk c5
    clear c5
    obtain ⟨y357, hy357⟩ : ∃ y_ : List ByteArray, y_ = (y354 ++ l2) := ⟨_, rfl⟩
    replace H : ((units_Set.f y357).bind fun t360 => ((canopylaw01_lives.f k).bind fun t363 => (if t363 = true then ((canopyref01_Set.f k l2).bind fun t364 => ((canopyref01_Strings.f k t360 t364).bind fun t367 => (if t367 = true then ((canopyref01_Strings.f k y357 l2).bind fun t368 => (if t368 = true then ((units_Blank.f a3).bind fun t369 => ((canopyref01_Blank.f a3).bind fun t370 => (canopylaw01_UnitsWords.j0 k a0 a1 (t369 != t370)))) else (canopylaw01_UnitsWords.j0 k a0 a1 true))) else (canopylaw01_UnitsWords.j0 k a0 a1 true)))) else (canopylaw01_UnitsWords.j0 k a0 a1 true)))) = some r := by first | (rw [hy357]; with_reducible exact H) | (have H2_ := (Option.bind_some _ _).symm.trans H; rw [hy357]; with_reducible exact H2_) | (have H2_ := (Option.bind_some _ _).symm.trans H; with_reducible exact H2_) | with_reducible exact H | (rw [hy357]; exact H) | exact H
    have Ny357 := Aside0.mk hy357
    clear hy357
    replace H := Option.bind_eq_some_iff.mp H
    obtain ⟨t360, A60, H⟩ := H
    replace H : ((canopylaw01_lives.f k).bind fun t363 => (if t363 = true then ((canopyref01_Set.f k l2).bind fun t364 => ((canopyref01_Strings.f k t360 t364).bind fun t367 => (if t367 = true then ((canopyref01_Strings.f k y357 l2).bind fun t368 => (if t368 = true then ((units_Blank.f a3).bind fun t369 => ((canopyref01_Blank.f a3).bind fun t370 => (canopylaw01_UnitsWords.j0 k a0 a1 (t369 != t370)))) else (canopylaw01_UnitsWords.j0 k a0 a1 true))) else (canopylaw01_UnitsWords.j0 k a0 a1 true)))) else (canopylaw01_UnitsWords.j0 k a0 a1 true))) = some r := H
    have A6 := Aside0.mk A60
    clear A60
    have HC7 := Aside0.mk H
    clear H
    go_enter Try.func8, Try.ntmps8
    go_upto_region 3 with (first | ((with_reducible refine gate_dst (N := 11) rfl ?_); refine Kd.R_lit Kd.string _ 9 ?hg (N := 11) ?hd (xs := ([] : List ByteArray)) (inner := []) (ok := fun _ => True) (okp := fun _ => True) ?hr ?hp (fun _ hk => hk) trivial (Below.refl _ _) (Nat.le_refl _) (by simp) ?_; (case hd => rfl); (case hg => rfl); (case hr => first | (go_simp; done) | (go_simp; rfl)); (case hp => exact (Reps.none _ _)); intro v355 w8 ho9 hb hg_ hnew_; clear hg_ hnew_; (first | rw [← Ny354.out] at ho9 | (simp only [Int.reduceToNat] at ho9; rw [← Ny354.out] at ho9)); have n0_ := Aside0.mk (Kd.R_lower ho9 (below_size (by repeat (first | (with_reducible first | exact HB.out | apply below_alloc | apply pw_below_drewN | apply below_drew1) | exact HB.out)))); have n1_ := Aside0.mk (below_step (by repeat (first | (with_reducible first | exact HB.out | apply below_alloc | apply pw_below_drewN | apply below_drew1) | exact HB.out)) hb); clear HB; have HO356 := n0_; have HB := n1_; clear n0_ n1_; clear hb ho9) | ((with_reducible refine gate_builtin (b := .append) (xs := #[.tmp 11, .tmp 12]) rfl ?_); at_builtin; refine Kd.R_append_rows Kd.string (w0 := w) w.heap.size rfl (.tmp 11) (.tmp 12) 41 9 (.string ⟨#[]⟩) 16 rfl Try.underlying41 info9 rfl (by decide) (by omega) v355 y354 l2 _ _ _ (fun _ => True) (fun _ => False) rfl rfl ?aO ?aR (fun _ _ h => h) (fun _ h => h.elim) ?aF ?aB ?aS ?aL ?_; (case aR => repeat (first | exact (Kd.C_below HR2.out HB.out) | (with_reducible refine Kd.C_alloc ?_ _) | (with_reducible refine Kd.C_drewN ?_ _) | (with_reducible refine Kd.C_drew ?_))); (case aB => exact (by repeat (first | (with_reducible first | exact HB.out | apply below_alloc | apply pw_below_drewN | apply below_drew1) | exact HB.out))); (case aF => exact (fun _ _ => trivial)); (case aO => exact (by (with_reducible repeat (first | apply Kd.R_alloc | apply Kd.R_drewN | apply Kd.R_drew)); exact HO356.out)); (case aS => exact (below_size (by repeat (first | (with_reducible first | exact HB.out | apply below_alloc | apply pw_below_drewN | apply below_drew1) | exact HB.out)))); (case aL => have := LMc5.out; omega); intro v358 w10 ho hb hg hat; rw [← Ny357.out] at ho; have n0_ := Aside0.mk (hb); have n1_ := Aside0.mk (ho); clear HB; clear HO356; have HB := n0_; have HO359 := n1_; clear n0_ n1_; clear ho hb hg hat; obtain ⟨Ao11, co11, eo11⟩ := Kd.R_slice HO359.out; subst eo11) | ((with_reducible refine gate_callee (f := 25) rfl ?_); refine goesL_ (some 15) rfl rfl Try.func25 (by kernel_rfl) rfl #[.slice Ao11 y357.length co11] rfl (by (try simp only [List.map_toArray, List.map_cons, List.map_nil]); first | done | rfl | (simp only [List.length_drop, List.length_take]; rfl)) ?_; (with_reducible refine (units_Set.calls _ _ y357 t360 _ ?side1 ?side2 A6.out).mono ?_); (case side1 => repeat (first | exact (Kd.R_reads' HO359.out).2.2 | (with_reducible refine Kd.C_alloc ?_ _) | (with_reducible refine Kd.C_drewN ?_ _) | (with_reducible refine Kd.C_drew ?_))); (case side2 => exact (Kd.R_reads' HO359.out).2.1); rintro e w12 ⟨v361, rfl, ho0, hb⟩; refine ⟨_, rfl, ?_⟩; have n0_ := Aside0.mk (Kd.R_elder' (by (with_reducible repeat (first | apply Kd.R_alloc | apply Kd.R_drewN | apply Kd.R_drew)); exact HO359.out) (Kd.R_base ho0) hb); have n1_ := Aside0.mk (Kd.R_lower (Kd.R_new' ho0 (Kd.R_lt (by (with_reducible repeat (first | apply Kd.R_alloc | apply Kd.R_drewN | apply Kd.R_drew)); exact HO359.out))) (below_size (by repeat (first | (with_reducible first | exact HB.out | apply below_alloc | apply pw_below_drewN | apply below_drew1) | exact HB.out)))); have n2_ := Aside0.mk (below_step (by repeat (first | (with_reducible first | exact HB.out | apply below_alloc | apply pw_below_drewN | apply below_drew1) | exact HB.out)) hb); clear HO359; clear HB; have HO359 := n0_; have HO362 := n1_; have HB := n2_; clear n0_ n1_ n2_; (try clear hb); (try clear hb2); (try clear hk); (try clear hi); (try clear ho0)))
    (try simp only [Act.put, List.setIfInBounds_toArray, List.set_cons_zero, List.set_cons_succ])
    go_cut [37] (fun v37 wc => ∃ (kq : Nat) (x37_6 : Bool), v37 = .bool x37_6 ∧ Aside0 (canopylaw01_UnitsWords.j0 kq a0 a1 x37_6 = some r) ∧ Aside0 (kq ≤ k) ∧ Aside0 (Below w.heap.size w wc))
    case first =>
      have H := HC7.out
      clear HC7
      replace H := Option.bind_eq_some_iff.mp H
      obtain ⟨t363, A130, H⟩ := H
      replace H : (if t363 = true then ((canopyref01_Set.f k l2).bind fun t364 => ((canopyref01_Strings.f k t360 t364).bind fun t367 => (if t367 = true then ((canopyref01_Strings.f k y357 l2).bind fun t368 => (if t368 = true then ((units_Blank.f a3).bind fun t369 => ((canopyref01_Blank.f a3).bind fun t370 => (canopylaw01_UnitsWords.j0 k a0 a1 (t369 != t370)))) else (canopylaw01_UnitsWords.j0 k a0 a1 true))) else (canopylaw01_UnitsWords.j0 k a0 a1 true)))) else (canopylaw01_UnitsWords.j0 k a0 a1 true)) = some r := H
      have A13 := Aside0.mk A130
      clear A130
      by_cases c14 : t363 = true
      · subst c14
        have H1 : ((canopyref01_Set.f k l2).bind fun t364 => ((canopyref01_Strings.f k t360 t364).bind fun t367 => (if t367 = true then ((canopyref01_Strings.f k y357 l2).bind fun t368 => (if t368 = true then ((units_Blank.f a3).bind fun t369 => ((canopyref01_Blank.f a3).bind fun t370 => (canopylaw01_UnitsWords.j0 k a0 a1 (t369 != t370)))) else (canopylaw01_UnitsWords.j0 k a0 a1 true))) else (canopylaw01_UnitsWords.j0 k a0 a1 true)))) = some r := by rw [if_pos rfl] at H; exact H
        clear H
        have H := H1
        clear H1
        replace H := Option.bind_eq_some_iff.mp H
        obtain ⟨t364, A150, H⟩ := H
        replace H : ((canopyref01_Strings.f k t360 t364).bind fun t367 => (if t367 = true then ((canopyref01_Strings.f k y357 l2).bind fun t368 => (if t368 = true then ((units_Blank.f a3).bind fun t369 => ((canopyref01_Blank.f a3).bind fun t370 => (canopylaw01_UnitsWords.j0 k a0 a1 (t369 != t370)))) else (canopylaw01_UnitsWords.j0 k a0 a1 true))) else (canopylaw01_UnitsWords.j0 k a0 a1 true))) = some r := H
        have A15 := Aside0.mk A150
        clear A150
        replace H := Option.bind_eq_some_iff.mp H
        obtain ⟨t367, A160, H⟩ := H
        replace H : (if t367 = true then ((canopyref01_Strings.f k y357 l2).bind fun t368 => (if t368 = true then ((units_Blank.f a3).bind fun t369 => ((canopyref01_Blank.f a3).bind fun t370 => (canopylaw01_UnitsWords.j0 k a0 a1 (t369 != t370)))) else (canopylaw01_UnitsWords.j0 k a0 a1 true))) else (canopylaw01_UnitsWords.j0 k a0 a1 true)) = some r := H
        have A16 := Aside0.mk A160
        clear A160
        by_cases c17 : t367 = true
        · subst c17
          have H1 : ((canopyref01_Strings.f k y357 l2).bind fun t368 => (if t368 = true then ((units_Blank.f a3).bind fun t369 => ((canopyref01_Blank.f a3).bind fun t370 => (canopylaw01_UnitsWords.j0 k a0 a1 (t369 != t370)))) else (canopylaw01_UnitsWords.j0 k a0 a1 true))) = some r := by rw [if_pos rfl] at H; exact H
          clear H
          have H := H1
          clear H1
          replace H := Option.bind_eq_some_iff.mp H
          obtain ⟨t368, A180, H⟩ := H
          replace H : (if t368 = true then ((units_Blank.f a3).bind fun t369 => ((canopyref01_Blank.f a3).bind fun t370 => (canopylaw01_UnitsWords.j0 k a0 a1 (t369 != t370)))) else (canopylaw01_UnitsWords.j0 k a0 a1 true)) = some r := H
          have A18 := Aside0.mk A180
          clear A180
          by_cases c19 : t368 = true
          · subst c19
            have H1 : ((units_Blank.f a3).bind fun t369 => ((canopyref01_Blank.f a3).bind fun t370 => (canopylaw01_UnitsWords.j0 k a0 a1 (t369 != t370)))) = some r := by rw [if_pos rfl] at H; exact H
            clear H
            have H := H1
            clear H1
            replace H := Option.bind_eq_some_iff.mp H
            obtain ⟨t369, A200, H⟩ := H
            replace H : ((canopyref01_Blank.f a3).bind fun t370 => (canopylaw01_UnitsWords.j0 k a0 a1 (t369 != t370))) = some r := H
            have A20 := Aside0.mk A200
            clear A200
            replace H := Option.bind_eq_some_iff.mp H
            obtain ⟨t370, A210, H⟩ := H
            replace H : (canopylaw01_UnitsWords.j0 k a0 a1 (t369 != t370)) = some r := H
            have A21 := Aside0.mk A210
            clear A210
            have H' := Aside0.mk H
            clear H
            go_wp2_with (first | ((with_reducible refine gate_callee (f := 10) rfl ?_); refine goesL_ (some 16) rfl rfl Try.func10 (by kernel_rfl) rfl #[] rfl (by (try simp only [List.map_toArray, List.map_cons, List.map_nil]); first | done | rfl | (simp only [List.length_drop, List.length_take]; rfl)) ?_; (with_reducible refine (canopylaw01_lives.calls k  true _ A13.out).mono ?_); rintro e w22 ⟨rfl, hb⟩; refine ⟨_, rfl, ?_⟩; have n0_ := Aside0.mk (Kd.R_below (by (with_reducible repeat (first | apply Kd.R_alloc | apply Kd.R_drewN | apply Kd.R_drew)); exact HO359.out) hb); have n1_ := Aside0.mk (Kd.R_below (by (with_reducible repeat (first | apply Kd.R_alloc | apply Kd.R_drewN | apply Kd.R_drew)); exact HO362.out) hb); have n2_ := Aside0.mk (below_step (by repeat (first | (with_reducible first | exact HB.out | apply below_alloc | apply pw_below_drewN | apply below_drew1) | exact HB.out)) hb); clear HO359; clear HO362; clear HB; have HO359 := n0_; have HO362 := n1_; have HB := n2_; clear n0_ n1_ n2_; (try clear hb); (try clear hb2); (try clear hk); (try clear hi)) | (go_at_call 27; (with_reducible refine (canopyref01_Set.calls k _ _ l2 t364 _ ?side1 ?side2 A15.out).mono ?_); (case side1 => repeat (first | exact (Kd.C_below HR2.out HB.out) | (with_reducible refine Kd.C_alloc ?_ _) | (with_reducible refine Kd.C_drewN ?_ _) | (with_reducible refine Kd.C_drew ?_))); (case side2 => exact HC2.out); rintro e w23 ⟨v365, rfl, ho0, hb⟩; have n0_ := Aside0.mk (Kd.R_elder' (by (with_reducible repeat (first | apply Kd.R_alloc | apply Kd.R_drewN | apply Kd.R_drew)); exact HO359.out) (Kd.R_base ho0) hb); have n1_ := Aside0.mk (Kd.R_elder' (by (with_reducible repeat (first | apply Kd.R_alloc | apply Kd.R_drewN | apply Kd.R_drew)); exact HO362.out) (Kd.R_base ho0) hb); have n2_ := Aside0.mk (Kd.R_lower (Kd.R_new' (Kd.R_new' ho0 (Kd.R_lt (by (with_reducible repeat (first | apply Kd.R_alloc | apply Kd.R_drewN | apply Kd.R_drew)); exact HO359.out))) (Kd.R_lt (by (with_reducible repeat (first | apply Kd.R_alloc | apply Kd.R_drewN | apply Kd.R_drew)); exact HO362.out))) (below_size (by repeat (first | (with_reducible first | exact HB.out | apply below_alloc | apply pw_below_drewN | apply below_drew1) | exact HB.out)))); have n3_ := Aside0.mk (below_step (by repeat (first | (with_reducible first | exact HB.out | apply below_alloc | apply pw_below_drewN | apply below_drew1) | exact HB.out)) hb); clear HO359; clear HO362; clear HB; have HO359 := n0_; have HO362 := n1_; have HO366 := n2_; have HB := n3_; clear n0_ n1_ n2_ n3_; (try clear hb); (try clear hb2); (try clear hk); (try clear hi); (try clear ho0); obtain ⟨Ao24, co24, eo24⟩ := Kd.R_slice HO362.out; subst eo24; obtain ⟨Ao25, co25, eo25⟩ := Kd.R_slice HO366.out; subst eo25) | (go_at_call 26; (with_reducible refine (canopyref01_Strings.calls k _ _ t360 _ _ t364 true _ ?side1 ?side2 ?side3 ?side4 A16.out).mono ?_); (case side1 => repeat (first | exact (Kd.R_reads' HO362.out).2.2 | (with_reducible refine Kd.C_alloc ?_ _) | (with_reducible refine Kd.C_drewN ?_ _) | (with_reducible refine Kd.C_drew ?_))); (case side2 => exact (Kd.R_reads' HO362.out).2.1); (case side3 => repeat (first | exact (Kd.R_reads' HO366.out).2.2 | (with_reducible refine Kd.C_alloc ?_ _) | (with_reducible refine Kd.C_drewN ?_ _) | (with_reducible refine Kd.C_drew ?_))); (case side4 => exact (Kd.R_reads' HO366.out).2.1); rintro e w' ⟨rfl, ⟨nd, rfl⟩⟩) | (go_at_call 26; (with_reducible refine (canopyref01_Strings.calls k _ _ y357 _ _ l2 true _ ?side1 ?side2 ?side3 ?side4 A18.out).mono ?_); (case side1 => repeat (first | exact (Kd.R_reads' HO359.out).2.2 | (with_reducible refine Kd.C_alloc ?_ _) | (with_reducible refine Kd.C_drewN ?_ _) | (with_reducible refine Kd.C_drew ?_))); (case side2 => exact (Kd.R_reads' HO359.out).2.1); (case side3 => repeat (first | exact (Kd.C_below HR2.out (by repeat (first | (with_reducible first | exact HB.out | apply below_alloc | apply pw_below_drewN | apply below_drew1) | exact HB.out))) | (with_reducible refine Kd.C_alloc ?_ _) | (with_reducible refine Kd.C_drewN ?_ _) | (with_reducible refine Kd.C_drew ?_))); (case side4 => exact HC2.out); rintro e w' ⟨rfl, ⟨nd, rfl⟩⟩) | (go_at_call 28; (with_reducible refine (units_Blank.calls a3 t369 _ A20.out).mono ?_); rintro e w' ⟨rfl, ⟨nd, rfl⟩⟩) | (go_at_call 29; (with_reducible refine (canopyref01_Blank.calls a3 t370 _ A21.out).mono ?_); rintro e w' ⟨rfl, ⟨nd, rfl⟩⟩))
            go_meet
            case rel => exact ⟨_, ((t369 != t370)), (by first | rfl | (simp; done) | (simp [*]; done)), H', ⟨by first | omega | exact Nat.le_refl _⟩, ⟨by repeat (first | (with_reducible first | exact HB.out | apply below_alloc | apply pw_below_drewN | apply below_drew1) | exact HB.out)⟩⟩
          · replace c19 := Bool.eq_false_iff.mpr c19
            subst c19
            have H1 : (canopylaw01_UnitsWords.j0 k a0 a1 true) = some r := by rw [if_neg (show ¬ (false = true) by decide)] at H; exact H
            clear H
            have H := H1
            clear H1
            have H' := Aside0.mk H
            clear H
            go_wp2_with (first | ((with_reducible refine gate_callee (f := 10) rfl ?_); refine goesL_ (some 16) rfl rfl Try.func10 (by kernel_rfl) rfl #[] rfl (by (try simp only [List.map_toArray, List.map_cons, List.map_nil]); first | done | rfl | (simp only [List.length_drop, List.length_take]; rfl)) ?_; (with_reducible refine (canopylaw01_lives.calls k  true _ A13.out).mono ?_); rintro e w26 ⟨rfl, hb⟩; refine ⟨_, rfl, ?_⟩; have n0_ := Aside0.mk (Kd.R_below (by (with_reducible repeat (first | apply Kd.R_alloc | apply Kd.R_drewN | apply Kd.R_drew)); exact HO359.out) hb); have n1_ := Aside0.mk (Kd.R_below (by (with_reducible repeat (first | apply Kd.R_alloc | apply Kd.R_drewN | apply Kd.R_drew)); exact HO362.out) hb); have n2_ := Aside0.mk (below_step (by repeat (first | (with_reducible first | exact HB.out | apply below_alloc | apply pw_below_drewN | apply below_drew1) | exact HB.out)) hb); clear HO359; clear HO362; clear HB; have HO359 := n0_; have HO362 := n1_; have HB := n2_; clear n0_ n1_ n2_; (try clear hb); (try clear hb2); (try clear hk); (try clear hi)) | (go_at_call 27; (with_reducible refine (canopyref01_Set.calls k _ _ l2 t364 _ ?side1 ?side2 A15.out).mono ?_); (case side1 => repeat (first | exact (Kd.C_below HR2.out HB.out) | (with_reducible refine Kd.C_alloc ?_ _) | (with_reducible refine Kd.C_drewN ?_ _) | (with_reducible refine Kd.C_drew ?_))); (case side2 => exact HC2.out); rintro e w27 ⟨v365, rfl, ho0, hb⟩; have n0_ := Aside0.mk (Kd.R_elder' (by (with_reducible repeat (first | apply Kd.R_alloc | apply Kd.R_drewN | apply Kd.R_drew)); exact HO359.out) (Kd.R_base ho0) hb); have n1_ := Aside0.mk (Kd.R_elder' (by (with_reducible repeat (first | apply Kd.R_alloc | apply Kd.R_drewN | apply Kd.R_drew)); exact HO362.out) (Kd.R_base ho0) hb); have n2_ := Aside0.mk (Kd.R_lower (Kd.R_new' (Kd.R_new' ho0 (Kd.R_lt (by (with_reducible repeat (first | apply Kd.R_alloc | apply Kd.R_drewN | apply Kd.R_drew)); exact HO359.out))) (Kd.R_lt (by (with_reducible repeat (first | apply Kd.R_alloc | apply Kd.R_drewN | apply Kd.R_drew)); exact HO362.out))) (below_size (by repeat (first | (with_reducible first | exact HB.out | apply below_alloc | apply pw_below_drewN | apply below_drew1) | exact HB.out)))); have n3_ := Aside0.mk (below_step (by repeat (first | (with_reducible first | exact HB.out | apply below_alloc | apply pw_below_drewN | apply below_drew1) | exact HB.out)) hb); clear HO359; clear HO362; clear HB; have HO359 := n0_; have HO362 := n1_; have HO366 := n2_; have HB := n3_; clear n0_ n1_ n2_ n3_; (try clear hb); (try clear hb2); (try clear hk); (try clear hi); (try clear ho0); obtain ⟨Ao28, co28, eo28⟩ := Kd.R_slice HO362.out; subst eo28; obtain ⟨Ao29, co29, eo29⟩ := Kd.R_slice HO366.out; subst eo29) | (go_at_call 26; (with_reducible refine (canopyref01_Strings.calls k _ _ t360 _ _ t364 true _ ?side1 ?side2 ?side3 ?side4 A16.out).mono ?_); (case side1 => repeat (first | exact (Kd.R_reads' HO362.out).2.2 | (with_reducible refine Kd.C_alloc ?_ _) | (with_reducible refine Kd.C_drewN ?_ _) | (with_reducible refine Kd.C_drew ?_))); (case side2 => exact (Kd.R_reads' HO362.out).2.1); (case side3 => repeat (first | exact (Kd.R_reads' HO366.out).2.2 | (with_reducible refine Kd.C_alloc ?_ _) | (with_reducible refine Kd.C_drewN ?_ _) | (with_reducible refine Kd.C_drew ?_))); (case side4 => exact (Kd.R_reads' HO366.out).2.1); rintro e w' ⟨rfl, ⟨nd, rfl⟩⟩) | (go_at_call 26; (with_reducible refine (canopyref01_Strings.calls k _ _ y357 _ _ l2 false _ ?side1 ?side2 ?side3 ?side4 A18.out).mono ?_); (case side1 => repeat (first | exact (Kd.R_reads' HO359.out).2.2 | (with_reducible refine Kd.C_alloc ?_ _) | (with_reducible refine Kd.C_drewN ?_ _) | (with_reducible refine Kd.C_drew ?_))); (case side2 => exact (Kd.R_reads' HO359.out).2.1); (case side3 => repeat (first | exact (Kd.C_below HR2.out (by repeat (first | (with_reducible first | exact HB.out | apply below_alloc | apply pw_below_drewN | apply below_drew1) | exact HB.out))) | (with_reducible refine Kd.C_alloc ?_ _) | (with_reducible refine Kd.C_drewN ?_ _) | (with_reducible refine Kd.C_drew ?_))); (case side4 => exact HC2.out); rintro e w' ⟨rfl, ⟨nd, rfl⟩⟩))
            go_meet
            case rel => exact ⟨_, (true), (by first | rfl | (simp; done) | (simp [*]; done)), H', ⟨by first | omega | exact Nat.le_refl _⟩, ⟨by repeat (first | (with_reducible first | exact HB.out | apply below_alloc | apply pw_below_drewN | apply below_drew1) | exact HB.out)⟩⟩
        · replace c17 := Bool.eq_false_iff.mpr c17
          subst c17
          have H1 : (canopylaw01_UnitsWords.j0 k a0 a1 true) = some r := by rw [if_neg (show ¬ (false = true) by decide)] at H; exact H
          clear H
          have H := H1
          clear H1
          have H' := Aside0.mk H
          clear H
          go_wp2_with (first | ((with_reducible refine gate_callee (f := 10) rfl ?_); refine goesL_ (some 16) rfl rfl Try.func10 (by kernel_rfl) rfl #[] rfl (by (try simp only [List.map_toArray, List.map_cons, List.map_nil]); first | done | rfl | (simp only [List.length_drop, List.length_take]; rfl)) ?_; (with_reducible refine (canopylaw01_lives.calls k  true _ A13.out).mono ?_); rintro e w30 ⟨rfl, hb⟩; refine ⟨_, rfl, ?_⟩; have n0_ := Aside0.mk (Kd.R_below (by (with_reducible repeat (first | apply Kd.R_alloc | apply Kd.R_drewN | apply Kd.R_drew)); exact HO359.out) hb); have n1_ := Aside0.mk (Kd.R_below (by (with_reducible repeat (first | apply Kd.R_alloc | apply Kd.R_drewN | apply Kd.R_drew)); exact HO362.out) hb); have n2_ := Aside0.mk (below_step (by repeat (first | (with_reducible first | exact HB.out | apply below_alloc | apply pw_below_drewN | apply below_drew1) | exact HB.out)) hb); clear HO359; clear HO362; clear HB; have HO359 := n0_; have HO362 := n1_; have HB := n2_; clear n0_ n1_ n2_; (try clear hb); (try clear hb2); (try clear hk); (try clear hi)) | (go_at_call 27; (with_reducible refine (canopyref01_Set.calls k _ _ l2 t364 _ ?side1 ?side2 A15.out).mono ?_); (case side1 => repeat (first | exact (Kd.C_below HR2.out HB.out) | (with_reducible refine Kd.C_alloc ?_ _) | (with_reducible refine Kd.C_drewN ?_ _) | (with_reducible refine Kd.C_drew ?_))); (case side2 => exact HC2.out); rintro e w31 ⟨v365, rfl, ho0, hb⟩; have n0_ := Aside0.mk (Kd.R_elder' (by (with_reducible repeat (first | apply Kd.R_alloc | apply Kd.R_drewN | apply Kd.R_drew)); exact HO359.out) (Kd.R_base ho0) hb); have n1_ := Aside0.mk (Kd.R_elder' (by (with_reducible repeat (first | apply Kd.R_alloc | apply Kd.R_drewN | apply Kd.R_drew)); exact HO362.out) (Kd.R_base ho0) hb); have n2_ := Aside0.mk (Kd.R_lower (Kd.R_new' (Kd.R_new' ho0 (Kd.R_lt (by (with_reducible repeat (first | apply Kd.R_alloc | apply Kd.R_drewN | apply Kd.R_drew)); exact HO359.out))) (Kd.R_lt (by (with_reducible repeat (first | apply Kd.R_alloc | apply Kd.R_drewN | apply Kd.R_drew)); exact HO362.out))) (below_size (by repeat (first | (with_reducible first | exact HB.out | apply below_alloc | apply pw_below_drewN | apply below_drew1) | exact HB.out)))); have n3_ := Aside0.mk (below_step (by repeat (first | (with_reducible first | exact HB.out | apply below_alloc | apply pw_below_drewN | apply below_drew1) | exact HB.out)) hb); clear HO359; clear HO362; clear HB; have HO359 := n0_; have HO362 := n1_; have HO366 := n2_; have HB := n3_; clear n0_ n1_ n2_ n3_; (try clear hb); (try clear hb2); (try clear hk); (try clear hi); (try clear ho0); obtain ⟨Ao32, co32, eo32⟩ := Kd.R_slice HO362.out; subst eo32; obtain ⟨Ao33, co33, eo33⟩ := Kd.R_slice HO366.out; subst eo33) | (go_at_call 26; (with_reducible refine (canopyref01_Strings.calls k _ _ t360 _ _ t364 false _ ?side1 ?side2 ?side3 ?side4 A16.out).mono ?_); (case side1 => repeat (first | exact (Kd.R_reads' HO362.out).2.2 | (with_reducible refine Kd.C_alloc ?_ _) | (with_reducible refine Kd.C_drewN ?_ _) | (with_reducible refine Kd.C_drew ?_))); (case side2 => exact (Kd.R_reads' HO362.out).2.1); (case side3 => repeat (first | exact (Kd.R_reads' HO366.out).2.2 | (with_reducible refine Kd.C_alloc ?_ _) | (with_reducible refine Kd.C_drewN ?_ _) | (with_reducible refine Kd.C_drew ?_))); (case side4 => exact (Kd.R_reads' HO366.out).2.1); rintro e w' ⟨rfl, ⟨nd, rfl⟩⟩))
          go_meet
          case rel => exact ⟨_, (true), (by first | rfl | (simp; done) | (simp [*]; done)), H', ⟨by first | omega | exact Nat.le_refl _⟩, ⟨by repeat (first | (with_reducible first | exact HB.out | apply below_alloc | apply pw_below_drewN | apply below_drew1) | exact HB.out)⟩⟩
      · replace c14 := Bool.eq_false_iff.mpr c14
        subst c14
        have H1 : (canopylaw01_UnitsWords.j0 k a0 a1 true) = some r := by rw [if_neg (show ¬ (false = true) by decide)] at H; exact H
        clear H
        have H := H1
        clear H1
        have H' := Aside0.mk H
        clear H
        go_wp2_with (first | ((with_reducible refine gate_callee (f := 10) rfl ?_); refine goesL_ (some 16) rfl rfl Try.func10 (by kernel_rfl) rfl #[] rfl (by (try simp only [List.map_toArray, List.map_cons, List.map_nil]); first | done | rfl | (simp only [List.length_drop, List.length_take]; rfl)) ?_; (with_reducible refine (canopylaw01_lives.calls k  false _ A13.out).mono ?_); rintro e w34 ⟨rfl, hb⟩; refine ⟨_, rfl, ?_⟩; have n0_ := Aside0.mk (Kd.R_below (by (with_reducible repeat (first | apply Kd.R_alloc | apply Kd.R_drewN | apply Kd.R_drew)); exact HO359.out) hb); have n1_ := Aside0.mk (Kd.R_below (by (with_reducible repeat (first | apply Kd.R_alloc | apply Kd.R_drewN | apply Kd.R_drew)); exact HO362.out) hb); have n2_ := Aside0.mk (below_step (by repeat (first | (with_reducible first | exact HB.out | apply below_alloc | apply pw_below_drewN | apply below_drew1) | exact HB.out)) hb); clear HO359; clear HO362; clear HB; have HO359 := n0_; have HO362 := n1_; have HB := n2_; clear n0_ n1_ n2_; (try clear hb); (try clear hb2); (try clear hk); (try clear hi)))
        go_meet
        case rel => exact ⟨_, (true), (by first | rfl | (simp; done) | (simp [*]; done)), H', ⟨by first | omega | exact Nat.le_refl _⟩, ⟨by repeat (first | (with_reducible first | exact HB.out | apply below_alloc | apply pw_below_drewN | apply below_drew1) | exact HB.out)⟩⟩
    case rest =>
      clear HC7
      try clear c1
      try clear c2
      try clear p2
      try clear c5
      try clear c8
      try clear c10
      try clear c14
      try clear c17
      try clear c19
      try clear c25
      obtain ⟨kq, x37_6, rfl, HA, HJ6, HB⟩ := hcut
      cases kq with
      | zero => exact absurd HA.out (by simp [canopylaw01_UnitsWords.j0])
      | succ kj6 =>
        have H := HA.out
        clear HA
        simp only [canopylaw01_UnitsWords.j0] at H
        by_cases c35 : x37_6 = true
        · subst c35
          have H1 : (some false) = some r := by rw [if_pos rfl] at H; exact H
          clear H
          have H := H1
          clear H1
          obtain rfl := Option.some.inj H
          go_wp2
          go_ret
          exact ⟨by first | rfl | (simp [errW_none, errW_some] <;> rfl) | (simp [*, errW_none, errW_some] <;> rfl), by repeat (first | (with_reducible first | exact HB.out | apply below_alloc | apply pw_below_drewN | apply below_drew1) | exact HB.out)⟩
        · replace c35 := Bool.eq_false_iff.mpr c35
          subst c35
          have H1 : ((units_Lower.f a0).bind fun t371 => ((canopyref01_Lower.f kj6 a0).bind fun t372 => (if t371.toList = t372.toList then ((units_Fold.f a0 a1).bind fun t373 => ((canopyref01_Lower.f kj6 a0).bind fun t374 => ((canopyref01_Lower.f kj6 a1).bind fun t375 => (if (t373 == (t374.toList == t375.toList)) = true then ((units_Strip.f kj6 a0).bind fun t376 => ((canopyref01_Strip.f kj6 a0).bind fun t377 => (if t376.toList = t377.toList then ((units_Split.f kj6 a0).bind fun t378 => ((canopyref01_Split.f kj6 a0).bind fun t381 => ((canopyref01_Strings.f kj6 t378 t381).bind fun t384 => (if t384 = true then ((units_Collapse.f kj6 a0).bind fun t385 => ((canopyref01_Split.f kj6 a0).bind fun t386 => ((canopyref01_Join.f kj6 t386).bind fun t389 => (some (t385.toList == t389.toList))))) else (some false))))) else (some false)))) else (some false))))) else (some false)))) = some r := by rw [if_neg (show ¬ (false = true) by decide)] at H; exact H
          clear H
          have H := H1
          clear H1
          replace H := Option.bind_eq_some_iff.mp H
          obtain ⟨t371, A360, H⟩ := H
          replace H : ((canopyref01_Lower.f kj6 a0).bind fun t372 => (if t371.toList = t372.toList then ((units_Fold.f a0 a1).bind fun t373 => ((canopyref01_Lower.f kj6 a0).bind fun t374 => ((canopyref01_Lower.f kj6 a1).bind fun t375 => (if (t373 == (t374.toList == t375.toList)) = true then ((units_Strip.f kj6 a0).bind fun t376 => ((canopyref01_Strip.f kj6 a0).bind fun t377 => (if t376.toList = t377.toList then ((units_Split.f kj6 a0).bind fun t378 => ((canopyref01_Split.f kj6 a0).bind fun t381 => ((canopyref01_Strings.f kj6 t378 t381).bind fun t384 => (if t384 = true then ((units_Collapse.f kj6 a0).bind fun t385 => ((canopyref01_Split.f kj6 a0).bind fun t386 => ((canopyref01_Join.f kj6 t386).bind fun t389 => (some (t385.toList == t389.toList))))) else (some false))))) else (some false)))) else (some false))))) else (some false))) = some r := H
          have A36 := Aside0.mk A360
          clear A360
          replace H := Option.bind_eq_some_iff.mp H
          obtain ⟨t372, A370, H⟩ := H
          replace H : (if t371.toList = t372.toList then ((units_Fold.f a0 a1).bind fun t373 => ((canopyref01_Lower.f kj6 a0).bind fun t374 => ((canopyref01_Lower.f kj6 a1).bind fun t375 => (if (t373 == (t374.toList == t375.toList)) = true then ((units_Strip.f kj6 a0).bind fun t376 => ((canopyref01_Strip.f kj6 a0).bind fun t377 => (if t376.toList = t377.toList then ((units_Split.f kj6 a0).bind fun t378 => ((canopyref01_Split.f kj6 a0).bind fun t381 => ((canopyref01_Strings.f kj6 t378 t381).bind fun t384 => (if t384 = true then ((units_Collapse.f kj6 a0).bind fun t385 => ((canopyref01_Split.f kj6 a0).bind fun t386 => ((canopyref01_Join.f kj6 t386).bind fun t389 => (some (t385.toList == t389.toList))))) else (some false))))) else (some false)))) else (some false))))) else (some false)) = some r := H
          have A37 := Aside0.mk A370
          clear A370
          by_cases c38 : t371.toList = t372.toList
          · rw [if_pos c38] at H
            have c38b0 : (t371.toList == t372.toList) = true := beq_iff_eq.mpr c38
            have c38b1 : (t371.toList != t372.toList) = false := bne_eq_false_iff_eq.mpr c38
            clear c38
            replace H := Option.bind_eq_some_iff.mp H
            obtain ⟨t373, A390, H⟩ := H
            replace H : ((canopyref01_Lower.f kj6 a0).bind fun t374 => ((canopyref01_Lower.f kj6 a1).bind fun t375 => (if (t373 == (t374.toList == t375.toList)) = true then ((units_Strip.f kj6 a0).bind fun t376 => ((canopyref01_Strip.f kj6 a0).bind fun t377 => (if t376.toList = t377.toList then ((units_Split.f kj6 a0).bind fun t378 => ((canopyref01_Split.f kj6 a0).bind fun t381 => ((canopyref01_Strings.f kj6 t378 t381).bind fun t384 => (if t384 = true then ((units_Collapse.f kj6 a0).bind fun t385 => ((canopyref01_Split.f kj6 a0).bind fun t386 => ((canopyref01_Join.f kj6 t386).bind fun t389 => (some (t385.toList == t389.toList))))) else (some false))))) else (some false)))) else (some false)))) = some r := H
            have A39 := Aside0.mk A390
            clear A390
            replace H := Option.bind_eq_some_iff.mp H
            obtain ⟨t374, A400, H⟩ := H
            replace H : ((canopyref01_Lower.f kj6 a1).bind fun t375 => (if (t373 == (t374.toList == t375.toList)) = true then ((units_Strip.f kj6 a0).bind fun t376 => ((canopyref01_Strip.f kj6 a0).bind fun t377 => (if t376.toList = t377.toList then ((units_Split.f kj6 a0).bind fun t378 => ((canopyref01_Split.f kj6 a0).bind fun t381 => ((canopyref01_Strings.f kj6 t378 t381).bind fun t384 => (if t384 = true then ((units_Collapse.f kj6 a0).bind fun t385 => ((canopyref01_Split.f kj6 a0).bind fun t386 => ((canopyref01_Join.f kj6 t386).bind fun t389 => (some (t385.toList == t389.toList))))) else (some false))))) else (some false)))) else (some false))) = some r := H
            have A40 := Aside0.mk A400
            clear A400
            replace H := Option.bind_eq_some_iff.mp H
            obtain ⟨t375, A410, H⟩ := H
            replace H : (if (t373 == (t374.toList == t375.toList)) = true then ((units_Strip.f kj6 a0).bind fun t376 => ((canopyref01_Strip.f kj6 a0).bind fun t377 => (if t376.toList = t377.toList then ((units_Split.f kj6 a0).bind fun t378 => ((canopyref01_Split.f kj6 a0).bind fun t381 => ((canopyref01_Strings.f kj6 t378 t381).bind fun t384 => (if t384 = true then ((units_Collapse.f kj6 a0).bind fun t385 => ((canopyref01_Split.f kj6 a0).bind fun t386 => ((canopyref01_Join.f kj6 t386).bind fun t389 => (some (t385.toList == t389.toList))))) else (some false))))) else (some false)))) else (some false)) = some r := H
            have A41 := Aside0.mk A410
            clear A410
            by_cases c42 : (t373 == (t374.toList == t375.toList)) = true
            · rw [if_pos c42] at H
              have c42b0 : (t373 == (t374.toList == t375.toList)) = true := c42
              (try (have c42b1 : decide (t373 = (t374.toList == t375.toList)) = true := by simpa using c42))
              (try (have c42b2 : (t373 == (t374.toList == t375.toList)) = true := by simpa using c42))
              clear c42
              replace H := Option.bind_eq_some_iff.mp H
              obtain ⟨t376, A430, H⟩ := H
              replace H : ((canopyref01_Strip.f kj6 a0).bind fun t377 => (if t376.toList = t377.toList then ((units_Split.f kj6 a0).bind fun t378 => ((canopyref01_Split.f kj6 a0).bind fun t381 => ((canopyref01_Strings.f kj6 t378 t381).bind fun t384 => (if t384 = true then ((units_Collapse.f kj6 a0).bind fun t385 => ((canopyref01_Split.f kj6 a0).bind fun t386 => ((canopyref01_Join.f kj6 t386).bind fun t389 => (some (t385.toList == t389.toList))))) else (some false))))) else (some false))) = some r := H
              have A43 := Aside0.mk A430
              clear A430
              replace H := Option.bind_eq_some_iff.mp H
              obtain ⟨t377, A440, H⟩ := H
              replace H : (if t376.toList = t377.toList then ((units_Split.f kj6 a0).bind fun t378 => ((canopyref01_Split.f kj6 a0).bind fun t381 => ((canopyref01_Strings.f kj6 t378 t381).bind fun t384 => (if t384 = true then ((units_Collapse.f kj6 a0).bind fun t385 => ((canopyref01_Split.f kj6 a0).bind fun t386 => ((canopyref01_Join.f kj6 t386).bind fun t389 => (some (t385.toList == t389.toList))))) else (some false))))) else (some false)) = some r := H
              have A44 := Aside0.mk A440
              clear A440
              by_cases c45 : t376.toList = t377.toList
              · rw [if_pos c45] at H
                have c45b0 : (t376.toList == t377.toList) = true := beq_iff_eq.mpr c45
                have c45b1 : (t376.toList != t377.toList) = false := bne_eq_false_iff_eq.mpr c45
                clear c45
                replace H := Option.bind_eq_some_iff.mp H
                obtain ⟨t378, A460, H⟩ := H
                replace H : ((canopyref01_Split.f kj6 a0).bind fun t381 => ((canopyref01_Strings.f kj6 t378 t381).bind fun t384 => (if t384 = true then ((units_Collapse.f kj6 a0).bind fun t385 => ((canopyref01_Split.f kj6 a0).bind fun t386 => ((canopyref01_Join.f kj6 t386).bind fun t389 => (some (t385.toList == t389.toList))))) else (some false)))) = some r := H
                have A46 := Aside0.mk A460
                clear A460
                replace H := Option.bind_eq_some_iff.mp H
                obtain ⟨t381, A470, H⟩ := H
                replace H : ((canopyref01_Strings.f kj6 t378 t381).bind fun t384 => (if t384 = true then ((units_Collapse.f kj6 a0).bind fun t385 => ((canopyref01_Split.f kj6 a0).bind fun t386 => ((canopyref01_Join.f kj6 t386).bind fun t389 => (some (t385.toList == t389.toList))))) else (some false))) = some r := H
                have A47 := Aside0.mk A470
                clear A470
                replace H := Option.bind_eq_some_iff.mp H
                obtain ⟨t384, A480, H⟩ := H
                replace H : (if t384 = true then ((units_Collapse.f kj6 a0).bind fun t385 => ((canopyref01_Split.f kj6 a0).bind fun t386 => ((canopyref01_Join.f kj6 t386).bind fun t389 => (some (t385.toList == t389.toList))))) else (some false)) = some r := H
                have A48 := Aside0.mk A480
                clear A480
                by_cases c49 : t384 = true
                · subst c49
                  have H1 : ((units_Collapse.f kj6 a0).bind fun t385 => ((canopyref01_Split.f kj6 a0).bind fun t386 => ((canopyref01_Join.f kj6 t386).bind fun t389 => (some (t385.toList == t389.toList))))) = some r := by rw [if_pos rfl] at H; exact H
                  clear H
                  have H := H1
                  clear H1
                  replace H := Option.bind_eq_some_iff.mp H
                  obtain ⟨t385, A500, H⟩ := H
                  replace H : ((canopyref01_Split.f kj6 a0).bind fun t386 => ((canopyref01_Join.f kj6 t386).bind fun t389 => (some (t385.toList == t389.toList)))) = some r := H
                  have A50 := Aside0.mk A500
                  clear A500
                  replace H := Option.bind_eq_some_iff.mp H
                  obtain ⟨t386, A510, H⟩ := H
                  replace H : ((canopyref01_Join.f kj6 t386).bind fun t389 => (some (t385.toList == t389.toList))) = some r := H
                  have A51 := Aside0.mk A510
                  clear A510
                  replace H := Option.bind_eq_some_iff.mp H
                  obtain ⟨t389, A520, H⟩ := H
                  replace H : (some (t385.toList == t389.toList)) = some r := H
                  have A52 := Aside0.mk A520
                  clear A520
                  obtain rfl := Option.some.inj H
                  go_wp2_with (first | ((with_reducible refine gate_callee (f := 30) rfl ?_); refine goesL_ (some 39) rfl rfl Try.func30 (by kernel_rfl) rfl #[.string a0] rfl (by (try simp only [List.map_toArray, List.map_cons, List.map_nil]); first | done | rfl | (simp only [List.length_drop, List.length_take]; rfl)) ?_; (with_reducible refine (units_Lower.calls a0 t371 _ A36.out).mono ?_); rintro e w53 ⟨rfl, hb⟩; refine ⟨_, rfl, ?_⟩; have n0_ := Aside0.mk (below_step (by repeat (first | (with_reducible first | exact HB.out | apply below_alloc | apply pw_below_drewN | apply below_drew1) | exact HB.out)) hb); clear HB; have HB := n0_; clear n0_; (try clear hb); (try clear hb2); (try clear hk); (try clear hi)) | ((with_reducible refine gate_callee (f := 31) rfl ?_); refine goesL_ (some 41) rfl rfl Try.func31 (by kernel_rfl) rfl #[.string a0] rfl (by (try simp only [List.map_toArray, List.map_cons, List.map_nil]); first | done | rfl | (simp only [List.length_drop, List.length_take]; rfl)) ?_; (with_reducible refine (canopyref01_Lower.calls kj6 a0 t372 _ A37.out).mono ?_); rintro e w54 ⟨rfl, hb⟩; refine ⟨_, rfl, ?_⟩; have n0_ := Aside0.mk (below_step (by repeat (first | (with_reducible first | exact HB.out | apply below_alloc | apply pw_below_drewN | apply below_drew1) | exact HB.out)) hb); clear HB; have HB := n0_; clear n0_; (try clear hb); (try clear hb2); (try clear hk); (try clear hi)) | (go_at_call 32; (with_reducible refine (units_Fold.calls a0 a1 t373 _ A39.out).mono ?_); rintro e w55 ⟨rfl, hb⟩; have n0_ := Aside0.mk (below_step (by repeat (first | (with_reducible first | exact HB.out | apply below_alloc | apply pw_below_drewN | apply below_drew1) | exact HB.out)) hb); clear HB; have HB := n0_; clear n0_; (try clear hb); (try clear hb2); (try clear hk); (try clear hi)) | (go_at_call 31; (with_reducible refine (canopyref01_Lower.calls kj6 a0 t374 _ A40.out).mono ?_); rintro e w56 ⟨rfl, hb⟩; have n0_ := Aside0.mk (below_step (by repeat (first | (with_reducible first | exact HB.out | apply below_alloc | apply pw_below_drewN | apply below_drew1) | exact HB.out)) hb); clear HB; have HB := n0_; clear n0_; (try clear hb); (try clear hb2); (try clear hk); (try clear hi)) | (go_at_call 31; (with_reducible refine (canopyref01_Lower.calls kj6 a1 t375 _ A41.out).mono ?_); rintro e w57 ⟨rfl, hb⟩; have n0_ := Aside0.mk (below_step (by repeat (first | (with_reducible first | exact HB.out | apply below_alloc | apply pw_below_drewN | apply below_drew1) | exact HB.out)) hb); clear HB; have HB := n0_; clear n0_; (try clear hb); (try clear hb2); (try clear hk); (try clear hi)) | (go_at_call 33; (with_reducible refine (units_Strip.calls kj6 a0 t376 _ A43.out).mono ?_); rintro e w' ⟨rfl, ⟨nd, rfl⟩⟩) | (go_at_call 34; (with_reducible refine (canopyref01_Strip.calls kj6 a0 t377 _ A44.out).mono ?_); rintro e w' ⟨rfl, ⟨nd, rfl⟩⟩) | (go_at_call 35; (with_reducible refine (units_Split.calls kj6 a0 t378 _ A46.out).mono ?_); rintro e w58 ⟨v379, rfl, ho0, hb⟩; have n0_ := Aside0.mk (Kd.R_lower ho0 (below_size (by repeat (first | (with_reducible first | exact HB.out | apply below_alloc | apply pw_below_drewN | apply below_drew1) | exact HB.out)))); have n1_ := Aside0.mk (below_step (by repeat (first | (with_reducible first | exact HB.out | apply below_alloc | apply pw_below_drewN | apply below_drew1) | exact HB.out)) hb); clear HB; have HO380 := n0_; have HB := n1_; clear n0_ n1_; (try clear hb); (try clear hb2); (try clear hk); (try clear hi); (try clear ho0)) | (go_at_call 36; (with_reducible refine (canopyref01_Split.calls kj6 a0 t381 _ A47.out).mono ?_); rintro e w59 ⟨v382, rfl, ho0, hb⟩; have n0_ := Aside0.mk (Kd.R_elder' (by (with_reducible repeat (first | apply Kd.R_alloc | apply Kd.R_drewN | apply Kd.R_drew)); exact HO380.out) (Kd.R_base ho0) hb); have n1_ := Aside0.mk (Kd.R_lower (Kd.R_new' ho0 (Kd.R_lt (by (with_reducible repeat (first | apply Kd.R_alloc | apply Kd.R_drewN | apply Kd.R_drew)); exact HO380.out))) (below_size (by repeat (first | (with_reducible first | exact HB.out | apply below_alloc | apply pw_below_drewN | apply below_drew1) | exact HB.out)))); have n2_ := Aside0.mk (below_step (by repeat (first | (with_reducible first | exact HB.out | apply below_alloc | apply pw_below_drewN | apply below_drew1) | exact HB.out)) hb); clear HO380; clear HB; have HO380 := n0_; have HO383 := n1_; have HB := n2_; clear n0_ n1_ n2_; (try clear hb); (try clear hb2); (try clear hk); (try clear hi); (try clear ho0); obtain ⟨Ao60, co60, eo60⟩ := Kd.R_slice HO380.out; subst eo60; obtain ⟨Ao61, co61, eo61⟩ := Kd.R_slice HO383.out; subst eo61) | (go_at_call 26; (with_reducible refine (canopyref01_Strings.calls kj6 _ _ t378 _ _ t381 true _ ?side1 ?side2 ?side3 ?side4 A48.out).mono ?_); (case side1 => repeat (first | exact (Kd.R_reads' HO380.out).2.2 | (with_reducible refine Kd.C_alloc ?_ _) | (with_reducible refine Kd.C_drewN ?_ _) | (with_reducible refine Kd.C_drew ?_))); (case side2 => exact (Kd.R_reads' HO380.out).2.1); (case side3 => repeat (first | exact (Kd.R_reads' HO383.out).2.2 | (with_reducible refine Kd.C_alloc ?_ _) | (with_reducible refine Kd.C_drewN ?_ _) | (with_reducible refine Kd.C_drew ?_))); (case side4 => exact (Kd.R_reads' HO383.out).2.1); rintro e w' ⟨rfl, ⟨nd, rfl⟩⟩) | (go_at_call 37; (with_reducible refine (units_Collapse.calls kj6 a0 t385 _ A50.out).mono ?_); rintro e w62 ⟨rfl, hb⟩; have n0_ := Aside0.mk (Kd.R_below (by (with_reducible repeat (first | apply Kd.R_alloc | apply Kd.R_drewN | apply Kd.R_drew)); exact HO380.out) hb); have n1_ := Aside0.mk (Kd.R_below (by (with_reducible repeat (first | apply Kd.R_alloc | apply Kd.R_drewN | apply Kd.R_drew)); exact HO383.out) hb); have n2_ := Aside0.mk (below_step (by repeat (first | (with_reducible first | exact HB.out | apply below_alloc | apply pw_below_drewN | apply below_drew1) | exact HB.out)) hb); clear HO380; clear HO383; clear HB; have HO380 := n0_; have HO383 := n1_; have HB := n2_; clear n0_ n1_ n2_; (try clear hb); (try clear hb2); (try clear hk); (try clear hi)) | (go_at_call 36; (with_reducible refine (canopyref01_Split.calls kj6 a0 t386 _ A51.out).mono ?_); rintro e w63 ⟨v387, rfl, ho0, hb⟩; have n0_ := Aside0.mk (Kd.R_elder' (by (with_reducible repeat (first | apply Kd.R_alloc | apply Kd.R_drewN | apply Kd.R_drew)); exact HO380.out) (Kd.R_base ho0) hb); have n1_ := Aside0.mk (Kd.R_elder' (by (with_reducible repeat (first | apply Kd.R_alloc | apply Kd.R_drewN | apply Kd.R_drew)); exact HO383.out) (Kd.R_base ho0) hb); have n2_ := Aside0.mk (Kd.R_lower (Kd.R_new' (Kd.R_new' ho0 (Kd.R_lt (by (with_reducible repeat (first | apply Kd.R_alloc | apply Kd.R_drewN | apply Kd.R_drew)); exact HO380.out))) (Kd.R_lt (by (with_reducible repeat (first | apply Kd.R_alloc | apply Kd.R_drewN | apply Kd.R_drew)); exact HO383.out))) (below_size (by repeat (first | (with_reducible first | exact HB.out | apply below_alloc | apply pw_below_drewN | apply below_drew1) | exact HB.out)))); have n3_ := Aside0.mk (below_step (by repeat (first | (with_reducible first | exact HB.out | apply below_alloc | apply pw_below_drewN | apply below_drew1) | exact HB.out)) hb); clear HO380; clear HO383; clear HB; have HO380 := n0_; have HO383 := n1_; have HO388 := n2_; have HB := n3_; clear n0_ n1_ n2_ n3_; (try clear hb); (try clear hb2); (try clear hk); (try clear hi); (try clear ho0); obtain ⟨Ao64, co64, eo64⟩ := Kd.R_slice HO388.out; subst eo64) | (go_at_call 38; (with_reducible refine (canopyref01_Join.calls kj6 _ _ t386 t389 _ ?side1 ?side2 A52.out).mono ?_); (case side1 => repeat (first | exact (Kd.R_reads' HO388.out).2.2 | (with_reducible refine Kd.C_alloc ?_ _) | (with_reducible refine Kd.C_drewN ?_ _) | (with_reducible refine Kd.C_drew ?_))); (case side2 => exact (Kd.R_reads' HO388.out).2.1); rintro e w65 ⟨rfl, hb⟩; have n0_ := Aside0.mk (Kd.R_below (by (with_reducible repeat (first | apply Kd.R_alloc | apply Kd.R_drewN | apply Kd.R_drew)); exact HO380.out) hb); have n1_ := Aside0.mk (Kd.R_below (by (with_reducible repeat (first | apply Kd.R_alloc | apply Kd.R_drewN | apply Kd.R_drew)); exact HO383.out) hb); have n2_ := Aside0.mk (Kd.R_below (by (with_reducible repeat (first | apply Kd.R_alloc | apply Kd.R_drewN | apply Kd.R_drew)); exact HO388.out) hb); have n3_ := Aside0.mk (below_step (by repeat (first | (with_reducible first | exact HB.out | apply below_alloc | apply pw_below_drewN | apply below_drew1) | exact HB.out)) hb); clear HO380; clear HO383; clear HO388; clear HB; have HO380 := n0_; have HO383 := n1_; have HO388 := n2_; have HB := n3_; clear n0_ n1_ n2_ n3_; (try clear hb); (try clear hb2); (try clear hk); (try clear hi)))
                  go_ret
                  exact ⟨by first | rfl | (simp [errW_none, errW_some] <;> rfl) | (simp [*, errW_none, errW_some] <;> rfl), by repeat (first | (with_reducible first | exact HB.out | apply below_alloc | apply pw_below_drewN | apply below_drew1) | exact HB.out)⟩
                · replace c49 := Bool.eq_false_iff.mpr c49
                  subst c49
                  have H1 : (some false) = some r := by rw [if_neg (show ¬ (false = true) by decide)] at H; exact H
                  clear H
                  have H := H1
                  clear H1
                  obtain rfl := Option.some.inj H
                  go_wp2_with (first | ((with_reducible refine gate_callee (f := 30) rfl ?_); refine goesL_ (some 39) rfl rfl Try.func30 (by kernel_rfl) rfl #[.string a0] rfl (by (try simp only [List.map_toArray, List.map_cons, List.map_nil]); first | done | rfl | (simp only [List.length_drop, List.length_take]; rfl)) ?_; (with_reducible refine (units_Lower.calls a0 t371 _ A36.out).mono ?_); rintro e w66 ⟨rfl, hb⟩; refine ⟨_, rfl, ?_⟩; have n0_ := Aside0.mk (below_step (by repeat (first | (with_reducible first | exact HB.out | apply below_alloc | apply pw_below_drewN | apply below_drew1) | exact HB.out)) hb); clear HB; have HB := n0_; clear n0_; (try clear hb); (try clear hb2); (try clear hk); (try clear hi)) | ((with_reducible refine gate_callee (f := 31) rfl ?_); refine goesL_ (some 41) rfl rfl Try.func31 (by kernel_rfl) rfl #[.string a0] rfl (by (try simp only [List.map_toArray, List.map_cons, List.map_nil]); first | done | rfl | (simp only [List.length_drop, List.length_take]; rfl)) ?_; (with_reducible refine (canopyref01_Lower.calls kj6 a0 t372 _ A37.out).mono ?_); rintro e w67 ⟨rfl, hb⟩; refine ⟨_, rfl, ?_⟩; have n0_ := Aside0.mk (below_step (by repeat (first | (with_reducible first | exact HB.out | apply below_alloc | apply pw_below_drewN | apply below_drew1) | exact HB.out)) hb); clear HB; have HB := n0_; clear n0_; (try clear hb); (try clear hb2); (try clear hk); (try clear hi)) | (go_at_call 32; (with_reducible refine (units_Fold.calls a0 a1 t373 _ A39.out).mono ?_); rintro e w68 ⟨rfl, hb⟩; have n0_ := Aside0.mk (below_step (by repeat (first | (with_reducible first | exact HB.out | apply below_alloc | apply pw_below_drewN | apply below_drew1) | exact HB.out)) hb); clear HB; have HB := n0_; clear n0_; (try clear hb); (try clear hb2); (try clear hk); (try clear hi)) | (go_at_call 31; (with_reducible refine (canopyref01_Lower.calls kj6 a0 t374 _ A40.out).mono ?_); rintro e w69 ⟨rfl, hb⟩; have n0_ := Aside0.mk (below_step (by repeat (first | (with_reducible first | exact HB.out | apply below_alloc | apply pw_below_drewN | apply below_drew1) | exact HB.out)) hb); clear HB; have HB := n0_; clear n0_; (try clear hb); (try clear hb2); (try clear hk); (try clear hi)) | (go_at_call 31; (with_reducible refine (canopyref01_Lower.calls kj6 a1 t375 _ A41.out).mono ?_); rintro e w70 ⟨rfl, hb⟩; have n0_ := Aside0.mk (below_step (by repeat (first | (with_reducible first | exact HB.out | apply below_alloc | apply pw_below_drewN | apply below_drew1) | exact HB.out)) hb); clear HB; have HB := n0_; clear n0_; (try clear hb); (try clear hb2); (try clear hk); (try clear hi)) | (go_at_call 33; (with_reducible refine (units_Strip.calls kj6 a0 t376 _ A43.out).mono ?_); rintro e w' ⟨rfl, ⟨nd, rfl⟩⟩) | (go_at_call 34; (with_reducible refine (canopyref01_Strip.calls kj6 a0 t377 _ A44.out).mono ?_); rintro e w' ⟨rfl, ⟨nd, rfl⟩⟩) | (go_at_call 35; (with_reducible refine (units_Split.calls kj6 a0 t378 _ A46.out).mono ?_); rintro e w71 ⟨v379, rfl, ho0, hb⟩; have n0_ := Aside0.mk (Kd.R_lower ho0 (below_size (by repeat (first | (with_reducible first | exact HB.out | apply below_alloc | apply pw_below_drewN | apply below_drew1) | exact HB.out)))); have n1_ := Aside0.mk (below_step (by repeat (first | (with_reducible first | exact HB.out | apply below_alloc | apply pw_below_drewN | apply below_drew1) | exact HB.out)) hb); clear HB; have HO380 := n0_; have HB := n1_; clear n0_ n1_; (try clear hb); (try clear hb2); (try clear hk); (try clear hi); (try clear ho0)) | (go_at_call 36; (with_reducible refine (canopyref01_Split.calls kj6 a0 t381 _ A47.out).mono ?_); rintro e w72 ⟨v382, rfl, ho0, hb⟩; have n0_ := Aside0.mk (Kd.R_elder' (by (with_reducible repeat (first | apply Kd.R_alloc | apply Kd.R_drewN | apply Kd.R_drew)); exact HO380.out) (Kd.R_base ho0) hb); have n1_ := Aside0.mk (Kd.R_lower (Kd.R_new' ho0 (Kd.R_lt (by (with_reducible repeat (first | apply Kd.R_alloc | apply Kd.R_drewN | apply Kd.R_drew)); exact HO380.out))) (below_size (by repeat (first | (with_reducible first | exact HB.out | apply below_alloc | apply pw_below_drewN | apply below_drew1) | exact HB.out)))); have n2_ := Aside0.mk (below_step (by repeat (first | (with_reducible first | exact HB.out | apply below_alloc | apply pw_below_drewN | apply below_drew1) | exact HB.out)) hb); clear HO380; clear HB; have HO380 := n0_; have HO383 := n1_; have HB := n2_; clear n0_ n1_ n2_; (try clear hb); (try clear hb2); (try clear hk); (try clear hi); (try clear ho0); obtain ⟨Ao73, co73, eo73⟩ := Kd.R_slice HO380.out; subst eo73; obtain ⟨Ao74, co74, eo74⟩ := Kd.R_slice HO383.out; subst eo74) | (go_at_call 26; (with_reducible refine (canopyref01_Strings.calls kj6 _ _ t378 _ _ t381 false _ ?side1 ?side2 ?side3 ?side4 A48.out).mono ?_); (case side1 => repeat (first | exact (Kd.R_reads' HO380.out).2.2 | (with_reducible refine Kd.C_alloc ?_ _) | (with_reducible refine Kd.C_drewN ?_ _) | (with_reducible refine Kd.C_drew ?_))); (case side2 => exact (Kd.R_reads' HO380.out).2.1); (case side3 => repeat (first | exact (Kd.R_reads' HO383.out).2.2 | (with_reducible refine Kd.C_alloc ?_ _) | (with_reducible refine Kd.C_drewN ?_ _) | (with_reducible refine Kd.C_drew ?_))); (case side4 => exact (Kd.R_reads' HO383.out).2.1); rintro e w' ⟨rfl, ⟨nd, rfl⟩⟩))
                  go_ret
                  exact ⟨by first | rfl | (simp [errW_none, errW_some] <;> rfl) | (simp [*, errW_none, errW_some] <;> rfl), by repeat (first | (with_reducible first | exact HB.out | apply below_alloc | apply pw_below_drewN | apply below_drew1) | exact HB.out)⟩
              · rw [if_neg c45] at H
                have c45b0 : (t376.toList == t377.toList) = false := beq_eq_false_iff_ne.mpr c45
                have c45b1 : (t376.toList != t377.toList) = true := bne_iff_ne.mpr c45
                obtain rfl := Option.some.inj H
                go_wp2_with (first | ((with_reducible refine gate_callee (f := 30) rfl ?_); refine goesL_ (some 39) rfl rfl Try.func30 (by kernel_rfl) rfl #[.string a0] rfl (by (try simp only [List.map_toArray, List.map_cons, List.map_nil]); first | done | rfl | (simp only [List.length_drop, List.length_take]; rfl)) ?_; (with_reducible refine (units_Lower.calls a0 t371 _ A36.out).mono ?_); rintro e w75 ⟨rfl, hb⟩; refine ⟨_, rfl, ?_⟩; have n0_ := Aside0.mk (below_step (by repeat (first | (with_reducible first | exact HB.out | apply below_alloc | apply pw_below_drewN | apply below_drew1) | exact HB.out)) hb); clear HB; have HB := n0_; clear n0_; (try clear hb); (try clear hb2); (try clear hk); (try clear hi)) | ((with_reducible refine gate_callee (f := 31) rfl ?_); refine goesL_ (some 41) rfl rfl Try.func31 (by kernel_rfl) rfl #[.string a0] rfl (by (try simp only [List.map_toArray, List.map_cons, List.map_nil]); first | done | rfl | (simp only [List.length_drop, List.length_take]; rfl)) ?_; (with_reducible refine (canopyref01_Lower.calls kj6 a0 t372 _ A37.out).mono ?_); rintro e w76 ⟨rfl, hb⟩; refine ⟨_, rfl, ?_⟩; have n0_ := Aside0.mk (below_step (by repeat (first | (with_reducible first | exact HB.out | apply below_alloc | apply pw_below_drewN | apply below_drew1) | exact HB.out)) hb); clear HB; have HB := n0_; clear n0_; (try clear hb); (try clear hb2); (try clear hk); (try clear hi)) | (go_at_call 32; (with_reducible refine (units_Fold.calls a0 a1 t373 _ A39.out).mono ?_); rintro e w77 ⟨rfl, hb⟩; have n0_ := Aside0.mk (below_step (by repeat (first | (with_reducible first | exact HB.out | apply below_alloc | apply pw_below_drewN | apply below_drew1) | exact HB.out)) hb); clear HB; have HB := n0_; clear n0_; (try clear hb); (try clear hb2); (try clear hk); (try clear hi)) | (go_at_call 31; (with_reducible refine (canopyref01_Lower.calls kj6 a0 t374 _ A40.out).mono ?_); rintro e w78 ⟨rfl, hb⟩; have n0_ := Aside0.mk (below_step (by repeat (first | (with_reducible first | exact HB.out | apply below_alloc | apply pw_below_drewN | apply below_drew1) | exact HB.out)) hb); clear HB; have HB := n0_; clear n0_; (try clear hb); (try clear hb2); (try clear hk); (try clear hi)) | (go_at_call 31; (with_reducible refine (canopyref01_Lower.calls kj6 a1 t375 _ A41.out).mono ?_); rintro e w79 ⟨rfl, hb⟩; have n0_ := Aside0.mk (below_step (by repeat (first | (with_reducible first | exact HB.out | apply below_alloc | apply pw_below_drewN | apply below_drew1) | exact HB.out)) hb); clear HB; have HB := n0_; clear n0_; (try clear hb); (try clear hb2); (try clear hk); (try clear hi)) | (go_at_call 33; (with_reducible refine (units_Strip.calls kj6 a0 t376 _ A43.out).mono ?_); rintro e w' ⟨rfl, ⟨nd, rfl⟩⟩) | (go_at_call 34; (with_reducible refine (canopyref01_Strip.calls kj6 a0 t377 _ A44.out).mono ?_); rintro e w' ⟨rfl, ⟨nd, rfl⟩⟩))
                go_ret
                exact ⟨by first | rfl | (simp [errW_none, errW_some] <;> rfl) | (simp [*, errW_none, errW_some] <;> rfl), by repeat (first | (with_reducible first | exact HB.out | apply below_alloc | apply pw_below_drewN | apply below_drew1) | exact HB.out)⟩
            · rw [if_neg c42] at H
              have c42b0 : (t373 == (t374.toList == t375.toList)) = false := by simpa using c42
              (try (have c42b1 : decide (t373 = (t374.toList == t375.toList)) = false := by simpa using c42))
              (try (have c42b2 : (t373 == (t374.toList == t375.toList)) = false := by simpa using c42))
              (try (have c42b3 : ¬ (t373 = (t374.toList == t375.toList)) := by simpa using c42))
              clear c42
              obtain rfl := Option.some.inj H
              go_wp2_with (first | ((with_reducible refine gate_callee (f := 30) rfl ?_); refine goesL_ (some 39) rfl rfl Try.func30 (by kernel_rfl) rfl #[.string a0] rfl (by (try simp only [List.map_toArray, List.map_cons, List.map_nil]); first | done | rfl | (simp only [List.length_drop, List.length_take]; rfl)) ?_; (with_reducible refine (units_Lower.calls a0 t371 _ A36.out).mono ?_); rintro e w80 ⟨rfl, hb⟩; refine ⟨_, rfl, ?_⟩; have n0_ := Aside0.mk (below_step (by repeat (first | (with_reducible first | exact HB.out | apply below_alloc | apply pw_below_drewN | apply below_drew1) | exact HB.out)) hb); clear HB; have HB := n0_; clear n0_; (try clear hb); (try clear hb2); (try clear hk); (try clear hi)) | ((with_reducible refine gate_callee (f := 31) rfl ?_); refine goesL_ (some 41) rfl rfl Try.func31 (by kernel_rfl) rfl #[.string a0] rfl (by (try simp only [List.map_toArray, List.map_cons, List.map_nil]); first | done | rfl | (simp only [List.length_drop, List.length_take]; rfl)) ?_; (with_reducible refine (canopyref01_Lower.calls kj6 a0 t372 _ A37.out).mono ?_); rintro e w81 ⟨rfl, hb⟩; refine ⟨_, rfl, ?_⟩; have n0_ := Aside0.mk (below_step (by repeat (first | (with_reducible first | exact HB.out | apply below_alloc | apply pw_below_drewN | apply below_drew1) | exact HB.out)) hb); clear HB; have HB := n0_; clear n0_; (try clear hb); (try clear hb2); (try clear hk); (try clear hi)) | (go_at_call 32; (with_reducible refine (units_Fold.calls a0 a1 t373 _ A39.out).mono ?_); rintro e w82 ⟨rfl, hb⟩; have n0_ := Aside0.mk (below_step (by repeat (first | (with_reducible first | exact HB.out | apply below_alloc | apply pw_below_drewN | apply below_drew1) | exact HB.out)) hb); clear HB; have HB := n0_; clear n0_; (try clear hb); (try clear hb2); (try clear hk); (try clear hi)) | (go_at_call 31; (with_reducible refine (canopyref01_Lower.calls kj6 a0 t374 _ A40.out).mono ?_); rintro e w83 ⟨rfl, hb⟩; have n0_ := Aside0.mk (below_step (by repeat (first | (with_reducible first | exact HB.out | apply below_alloc | apply pw_below_drewN | apply below_drew1) | exact HB.out)) hb); clear HB; have HB := n0_; clear n0_; (try clear hb); (try clear hb2); (try clear hk); (try clear hi)) | (go_at_call 31; (with_reducible refine (canopyref01_Lower.calls kj6 a1 t375 _ A41.out).mono ?_); rintro e w84 ⟨rfl, hb⟩; have n0_ := Aside0.mk (below_step (by repeat (first | (with_reducible first | exact HB.out | apply below_alloc | apply pw_below_drewN | apply below_drew1) | exact HB.out)) hb); clear HB; have HB := n0_; clear n0_; (try clear hb); (try clear hb2); (try clear hk); (try clear hi)))
              go_ret
              exact ⟨by first | rfl | (simp [errW_none, errW_some] <;> rfl) | (simp [*, errW_none, errW_some] <;> rfl), by repeat (first | (with_reducible first | exact HB.out | apply below_alloc | apply pw_below_drewN | apply below_drew1) | exact HB.out)⟩
          · rw [if_neg c38] at H
            have c38b0 : (t371.toList == t372.toList) = false := beq_eq_false_iff_ne.mpr c38
            have c38b1 : (t371.toList != t372.toList) = true := bne_iff_ne.mpr c38
            obtain rfl := Option.some.inj H
            go_wp2_with (first | ((with_reducible refine gate_callee (f := 30) rfl ?_); refine goesL_ (some 39) rfl rfl Try.func30 (by kernel_rfl) rfl #[.string a0] rfl (by (try simp only [List.map_toArray, List.map_cons, List.map_nil]); first | done | rfl | (simp only [List.length_drop, List.length_take]; rfl)) ?_; (with_reducible refine (units_Lower.calls a0 t371 _ A36.out).mono ?_); rintro e w85 ⟨rfl, hb⟩; refine ⟨_, rfl, ?_⟩; have n0_ := Aside0.mk (below_step (by repeat (first | (with_reducible first | exact HB.out | apply below_alloc | apply pw_below_drewN | apply below_drew1) | exact HB.out)) hb); clear HB; have HB := n0_; clear n0_; (try clear hb); (try clear hb2); (try clear hk); (try clear hi)) | ((with_reducible refine gate_callee (f := 31) rfl ?_); refine goesL_ (some 41) rfl rfl Try.func31 (by kernel_rfl) rfl #[.string a0] rfl (by (try simp only [List.map_toArray, List.map_cons, List.map_nil]); first | done | rfl | (simp only [List.length_drop, List.length_take]; rfl)) ?_; (with_reducible refine (canopyref01_Lower.calls kj6 a0 t372 _ A37.out).mono ?_); rintro e w86 ⟨rfl, hb⟩; refine ⟨_, rfl, ?_⟩; have n0_ := Aside0.mk (below_step (by repeat (first | (with_reducible first | exact HB.out | apply below_alloc | apply pw_below_drewN | apply below_drew1) | exact HB.out)) hb); clear HB; have HB := n0_; clear n0_; (try clear hb); (try clear hb2); (try clear hk); (try clear hi)))
            go_ret
            exact ⟨by first | rfl | (simp [errW_none, errW_some] <;> rfl) | (simp [*, errW_none, errW_some] <;> rfl), by repeat (first | (with_reducible first | exact HB.out | apply below_alloc | apply pw_below_drewN | apply below_drew1) | exact HB.out)⟩
  · rw [if_neg c5] at H
    exact absurd H (by simp)

end Go.Proofs.Ytgjifcflkcpnlaa.P
