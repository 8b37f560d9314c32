/- Contracts of Go functions of this seat, laid by program out of the translation's own print: each Go function as a plain Lean function, and a proof that the machine's call comes to its answers. -/
import Derived.Test.YtgjifcflkcpnlaaP0
import Derived.Test.YtgjifcflkcpnlaaP3
import Derived.Test.YtgjifcflkcpnlaaP5
import Derived.Test.YtgjifcflkcpnlaaP11
import Derived.Test.YtgjifcflkcpnlaaP12
import Derived.Test.YtgjifcflkcpnlaaP14
import Derived.Test.YtgjifcflkcpnlaaP16
import Derived.Test.YtgjifcflkcpnlaaHandF
namespace Go.Proofs.Ytgjifcflkcpnlaa.P
open Go.RowKit Go.Proofs.YtgjifcflkcpnlaaW.PrintWords Go.Proofs.YtgjifcflkcpnlaaW.PrintLast Go.Proofs.YtgjifcflkcpnlaaW.PrintMore
attribute [local go_sem] max2_int min2_int max_two min_two max_three min_three max_four min_four   -- for this text's walks alone
set_option linter.unusedVariables false
set_option linter.unusedSimpArgs false

/-! ### canopylaw01_UnitsOwn: function 7 -/
mutual
def canopylaw01_UnitsOwn.l0 : Nat → List Int → Int → List ByteArray → List Int → List Int → List Int → List ByteArray → Int → Int → Option (Bool)
  | 0, _, _, _, _, _, _, _, _, _ => none
  | k + 1, x0, x1, x2, x7, x8, x10, x12, x36, x37 => if x37 < x36 then (if 0 ≤ x37 then (if x37 < (x8.length : Int) then (canopylaw01_UnitsOwn.l0 k x0 x1 x2 x7 (x8.set (x37 : Int).toNat 77) x10 x12 x36 (wrap64 (x37 + 1))) else (none)) else (none)) else (canopylaw01_UnitsOwn.l1 k x0 x1 x2 x7 x10 x12 (x10.length : Int) 0)
def canopylaw01_UnitsOwn.l1 : Nat → List Int → Int → List ByteArray → List Int → List Int → List ByteArray → Int → Int → Option (Bool)
  | 0, _, _, _, _, _, _, _, _ => none
  | k + 1, x0, x1, x2, x7, x10, x12, x45, x46 => if x46 < x45 then (if 0 ≤ x46 then (if x46 < (x10.length : Int) then (canopylaw01_UnitsOwn.l1 k x0 x1 x2 x7 (x10.set (x46 : Int).toNat 77) x12 x45 (wrap64 (x46 + 1))) else (none)) else (none)) else (canopylaw01_UnitsOwn.l2 k x0 x1 x2 x7 x12 (x12.length : Int) 0)
def canopylaw01_UnitsOwn.l2 : Nat → List Int → Int → List ByteArray → List Int → List ByteArray → Int → Int → Option (Bool)
  | 0, _, _, _, _, _, _, _ => none
  | k + 1, x0, x1, x2, x7, x12, x54, x55 => if x55 < x54 then (if 0 ≤ x55 then (if x55 < (x12.length : Int) then (canopylaw01_UnitsOwn.l2 k x0 x1 x2 x7 (x12.set (x55 : Int).toNat (⟨#[103, 111, 110, 101]⟩ : ByteArray)) x54 (wrap64 (x55 + 1))) else (none)) else (none)) else ((canopyref01_Same.f k x7 x0).bind fun t317 => (if t317 = true then ((canopylaw01_UnitsCuts.f k x7 x1 9 ([] : List Int) 0).bind fun t318 => (if t318 = true then ((units_Set.f x2).bind fun t319 => ((canopyref01_Set.f k x2).bind fun t322 => ((canopyref01_Strings.f k t319 t322).bind fun t325 => (some t325)))) else (some false))) else (some false)))
end
def canopylaw01_UnitsOwn.f (k : Nat) (l0 : List Int) (a1 : Int) (l2 : List ByteArray) : Option (Bool) := (canopylaw01_lives.f k).bind fun t296 => (if t296 = true then ((some (([] : List Int) : List Int)).bind fun y297 => (if y297.length + l0.length < 70368744177664 then ((some (y297 ++ l0 : List Int)).bind fun y300 => ((units_Sub.f y300 a1 9).bind fun bt303 => ((units_Replace.f y300 a1 0 ([] : List Int)).bind fun bt307 => ((units_Set.f l2).bind fun t311 => (canopylaw01_UnitsOwn.l0 k l0 a1 l2 y300 bt303.1 bt307.1 t311 (bt303.1.length : Int) 0))))) else (none))) else (some false))
theorem canopylaw01_UnitsOwn.mono_l : ∀ k, (∀ y0 y1 y2 y3 y4 y5 y6 y7 y8, LeO (canopylaw01_UnitsOwn.l0 k y0 y1 y2 y3 y4 y5 y6 y7 y8) (canopylaw01_UnitsOwn.l0 (k + 1) y0 y1 y2 y3 y4 y5 y6 y7 y8)) ∧ (∀ y0 y1 y2 y3 y4 y5 y6 y7, LeO (canopylaw01_UnitsOwn.l1 k y0 y1 y2 y3 y4 y5 y6 y7) (canopylaw01_UnitsOwn.l1 (k + 1) y0 y1 y2 y3 y4 y5 y6 y7)) ∧ (∀ y0 y1 y2 y3 y4 y5 y6, LeO (canopylaw01_UnitsOwn.l2 k y0 y1 y2 y3 y4 y5 y6) (canopylaw01_UnitsOwn.l2 (k + 1) y0 y1 y2 y3 y4 y5 y6))
  | 0 => ⟨fun _ _ _ _ _ _ _ _ _ r h => by simp [canopylaw01_UnitsOwn.l0] at h, fun _ _ _ _ _ _ _ _ r h => by simp [canopylaw01_UnitsOwn.l1] at h, fun _ _ _ _ _ _ _ r h => by simp [canopylaw01_UnitsOwn.l2] at h⟩
  | k + 1 => by
    obtain ⟨ih0, ih1, ih2⟩ := canopylaw01_UnitsOwn.mono_l k
    refine ⟨?_, ?_, ?_⟩
    · intro y0 y1 y2 y3 y4 y5 y6 y7 y8
      unfold canopylaw01_UnitsOwn.l0
      repeat' first
      | (with_reducible exact ih0 _ _ _ _ _ _ _ _ _)
      | (with_reducible exact ih1 _ _ _ _ _ _ _ _)
      | (with_reducible exact ih2 _ _ _ _ _ _ _)
      | (with_reducible exact canopylaw01_UnitsCuts.mono _ _ _ _ _ _)
      | (with_reducible exact canopylaw01_lives.mono _)
      | (with_reducible exact canopyref01_Same.mono _ _ _)
      | (with_reducible exact canopyref01_Set.mono _ _)
      | (with_reducible exact canopyref01_Strings.mono _ _ _)
      | (with_reducible exact LeO.refl _)
      | (with_reducible exact LeO.none _)
      | (with_reducible refine LeO.ite ?_ ?_)
      | (with_reducible refine LeO.bind ?_ (fun _ => ?_))
      | exact ih0 _ _ _ _ _ _ _ _ _
      | exact ih1 _ _ _ _ _ _ _ _
      | exact ih2 _ _ _ _ _ _ _
      | exact canopylaw01_UnitsCuts.mono _ _ _ _ _ _
      | exact canopylaw01_lives.mono _
      | exact canopyref01_Same.mono _ _ _
      | exact canopyref01_Set.mono _ _
      | exact canopyref01_Strings.mono _ _ _
      | exact LeO.none _
      | refine LeO.ite ?_ ?_
      | refine LeO.bind ?_ (fun _ => ?_)
    · intro y0 y1 y2 y3 y4 y5 y6 y7
      unfold canopylaw01_UnitsOwn.l1
      repeat' first
      | (with_reducible exact ih0 _ _ _ _ _ _ _ _ _)
      | (with_reducible exact ih1 _ _ _ _ _ _ _ _)
      | (with_reducible exact ih2 _ _ _ _ _ _ _)
      | (with_reducible exact canopylaw01_UnitsCuts.mono _ _ _ _ _ _)
      | (with_reducible exact canopylaw01_lives.mono _)
      | (with_reducible exact canopyref01_Same.mono _ _ _)
      | (with_reducible exact canopyref01_Set.mono _ _)
      | (with_reducible exact canopyref01_Strings.mono _ _ _)
      | (with_reducible exact LeO.refl _)
      | (with_reducible exact LeO.none _)
      | (with_reducible refine LeO.ite ?_ ?_)
      | (with_reducible refine LeO.bind ?_ (fun _ => ?_))
      | exact ih0 _ _ _ _ _ _ _ _ _
      | exact ih1 _ _ _ _ _ _ _ _
      | exact ih2 _ _ _ _ _ _ _
      | exact canopylaw01_UnitsCuts.mono _ _ _ _ _ _
      | exact canopylaw01_lives.mono _
      | exact canopyref01_Same.mono _ _ _
      | exact canopyref01_Set.mono _ _
      | exact canopyref01_Strings.mono _ _ _
      | exact LeO.none _
      | refine LeO.ite ?_ ?_
      | refine LeO.bind ?_ (fun _ => ?_)
    · intro y0 y1 y2 y3 y4 y5 y6
      unfold canopylaw01_UnitsOwn.l2
      repeat' first
      | (with_reducible exact ih0 _ _ _ _ _ _ _ _ _)
      | (with_reducible exact ih1 _ _ _ _ _ _ _ _)
      | (with_reducible exact ih2 _ _ _ _ _ _ _)
      | (with_reducible exact canopylaw01_UnitsCuts.mono _ _ _ _ _ _)
      | (with_reducible exact canopylaw01_lives.mono _)
      | (with_reducible exact canopyref01_Same.mono _ _ _)
      | (with_reducible exact canopyref01_Set.mono _ _)
      | (with_reducible exact canopyref01_Strings.mono _ _ _)
      | (with_reducible exact LeO.refl _)
      | (with_reducible exact LeO.none _)
      | (with_reducible refine LeO.ite ?_ ?_)
      | (with_reducible refine LeO.bind ?_ (fun _ => ?_))
      | exact ih0 _ _ _ _ _ _ _ _ _
      | exact ih1 _ _ _ _ _ _ _ _
      | exact ih2 _ _ _ _ _ _ _
      | exact canopylaw01_UnitsCuts.mono _ _ _ _ _ _
      | exact canopylaw01_lives.mono _
      | exact canopyref01_Same.mono _ _ _
      | exact canopyref01_Set.mono _ _
      | exact canopyref01_Strings.mono _ _ _
      | exact LeO.none _
      | refine LeO.ite ?_ ?_
      | refine LeO.bind ?_ (fun _ => ?_)
theorem canopylaw01_UnitsOwn.mono : ∀ a0 a1 a2 k, LeO (canopylaw01_UnitsOwn.f k a0 a1 a2) (canopylaw01_UnitsOwn.f (k + 1) a0 a1 a2) := by
  intro a0 a1 a2 k
  obtain ⟨ih0, ih1, ih2⟩ := canopylaw01_UnitsOwn.mono_l k
  unfold canopylaw01_UnitsOwn.f
  repeat' first
      | (with_reducible exact ih0 _ _ _ _ _ _ _ _ _)
      | (with_reducible exact ih1 _ _ _ _ _ _ _ _)
      | (with_reducible exact ih2 _ _ _ _ _ _ _)
      | (with_reducible exact canopylaw01_UnitsCuts.mono _ _ _ _ _ _)
      | (with_reducible exact canopylaw01_lives.mono _)
      | (with_reducible exact canopyref01_Same.mono _ _ _)
      | (with_reducible exact canopyref01_Set.mono _ _)
      | (with_reducible exact canopyref01_Strings.mono _ _ _)
      | (with_reducible exact LeO.refl _)
      | (with_reducible exact LeO.none _)
      | (with_reducible refine LeO.ite ?_ ?_)
      | (with_reducible refine LeO.bind ?_ (fun _ => ?_))
      | exact ih0 _ _ _ _ _ _ _ _ _
      | exact ih1 _ _ _ _ _ _ _ _
      | exact ih2 _ _ _ _ _ _ _
      | exact canopylaw01_UnitsCuts.mono _ _ _ _ _ _
      | exact canopylaw01_lives.mono _
      | exact canopyref01_Same.mono _ _ _
      | exact canopyref01_Set.mono _ _
      | exact canopyref01_Strings.mono _ _ _
      | exact LeO.none _
      | refine LeO.ite ?_ ?_
      | refine LeO.bind ?_ (fun _ => ?_)
set_option maxHeartbeats 8000000 in
set_option maxRecDepth 100000 in
theorem canopylaw01_UnitsOwn.calls (k : Nat) (A0 : Option Addr) (c0 : Nat) (l0 : List Int) (a1 : Int) (A2 : Option Addr) (c2 : Nat) (l2 : List ByteArray) (r : Bool) (w : World) (hr0 : Kd.C (Kd.int .u16) w A0 l0.length l0) (hc0 : l0.length ≤ c0) (hr2 : Kd.C Kd.string w A2 l2.length l2) (hc2 : l2.length ≤ c2) (h : canopylaw01_UnitsOwn.f k l0 a1 l2 = some r) :
    Calls Try.prog 7 #[.slice A0 l0.length c0, .int .u32 a1, .slice A2 l2.length c2] w fun e w' => e = .returned (.bool r) ∧ Below w.heap.size w w' := by
  have HR0 := Aside0.mk hr0
  have HC0 := Aside0.mk hc0
  clear hr0 hc0
  have HR2 := Aside0.mk hr2
  have HC2 := Aside0.mk hc2
  clear hr2 hc2
  have HB := Aside0.mk (Below.refl w.heap.size w)
  have H : ((canopylaw01_lives.f k).bind fun t296 => (if t296 = true then ((some (([] : List Int) : List Int)).bind fun y297 => (if y297.length + l0.length < 70368744177664 then ((some (y297 ++ l0 : List Int)).bind fun y300 => ((units_Sub.f y300 a1 9).bind fun bt303 => ((units_Replace.f y300 a1 0 ([] : List Int)).bind fun bt307 => ((units_Set.f l2).bind fun t311 => (canopylaw01_UnitsOwn.l0 k l0 a1 l2 y300 bt303.1 bt307.1 t311 (bt303.1.length : Int) 0))))) else (none))) else (some false))) = some r := h
  clear h
  replace H := Option.bind_eq_some_iff.mp H
  obtain ⟨t296, A40, H⟩ := H
  replace H : (if t296 = true then ((some (([] : List Int) : List Int)).bind fun y297 => (if y297.length + l0.length < 70368744177664 then ((some (y297 ++ l0 : List Int)).bind fun y300 => ((units_Sub.f y300 a1 9).bind fun bt303 => ((units_Replace.f y300 a1 0 ([] : List Int)).bind fun bt307 => ((units_Set.f l2).bind fun t311 => (canopylaw01_UnitsOwn.l0 k l0 a1 l2 y300 bt303.1 bt307.1 t311 (bt303.1.length : Int) 0))))) else (none))) else (some false)) = some r := H
  have A4 := Aside0.mk A40
  clear A40
  by_cases c5 : t296 = true
  · subst c5
    have H1 : ((some (([] : List Int) : List Int)).bind fun y297 => (if y297.length + l0.length < 70368744177664 then ((some (y297 ++ l0 : List Int)).bind fun y300 => ((units_Sub.f y300 a1 9).bind fun bt303 => ((units_Replace.f y300 a1 0 ([] : List Int)).bind fun bt307 => ((units_Set.f l2).bind fun t311 => (canopylaw01_UnitsOwn.l0 k l0 a1 l2 y300 bt303.1 bt307.1 t311 (bt303.1.length : Int) 0))))) else (none))) = some r := by rw [if_pos rfl] at H; exact H
    clear H
    have H := H1
    clear H1
    obtain ⟨y297, hy297⟩ : ∃ y_ : List Int, y_ = (([] : List Int)) := ⟨_, rfl⟩
    replace H : (if y297.length + l0.length < 70368744177664 then ((some (y297 ++ l0 : List Int)).bind fun y300 => ((units_Sub.f y300 a1 9).bind fun bt303 => ((units_Replace.f y300 a1 0 ([] : List Int)).bind fun bt307 => ((units_Set.f l2).bind fun t311 => (canopylaw01_UnitsOwn.l0 k l0 a1 l2 y300 bt303.1 bt307.1 t311 (bt303.1.length : Int) 0))))) else (none)) = some r := by first | (rw [hy297]; with_reducible exact H) | (have H2_ := (Option.bind_some _ _).symm.trans H; rw [hy297]; with_reducible exact H2_) | (have H2_ := (Option.bind_some _ _).symm.trans H; with_reducible exact H2_) | with_reducible exact H | (rw [hy297]; exact H) | exact H
    have Ny297 := Aside0.mk hy297
    clear hy297
    by_cases c6 : y297.length + l0.length < 70368744177664
    · rw [if_pos c6] at H
      have LMc6 := Aside0.mk c6
      clear c6
      obtain ⟨y300, hy300⟩ : ∃ y_ : List Int, y_ = (y297 ++ l0) := ⟨_, rfl⟩
      replace H : ((units_Sub.f y300 a1 9).bind fun bt303 => ((units_Replace.f y300 a1 0 ([] : List Int)).bind fun bt307 => ((units_Set.f l2).bind fun t311 => (canopylaw01_UnitsOwn.l0 k l0 a1 l2 y300 bt303.1 bt307.1 t311 (bt303.1.length : Int) 0)))) = some r := by first | (rw [hy300]; with_reducible exact H) | (have H2_ := (Option.bind_some _ _).symm.trans H; rw [hy300]; with_reducible exact H2_) | (have H2_ := (Option.bind_some _ _).symm.trans H; with_reducible exact H2_) | with_reducible exact H | (rw [hy300]; exact H) | exact H
      have Ny300 := Aside0.mk hy300
      clear hy300
      replace H := Option.bind_eq_some_iff.mp H
      obtain ⟨⟨t303, t304⟩, A70, H⟩ := H
      replace H : ((units_Replace.f y300 a1 0 ([] : List Int)).bind fun bt307 => ((units_Set.f l2).bind fun t311 => (canopylaw01_UnitsOwn.l0 k l0 a1 l2 y300 t303 bt307.1 t311 (t303.length : Int) 0))) = some r := H
      have A7 := Aside0.mk A70
      clear A70
      replace H := Option.bind_eq_some_iff.mp H
      obtain ⟨⟨t307, t308⟩, A80, H⟩ := H
      replace H : ((units_Set.f l2).bind fun t311 => (canopylaw01_UnitsOwn.l0 k l0 a1 l2 y300 t303 t307 t311 (t303.length : Int) 0)) = some r := H
      have A8 := Aside0.mk A80
      clear A80
      replace H := Option.bind_eq_some_iff.mp H
      obtain ⟨t311, A90, H⟩ := H
      replace H : (canopylaw01_UnitsOwn.l0 k l0 a1 l2 y300 t303 t307 t311 (t303.length : Int) 0) = some r := H
      have A9 := Aside0.mk A90
      clear A90
      have H' := Aside0.mk H
      clear H
      go_enter Try.func7, Try.ntmps7
      go_wp2_with (first | ((with_reducible refine gate_callee (f := 10) rfl ?_); refine goesL_ (some 16) rfl rfl Try.func10 (by kernel_rfl) rfl #[] rfl (by (try simp only [List.map_toArray, List.map_cons, List.map_nil]); first | done | rfl | (simp only [List.length_drop, List.length_take]; rfl)) ?_; (with_reducible refine (canopylaw01_lives.calls k  true _ A4.out).mono ?_); rintro e w10 ⟨rfl, hb⟩; refine ⟨_, rfl, ?_⟩; have n0_ := Aside0.mk (below_step (by repeat (first | (with_reducible first | exact HB.out | apply below_alloc | apply pw_below_drewN | apply below_drew1) | exact HB.out)) hb); clear HB; have HB := n0_; clear n0_; (try clear hb); (try clear hb2); (try clear hk); (try clear hi)) | ((with_reducible refine gate_dst (N := 18) rfl ?_); refine Kd.R_lit (Kd.int .u16) _ 43 ?hg (N := 18) ?hd (xs := ([] : List Int)) (inner := []) (ok := fun _ => True) (okp := fun _ => True) ?hr ?hp (fun _ hk => hk) trivial (Below.refl _ _) (Nat.le_refl _) (by simp) ?_; (case hd => rfl); (case hg => rfl); (case hr => first | (go_simp; done) | (go_simp; rfl)); (case hp => exact (Reps.none _ _)); intro v298 w11 ho12 hb hg_ hnew_; clear hg_ hnew_; (first | rw [← Ny297.out] at ho12 | (simp only [Int.reduceToNat] at ho12; rw [← Ny297.out] at ho12)); have n0_ := Aside0.mk (Kd.R_lower ho12 (below_size (by repeat (first | (with_reducible first | exact HB.out | apply below_alloc | apply pw_below_drewN | apply below_drew1) | exact HB.out)))); have n1_ := Aside0.mk (below_step (by repeat (first | (with_reducible first | exact HB.out | apply below_alloc | apply pw_below_drewN | apply below_drew1) | exact HB.out)) hb); clear HB; have HO299 := n0_; have HB := n1_; clear n0_ n1_; clear hb ho12) | ((with_reducible refine gate_builtin (b := .append) (xs := #[.tmp 18, .tmp 19]) rfl ?_); at_builtin; refine Kd.R_append_rows (Kd.int .u16) (w0 := w) w.heap.size rfl (.tmp 18) (.tmp 19) 23 43 (.int .u16 0) 2 rfl Try.underlying23 info43 rfl (by decide) (by omega) v298 y297 l0 _ _ _ (fun _ => True) (fun _ => False) rfl rfl ?aO ?aR (fun _ _ h => h) (fun _ h => h.elim) ?aF ?aB ?aS ?aL ?_; (case aR => repeat (first | exact (Kd.C_below HR0.out HB.out) | (with_reducible refine Kd.C_alloc ?_ _) | (with_reducible refine Kd.C_drewN ?_ _) | (with_reducible refine Kd.C_drew ?_))); (case aB => exact (by repeat (first | (with_reducible first | exact HB.out | apply below_alloc | apply pw_below_drewN | apply below_drew1) | exact HB.out))); (case aF => exact (fun _ _ => trivial)); (case aO => exact (by (with_reducible repeat (first | apply Kd.R_alloc | apply Kd.R_drewN | apply Kd.R_drew)); exact HO299.out)); (case aS => exact (below_size (by repeat (first | (with_reducible first | exact HB.out | apply below_alloc | apply pw_below_drewN | apply below_drew1) | exact HB.out)))); (case aL => have := LMc6.out; omega); intro v301 w13 ho hb hg hat; rw [← Ny300.out] at ho; have n0_ := Aside0.mk (hb); have n1_ := Aside0.mk (ho); clear HB; clear HO299; have HB := n0_; have HO302 := n1_; clear n0_ n1_; clear ho hb hg hat; obtain ⟨Ao14, co14, eo14⟩ := Kd.R_slice HO302.out; subst eo14) | ((with_reducible refine gate_callee (f := 19) rfl ?_); refine goesL_ (some 24) rfl rfl Try.func19 (by kernel_rfl) rfl #[.slice Ao14 y300.length co14, .int .u32 a1, .int .u32 9] rfl (by (try simp only [List.map_toArray, List.map_cons, List.map_nil]); first | done | rfl | (simp only [List.length_drop, List.length_take]; rfl)) ?_; (with_reducible refine (units_Sub.calls _ _ y300 a1 9 t303 t304 _ ?side1 ?side2 A7.out).mono ?_); (case side1 => repeat (first | exact (Kd.R_reads' HO302.out).2.2 | (with_reducible refine Kd.C_alloc ?_ _) | (with_reducible refine Kd.C_drewN ?_ _) | (with_reducible refine Kd.C_drew ?_))); (case side2 => exact (Kd.R_reads' HO302.out).2.1); rintro e w15 ⟨v305, rfl, ho0, hb⟩; refine ⟨_, rfl, ?_⟩; have n0_ := Aside0.mk (Kd.R_elder' (by (with_reducible repeat (first | apply Kd.R_alloc | apply Kd.R_drewN | apply Kd.R_drew)); exact HO302.out) (Kd.R_base ho0) hb); have n1_ := Aside0.mk (Kd.R_lower (Kd.R_new' ho0 (Kd.R_lt (by (with_reducible repeat (first | apply Kd.R_alloc | apply Kd.R_drewN | apply Kd.R_drew)); exact HO302.out))) (below_size (by repeat (first | (with_reducible first | exact HB.out | apply below_alloc | apply pw_below_drewN | apply below_drew1) | exact HB.out)))); have n2_ := Aside0.mk (below_step (by repeat (first | (with_reducible first | exact HB.out | apply below_alloc | apply pw_below_drewN | apply below_drew1) | exact HB.out)) hb); clear HO302; clear HB; have HO302 := n0_; have HO306 := n1_; have HB := n2_; clear n0_ n1_ n2_; (try clear hb); (try clear hb2); (try clear hk); (try clear hi); (try clear ho0)) | ((with_reducible refine gate_callee (f := 21) rfl ?_); refine goesL_ (some 30) rfl rfl Try.func21 (by kernel_rfl) rfl #[.slice Ao14 y300.length co14, .int .u32 a1, .int .u32 0, .slice none 0 0] rfl (by (try simp only [List.map_toArray, List.map_cons, List.map_nil]); first | done | rfl | (simp only [List.length_drop, List.length_take]; rfl)) ?_; (refine (units_Replace.calls _ _ y300 a1 0 _ _ ([] : List Int) t307 t308 _ ?side1 ?side2 ?side3 ?side4 A8.out).mono ?_); (case side1 => repeat (first | exact (Kd.R_reads' HO302.out).2.2 | (with_reducible refine Kd.C_alloc ?_ _) | (with_reducible refine Kd.C_drewN ?_ _) | (with_reducible refine Kd.C_drew ?_))); (case side2 => exact (Kd.R_reads' HO302.out).2.1); (case side3 => exact Kd.C_nil _ _); (case side4 => exact Nat.le_refl _); rintro e w16 ⟨v309, rfl, ho0, hb⟩; refine ⟨_, rfl, ?_⟩; have n0_ := Aside0.mk (Kd.R_elder' (by (with_reducible repeat (first | apply Kd.R_alloc | apply Kd.R_drewN | apply Kd.R_drew)); exact HO302.out) (Kd.R_base ho0) hb); have n1_ := Aside0.mk (Kd.R_elder' (by (with_reducible repeat (first | apply Kd.R_alloc | apply Kd.R_drewN | apply Kd.R_drew)); exact HO306.out) (Kd.R_base ho0) hb); have n2_ := Aside0.mk (Kd.R_lower (Kd.R_new' (Kd.R_new' ho0 (Kd.R_lt (by (with_reducible repeat (first | apply Kd.R_alloc | apply Kd.R_drewN | apply Kd.R_drew)); exact HO302.out))) (Kd.R_lt (by (with_reducible repeat (first | apply Kd.R_alloc | apply Kd.R_drewN | apply Kd.R_drew)); exact HO306.out))) (below_size (by repeat (first | (with_reducible first | exact HB.out | apply below_alloc | apply pw_below_drewN | apply below_drew1) | exact HB.out)))); have n3_ := Aside0.mk (below_step (by repeat (first | (with_reducible first | exact HB.out | apply below_alloc | apply pw_below_drewN | apply below_drew1) | exact HB.out)) hb); clear HO302; clear HO306; clear HB; have HO302 := n0_; have HO306 := n1_; have HO310 := n2_; have HB := n3_; clear n0_ n1_ n2_ n3_; (try clear hb); (try clear hb2); (try clear hk); (try clear hi); (try clear ho0)) | ((with_reducible refine gate_callee (f := 25) rfl ?_); refine goesL_ (some 34) rfl rfl Try.func25 (by kernel_rfl) rfl #[.slice A2 l2.length c2] rfl (by (try simp only [List.map_toArray, List.map_cons, List.map_nil]); first | done | rfl | (simp only [List.length_drop, List.length_take]; rfl)) ?_; (with_reducible refine (units_Set.calls _ _ l2 t311 _ ?side1 ?side2 A9.out).mono ?_); (case side1 => repeat (first | exact (Kd.C_below HR2.out HB.out) | (with_reducible refine Kd.C_alloc ?_ _) | (with_reducible refine Kd.C_drewN ?_ _) | (with_reducible refine Kd.C_drew ?_))); (case side2 => exact HC2.out); rintro e w17 ⟨v312, rfl, ho0, hb⟩; refine ⟨_, rfl, ?_⟩; have n0_ := Aside0.mk (Kd.R_below (by (with_reducible repeat (first | apply Kd.R_alloc | apply Kd.R_drewN | apply Kd.R_drew)); exact HO302.out) hb); have n1_ := Aside0.mk (Kd.R_below (by (with_reducible repeat (first | apply Kd.R_alloc | apply Kd.R_drewN | apply Kd.R_drew)); exact HO306.out) hb); have n2_ := Aside0.mk (Kd.R_below (by (with_reducible repeat (first | apply Kd.R_alloc | apply Kd.R_drewN | apply Kd.R_drew)); exact HO310.out) hb); have n3_ := Aside0.mk (Kd.R_lower ho0 (below_size (by repeat (first | (with_reducible first | exact HB.out | apply below_alloc | apply pw_below_drewN | apply below_drew1) | exact HB.out)))); have n4_ := Aside0.mk (below_step (by repeat (first | (with_reducible first | exact HB.out | apply below_alloc | apply pw_below_drewN | apply below_drew1) | exact HB.out)) hb); clear HO302; clear HO306; clear HO310; clear HB; have HO302 := n0_; have HO306 := n1_; have HO310 := n2_; have HO313 := n3_; have HB := n4_; clear n0_ n1_ n2_ n3_ n4_; (try clear hb); (try clear hb2); (try clear hk); (try clear hi); (try clear ho0); obtain ⟨Ao18, co18, eo18⟩ := Kd.R_slice HO306.out; subst eo18))
      go_loopg [37] k (fun kq v37 w' => ∃ (x8_1 : List Int) (x37_1 : Int), v37 = .int .i64 x37_1 ∧ Aside0 (canopylaw01_UnitsOwn.l0 kq l0 a1 l2 y300 x8_1 t307 t311 (t303.length : Int) x37_1 = some r) ∧ Aside0 (kq ≤ k) ∧ Aside0 (Kd.R (Kd.int .u16) 43 w' w.heap.size (fun k_ => some k_ ≠ ((.slice Ao18 t303.length co18) : Value).ownBlock ∧ some k_ ≠ (v309 : Value).ownBlock) (.slice Ao14 y300.length co14) y300) ∧ Aside0 (Kd.R (Kd.int .u16) 43 w' w.heap.size (fun k_ => some k_ ≠ ((.slice Ao14 y300.length co14) : Value).ownBlock ∧ some k_ ≠ (v309 : Value).ownBlock) (.slice Ao18 t303.length co18) x8_1) ∧ Aside0 (Kd.R (Kd.int .u16) 43 w' w.heap.size (fun k_ => some k_ ≠ ((.slice Ao14 y300.length co14) : Value).ownBlock ∧ some k_ ≠ ((.slice Ao18 t303.length co18) : Value).ownBlock) v309 t307) ∧ Aside0 (Kd.R Kd.string 9 w' w.heap.size (fun _ => True) v312 t311) ∧ Aside0 (Below w.heap.size w w'))
      case atStart => exact ⟨(t303), (0), (by first | rfl | (simp; done) | (simp [*]; done)), H', ⟨Nat.le_refl _⟩, ⟨by (with_reducible repeat (first | apply Kd.R_alloc | apply Kd.R_drewN | apply Kd.R_drew)); exact Kd.R_mono HO302.out (fun _ hk => ⟨hk.1.2, hk.2⟩)⟩, ⟨by (with_reducible repeat (first | apply Kd.R_alloc | apply Kd.R_drewN | apply Kd.R_drew)); exact Kd.R_mono HO306.out (fun _ hk => ⟨hk.1.2, hk.2⟩)⟩, ⟨by (with_reducible repeat (first | apply Kd.R_alloc | apply Kd.R_drewN | apply Kd.R_drew)); exact Kd.R_mono HO310.out (fun _ hk => ⟨hk.1.2, hk.2⟩)⟩, ⟨by (with_reducible repeat (first | apply Kd.R_alloc | apply Kd.R_drewN | apply Kd.R_drew)); exact HO313.out⟩, ⟨by repeat (first | (with_reducible first | exact HB.out | apply below_alloc | apply pw_below_drewN | apply below_drew1) | exact HB.out)⟩⟩
      case round =>
        clear H'
        try clear c1
        try clear c2
        try clear p2
        try clear c5
        try clear c6
        try clear c7
        try clear c10
        obtain ⟨x8_1, x37_1, rfl, HA, HK1, HO_7, HO_8, HO_10, HO_12, HB⟩ := hrel
        have hl8_1 := (Kd.R_reads' HO_8.out).1
        rw [hl8_1] at HO_8
        (try simp only [hl8_1])
        (try simp only [hl8_1] at HO_7)
        (try simp only [hl8_1] at HO_10)
        (try simp only [hl8_1] at HO_12)
        cases gk with
        | zero => exact absurd HA.out (by simp [canopylaw01_UnitsOwn.l0])
        | succ k1 =>
          have H := HA.out
          clear HA
          simp only [canopylaw01_UnitsOwn.l0] at H
          by_cases c19 : x37_1 < (t303.length : Int)
          · rw [if_pos c19] at H
            have c19b0 : decide (x37_1 < (t303.length : Int)) = true := decide_eq_true c19
            clear c19
            by_cases c20 : 0 ≤ x37_1
            · rw [if_pos c20] at H
              have c20b0 : decide (0 ≤ x37_1) = true := decide_eq_true c20
              clear c20
              by_cases c21 : x37_1 < (x8_1.length : Int)
              · rw [if_pos c21] at H
                have c21b0 : decide (x37_1 < (x8_1.length : Int)) = true := decide_eq_true c21
                clear c21
                obtain ⟨y314, hy314⟩ : ∃ y_ : List Int, y_ = (x8_1.set (x37_1 : Int).toNat 77) := ⟨_, rfl⟩
                replace H : (canopylaw01_UnitsOwn.l0 k1 l0 a1 l2 y300 y314 t307 t311 (t303.length : Int) (wrap64 (x37_1 + 1))) = some r := by first | (rw [hy314]; with_reducible exact H) | (have H2_ := (Option.bind_some _ _).symm.trans H; rw [hy314]; with_reducible exact H2_) | (have H2_ := (Option.bind_some _ _).symm.trans H; with_reducible exact H2_) | with_reducible exact H | (rw [hy314]; exact H) | exact H
                have Ny314 := Aside0.mk hy314
                clear hy314
                have H' := Aside0.mk H
                clear H
                have p22 : 0 ≤ (x37_1 : Int) := of_decide_eq_true (by first | (with_reducible assumption) | assumption)
                have q22 : (x37_1 : Int) < ((x8_1.length : Int) : Int) := of_decide_eq_true (by first | (with_reducible assumption) | assumption)
                obtain ⟨go22, co22, eo22, gb22, gl22, cl22, HG22⟩ := Kd.R_form HO_8.out (by omega)
                (first | cases eo22 | (injection eo22 with ea_ en_ ec_; (first | subst ea_ | (injection ea_ with ea_; subst ea_)); subst ec_; clear en_))
                have GB22 := Aside0.mk gb22
                have GG22 := Aside0.mk HG22
                clear gb22 gl22 HG22
                obtain ⟨hx22_0, hf22_0⟩ := Kd.R_celln 0 HO_8.out (x37_1 : Int) p22 q22
                replace p22 := eq_true p22
                replace q22 := eq_true q22
                have HP23 := Kd.R_putg HO_8.out (x37_1 : Int) 77
                go_wp2_with (first | ((with_reducible refine gate_store (t := 43) (p := 42) rfl ?_); refine store_event (t := 43) (p := 42) (v := ?vo_w24) (w1 := (wr.setCell ⟨go22, (x37_1 : Int).toNat, none⟩ (.int .u16 77))) ?hg ?ho ?hn ?hr ?_; (case ho => rfl); (case hg => rfl); (case hn => rfl); (case hr => first | (go_simp; done) | (go_simp; rfl)); intro w24 hw; have hg : wr.grownBy w24 (some go22) := (by rw [hw]; exact HP23.2); have hp_ : Kd.R (Kd.int .u16) 43 w24 w.heap.size (fun k_ => some k_ ≠ (.slice Ao14 y300.length co14 : Value).ownBlock ∧ some k_ ≠ (v309 : Value).ownBlock) (.slice (some ⟨go22, 0, none⟩) x8_1.length co18) y314 := (by rw [hw, Ny314.out]; exact HP23.1); clear HP23; have n0_ := Aside0.mk (Kd.R_after (v := (.slice (some ⟨go22, 0, none⟩) x8_1.length co18)) (v1 := (.slice (some ⟨go22, 0, none⟩) x8_1.length co18)) (ok := (fun k_ => some k_ ≠ (v309 : Value).ownBlock)) (by (with_reducible repeat (first | apply Kd.R_alloc | apply Kd.R_drewN | apply Kd.R_drew)); exact Kd.R_mono HO_7.out (fun _ hk => ⟨hk.2, hk.1⟩)) hg (.inl rfl)); have n1_ := Aside0.mk (hp_); have n2_ := Aside0.mk (Kd.R_after (v := (.slice (some ⟨go22, 0, none⟩) x8_1.length co18)) (v1 := (.slice (some ⟨go22, 0, none⟩) x8_1.length co18)) (ok := (fun k_ => some k_ ≠ (.slice Ao14 y300.length co14 : Value).ownBlock)) (by (with_reducible repeat (first | apply Kd.R_alloc | apply Kd.R_drewN | apply Kd.R_drew)); exact HO_10.out) hg (.inl rfl)); have n3_ := Aside0.mk (Kd.R_over' (v := (.slice (some ⟨go22, 0, none⟩) x8_1.length co18)) (by (with_reducible repeat (first | apply Kd.R_alloc | apply Kd.R_drewN | apply Kd.R_drew)); exact HO_12.out) (Kd.R_typed HO_8.out) (by decide) hg); have n4_ := Aside0.mk ((by rw [hw]; exact below_set (HB.out) GB22.out : Below w.heap.size w w24)); clear HO_7; clear HO_8; clear HO_10; clear HO_12; clear HB; have HO_7 := n0_; have HO_8 := n1_; have HO_10 := n2_; have HO_12 := n3_; have HB := n4_; clear n0_ n1_ n2_ n3_ n4_; clear hg hw hp_))
                (try simp only [← hl8_1])
                go_roundg k1
                case measure => have := HK1.out; omega
                case rel => exact ⟨(y314), (wrap64 (x37_1 + 1)), (by first | rfl | (simp; done) | (simp [*]; done)), H', ⟨by have := HK1.out; omega⟩, ⟨by (try simp only [hl8_1]); (with_reducible repeat (first | apply Kd.R_alloc | apply Kd.R_drewN | apply Kd.R_drew)); exact Kd.R_mono HO_7.out (fun _ hk => ⟨hk.2, hk.1⟩)⟩, ⟨by (try simp only [hl8_1]); (with_reducible repeat (first | apply Kd.R_alloc | apply Kd.R_drewN | apply Kd.R_drew)); exact HO_8.out⟩, ⟨by (try simp only [hl8_1]); (with_reducible repeat (first | apply Kd.R_alloc | apply Kd.R_drewN | apply Kd.R_drew)); exact HO_10.out⟩, ⟨by (try simp only [hl8_1]); (with_reducible repeat (first | apply Kd.R_alloc | apply Kd.R_drewN | apply Kd.R_drew)); exact HO_12.out⟩, ⟨by repeat (first | (with_reducible first | exact HB.out | apply below_alloc | apply pw_below_drewN | apply below_drew1) | exact HB.out)⟩⟩
              · rw [if_neg c21] at H
                exact absurd H (by simp)
            · rw [if_neg c20] at H
              exact absurd H (by simp)
          · rw [if_neg c19] at H
            have c19b0 : decide (x37_1 < (t303.length : Int)) = false := decide_eq_false c19
            try rw [hl8_1] at c19b0
            clear c19
            have H' := Aside0.mk H
            clear H
            obtain ⟨Ao25, co25, eo25⟩ := Kd.R_slice HO_10.out
            subst eo25
            go_wp2
            go_loopg [46] k1 (fun kq v46 w' => ∃ (x10_2 : List Int) (x46_2 : Int), v46 = .int .i64 x46_2 ∧ Aside0 (canopylaw01_UnitsOwn.l1 kq l0 a1 l2 y300 x10_2 t311 (t307.length : Int) x46_2 = some r) ∧ Aside0 (kq ≤ k1) ∧ Aside0 (Kd.R (Kd.int .u16) 43 w' w.heap.size (fun k_ => some k_ ≠ ((.slice Ao25 t307.length co25) : Value).ownBlock) (.slice Ao14 y300.length co14) y300) ∧ Aside0 (Kd.R (Kd.int .u16) 43 w' w.heap.size (fun k_ => some k_ ≠ ((.slice Ao14 y300.length co14) : Value).ownBlock) (.slice Ao25 t307.length co25) x10_2) ∧ Aside0 (Kd.R Kd.string 9 w' w.heap.size (fun _ => True) v312 t311) ∧ Aside0 (Below w.heap.size w w'))
            case atStart => exact ⟨(t307), (0), (by first | rfl | (simp; done) | (simp [*]; done)), H', ⟨Nat.le_refl _⟩, ⟨by (try simp only [hl8_1]); (with_reducible repeat (first | apply Kd.R_alloc | apply Kd.R_drewN | apply Kd.R_drew)); exact Kd.R_mono HO_7.out (fun _ hk => hk.2)⟩, ⟨by (try simp only [hl8_1]); (with_reducible repeat (first | apply Kd.R_alloc | apply Kd.R_drewN | apply Kd.R_drew)); exact Kd.R_mono HO_10.out (fun _ hk => hk.1)⟩, ⟨by (try simp only [hl8_1]); (with_reducible repeat (first | apply Kd.R_alloc | apply Kd.R_drewN | apply Kd.R_drew)); exact HO_12.out⟩, ⟨by repeat (first | (with_reducible first | exact HB.out | apply below_alloc | apply pw_below_drewN | apply below_drew1) | exact HB.out)⟩⟩
            case round =>
              clear H'
              try clear c1
              try clear c2
              try clear p2
              try clear q2
              try clear hx2
              try clear c5
              try clear c6
              try clear p6
              try clear c7
              try clear c10
              try clear c19
              try clear c19b0
              try clear c20
              try clear c20b0
              try clear c21
              try clear c21b0
              try clear p22
              try clear q22
              try clear hx22
              try clear hf22
              try clear c25
              try clear hx22_0
              try clear p2
              try clear p22
              try clear q22
              obtain ⟨x10_2, x46_2, rfl, HA, HK2, HO_7, HO_10, HO_12, HB⟩ := hrel
              have hl10_2 := (Kd.R_reads' HO_10.out).1
              rw [hl10_2] at HO_10
              (try simp only [hl10_2])
              (try simp only [hl10_2] at HO_7)
              (try simp only [hl10_2] at HO_12)
              cases gk with
              | zero => exact absurd HA.out (by simp [canopylaw01_UnitsOwn.l1])
              | succ k2 =>
                have H := HA.out
                clear HA
                simp only [canopylaw01_UnitsOwn.l1] at H
                by_cases c26 : x46_2 < (t307.length : Int)
                · rw [if_pos c26] at H
                  have c26b0 : decide (x46_2 < (t307.length : Int)) = true := decide_eq_true c26
                  clear c26
                  by_cases c27 : 0 ≤ x46_2
                  · rw [if_pos c27] at H
                    have c27b0 : decide (0 ≤ x46_2) = true := decide_eq_true c27
                    clear c27
                    by_cases c28 : x46_2 < (x10_2.length : Int)
                    · rw [if_pos c28] at H
                      have c28b0 : decide (x46_2 < (x10_2.length : Int)) = true := decide_eq_true c28
                      clear c28
                      obtain ⟨y315, hy315⟩ : ∃ y_ : List Int, y_ = (x10_2.set (x46_2 : Int).toNat 77) := ⟨_, rfl⟩
                      replace H : (canopylaw01_UnitsOwn.l1 k2 l0 a1 l2 y300 y315 t311 (t307.length : Int) (wrap64 (x46_2 + 1))) = some r := by first | (rw [hy315]; with_reducible exact H) | (have H2_ := (Option.bind_some _ _).symm.trans H; rw [hy315]; with_reducible exact H2_) | (have H2_ := (Option.bind_some _ _).symm.trans H; with_reducible exact H2_) | with_reducible exact H | (rw [hy315]; exact H) | exact H
                      have Ny315 := Aside0.mk hy315
                      clear hy315
                      have H' := Aside0.mk H
                      clear H
                      have p29 : 0 ≤ (x46_2 : Int) := of_decide_eq_true (by first | (with_reducible assumption) | assumption)
                      have q29 : (x46_2 : Int) < ((x10_2.length : Int) : Int) := of_decide_eq_true (by first | (with_reducible assumption) | assumption)
                      obtain ⟨go29, co29, eo29, gb29, gl29, cl29, HG29⟩ := Kd.R_form HO_10.out (by omega)
                      (first | cases eo29 | (injection eo29 with ea_ en_ ec_; (first | subst ea_ | (injection ea_ with ea_; subst ea_)); subst ec_; clear en_))
                      have GB29 := Aside0.mk gb29
                      have GG29 := Aside0.mk HG29
                      clear gb29 gl29 HG29
                      obtain ⟨hx29_0, hf29_0⟩ := Kd.R_celln 0 HO_10.out (x46_2 : Int) p29 q29
                      replace p29 := eq_true p29
                      replace q29 := eq_true q29
                      have HP30 := Kd.R_putg HO_10.out (x46_2 : Int) 77
                      go_wp2_with (first | ((with_reducible refine gate_store (t := 43) (p := 51) rfl ?_); refine store_event (t := 43) (p := 51) (v := ?vo_w31) (w1 := (wr.setCell ⟨go29, (x46_2 : Int).toNat, none⟩ (.int .u16 77))) ?hg ?ho ?hn ?hr ?_; (case ho => rfl); (case hg => rfl); (case hn => rfl); (case hr => first | (go_simp; done) | (go_simp; rfl)); intro w31 hw; have hg : wr.grownBy w31 (some go29) := (by rw [hw]; exact HP30.2); have hp_ : Kd.R (Kd.int .u16) 43 w31 w.heap.size (fun k_ => some k_ ≠ (.slice Ao14 y300.length co14 : Value).ownBlock) (.slice (some ⟨go29, 0, none⟩) x10_2.length co25) y315 := (by rw [hw, Ny315.out]; exact HP30.1); clear HP30; have n0_ := Aside0.mk (Kd.R_after (v := (.slice (some ⟨go29, 0, none⟩) x10_2.length co25)) (v1 := (.slice (some ⟨go29, 0, none⟩) x10_2.length co25)) (ok := (fun _ => True)) (by (with_reducible repeat (first | apply Kd.R_alloc | apply Kd.R_drewN | apply Kd.R_drew)); exact Kd.R_mono HO_7.out (fun _ hk => ⟨trivial, hk⟩)) hg (.inl rfl)); have n1_ := Aside0.mk (hp_); have n2_ := Aside0.mk (Kd.R_over' (v := (.slice (some ⟨go29, 0, none⟩) x10_2.length co25)) (by (with_reducible repeat (first | apply Kd.R_alloc | apply Kd.R_drewN | apply Kd.R_drew)); exact HO_12.out) (Kd.R_typed HO_10.out) (by decide) hg); have n3_ := Aside0.mk ((by rw [hw]; exact below_set (HB.out) GB29.out : Below w.heap.size w w31)); clear HO_7; clear HO_10; clear HO_12; clear HB; have HO_7 := n0_; have HO_10 := n1_; have HO_12 := n2_; have HB := n3_; clear n0_ n1_ n2_ n3_; clear hg hw hp_))
                      (try simp only [← hl10_2])
                      go_roundg k2
                      case measure => have := HK1.out; have := HK2.out; omega
                      case rel => exact ⟨(y315), (wrap64 (x46_2 + 1)), (by first | rfl | (simp; done) | (simp [*]; done)), H', ⟨by have := HK1.out; have := HK2.out; omega⟩, ⟨by (try simp only [hl8_1]); (try simp only [hl10_2]); (with_reducible repeat (first | apply Kd.R_alloc | apply Kd.R_drewN | apply Kd.R_drew)); exact Kd.R_mono HO_7.out (fun _ hk => hk.2)⟩, ⟨by (try simp only [hl8_1]); (try simp only [hl10_2]); (with_reducible repeat (first | apply Kd.R_alloc | apply Kd.R_drewN | apply Kd.R_drew)); exact HO_10.out⟩, ⟨by (try simp only [hl8_1]); (try simp only [hl10_2]); (with_reducible repeat (first | apply Kd.R_alloc | apply Kd.R_drewN | apply Kd.R_drew)); exact HO_12.out⟩, ⟨by repeat (first | (with_reducible first | exact HB.out | apply below_alloc | apply pw_below_drewN | apply below_drew1) | exact HB.out)⟩⟩
                    · rw [if_neg c28] at H
                      exact absurd H (by simp)
                  · rw [if_neg c27] at H
                    exact absurd H (by simp)
                · rw [if_neg c26] at H
                  have c26b0 : decide (x46_2 < (t307.length : Int)) = false := decide_eq_false c26
                  try rw [hl8_1] at c26b0
                  try rw [hl10_2] at c26b0
                  clear c26
                  have H' := Aside0.mk H
                  clear H
                  obtain ⟨Ao32, co32, eo32⟩ := Kd.R_slice HO_12.out
                  subst eo32
                  go_wp2
                  go_loopg [55] k2 (fun kq v55 w' => ∃ (x12_3 : List ByteArray) (x55_3 : Int), v55 = .int .i64 x55_3 ∧ Aside0 (canopylaw01_UnitsOwn.l2 kq l0 a1 l2 y300 x12_3 (t311.length : Int) x55_3 = some r) ∧ Aside0 (kq ≤ k2) ∧ Aside0 (Kd.R (Kd.int .u16) 43 w' w.heap.size (fun _ => True) (.slice Ao14 y300.length co14) y300) ∧ Aside0 (Kd.R Kd.string 9 w' w.heap.size (fun _ => True) (.slice Ao32 t311.length co32) x12_3) ∧ Aside0 (Below w.heap.size w w'))
                  case atStart => exact ⟨(t311), (0), (by first | rfl | (simp; done) | (simp [*]; done)), H', ⟨Nat.le_refl _⟩, ⟨by (try simp only [hl8_1]); (try simp only [hl10_2]); (with_reducible repeat (first | apply Kd.R_alloc | apply Kd.R_drewN | apply Kd.R_drew)); exact Kd.R_mono HO_7.out (fun _ hk => trivial)⟩, ⟨by (try simp only [hl8_1]); (try simp only [hl10_2]); (with_reducible repeat (first | apply Kd.R_alloc | apply Kd.R_drewN | apply Kd.R_drew)); exact HO_12.out⟩, ⟨by repeat (first | (with_reducible first | exact HB.out | apply below_alloc | apply pw_below_drewN | apply below_drew1) | exact HB.out)⟩⟩
                  case round =>
                    clear H'
                    try clear c1
                    try clear c2
                    try clear p2
                    try clear q2
                    try clear hx2
                    try clear c5
                    try clear c6
                    try clear p6
                    try clear c7
                    try clear c10
                    try clear c19
                    try clear c19b0
                    try clear c20
                    try clear c20b0
                    try clear c21
                    try clear c21b0
                    try clear p22
                    try clear q22
                    try clear hx22
                    try clear hf22
                    try clear c25
                    try clear c26
                    try clear c26b0
                    try clear c27
                    try clear c27b0
                    try clear c28
                    try clear c28b0
                    try clear p29
                    try clear q29
                    try clear hx29
                    try clear hf29
                    try clear hx22_0
                    try clear hx29_0
                    try clear p2
                    try clear p22
                    try clear p29
                    try clear p6
                    try clear q2
                    try clear q22
                    try clear q29
                    obtain ⟨x12_3, x55_3, rfl, HA, HK3, HO_7, HO_12, HB⟩ := hrel
                    have hl12_3 := (Kd.R_reads' HO_12.out).1
                    rw [hl12_3] at HO_12
                    (try simp only [hl12_3])
                    (try simp only [hl12_3] at HO_7)
                    cases gk with
                    | zero => exact absurd HA.out (by simp [canopylaw01_UnitsOwn.l2])
                    | succ k3 =>
                      have H := HA.out
                      clear HA
                      simp only [canopylaw01_UnitsOwn.l2] at H
                      by_cases c33 : x55_3 < (t311.length : Int)
                      · rw [if_pos c33] at H
                        have c33b0 : decide (x55_3 < (t311.length : Int)) = true := decide_eq_true c33
                        clear c33
                        by_cases c34 : 0 ≤ x55_3
                        · rw [if_pos c34] at H
                          have c34b0 : decide (0 ≤ x55_3) = true := decide_eq_true c34
                          clear c34
                          by_cases c35 : x55_3 < (x12_3.length : Int)
                          · rw [if_pos c35] at H
                            have c35b0 : decide (x55_3 < (x12_3.length : Int)) = true := decide_eq_true c35
                            clear c35
                            obtain ⟨y316, hy316⟩ : ∃ y_ : List ByteArray, y_ = (x12_3.set (x55_3 : Int).toNat (⟨#[103, 111, 110, 101]⟩ : ByteArray)) := ⟨_, rfl⟩
                            replace H : (canopylaw01_UnitsOwn.l2 k3 l0 a1 l2 y300 y316 (t311.length : Int) (wrap64 (x55_3 + 1))) = some r := by first | (rw [hy316]; with_reducible exact H) | (have H2_ := (Option.bind_some _ _).symm.trans H; rw [hy316]; with_reducible exact H2_) | (have H2_ := (Option.bind_some _ _).symm.trans H; with_reducible exact H2_) | with_reducible exact H | (rw [hy316]; exact H) | exact H
                            have Ny316 := Aside0.mk hy316
                            clear hy316
                            have H' := Aside0.mk H
                            clear H
                            have p36 : 0 ≤ (x55_3 : Int) := of_decide_eq_true (by first | (with_reducible assumption) | assumption)
                            have q36 : (x55_3 : Int) < ((x12_3.length : Int) : Int) := of_decide_eq_true (by first | (with_reducible assumption) | assumption)
                            obtain ⟨go36, co36, eo36, gb36, gl36, cl36, HG36⟩ := Kd.R_form HO_12.out (by omega)
                            (first | cases eo36 | (injection eo36 with ea_ en_ ec_; (first | subst ea_ | (injection ea_ with ea_; subst ea_)); subst ec_; clear en_))
                            have GB36 := Aside0.mk gb36
                            have GG36 := Aside0.mk HG36
                            clear gb36 gl36 HG36
                            obtain ⟨hx36_0, hf36_0⟩ := Kd.R_celln (⟨#[]⟩ : ByteArray) HO_12.out (x55_3 : Int) p36 q36
                            replace p36 := eq_true p36
                            replace q36 := eq_true q36
                            have HP37 := Kd.R_putg HO_12.out (x55_3 : Int) (⟨#[103, 111, 110, 101]⟩ : ByteArray)
                            go_wp2_with (first | ((with_reducible refine gate_store (t := 9) (p := 60) rfl ?_); refine store_event (t := 9) (p := 60) (v := ?vo_w38) (w1 := (wr.setCell ⟨go36, (x55_3 : Int).toNat, none⟩ (.string (⟨#[103, 111, 110, 101]⟩ : ByteArray)))) ?hg ?ho ?hn ?hr ?_; (case ho => rfl); (case hg => rfl); (case hn => rfl); (case hr => first | (go_simp; done) | (go_simp; rfl)); intro w38 hw; have hg : wr.grownBy w38 (some go36) := (by rw [hw]; exact HP37.2); have hp_ : Kd.R Kd.string 9 w38 w.heap.size (fun _ => True) (.slice (some ⟨go36, 0, none⟩) x12_3.length co32) y316 := (by rw [hw, Ny316.out]; exact HP37.1); clear HP37; have n0_ := Aside0.mk (Kd.R_over' (v := (.slice (some ⟨go36, 0, none⟩) x12_3.length co32)) (by (with_reducible repeat (first | apply Kd.R_alloc | apply Kd.R_drewN | apply Kd.R_drew)); exact HO_7.out) (Kd.R_typed HO_12.out) (by decide) hg); have n1_ := Aside0.mk (hp_); have n2_ := Aside0.mk ((by rw [hw]; exact below_set (HB.out) GB36.out : Below w.heap.size w w38)); clear HO_7; clear HO_12; clear HB; have HO_7 := n0_; have HO_12 := n1_; have HB := n2_; clear n0_ n1_ n2_; clear hg hw hp_))
                            (try simp only [← hl12_3])
                            go_roundg k3
                            case measure => have := HK1.out; have := HK2.out; have := HK3.out; omega
                            case rel => exact ⟨(y316), (wrap64 (x55_3 + 1)), (by first | rfl | (simp; done) | (simp [*]; done)), H', ⟨by have := HK1.out; have := HK2.out; have := HK3.out; omega⟩, ⟨by (try simp only [hl8_1]); (try simp only [hl10_2]); (try simp only [hl12_3]); (with_reducible repeat (first | apply Kd.R_alloc | apply Kd.R_drewN | apply Kd.R_drew)); exact HO_7.out⟩, ⟨by (try simp only [hl8_1]); (try simp only [hl10_2]); (try simp only [hl12_3]); (with_reducible repeat (first | apply Kd.R_alloc | apply Kd.R_drewN | apply Kd.R_drew)); exact HO_12.out⟩, ⟨by repeat (first | (with_reducible first | exact HB.out | apply below_alloc | apply pw_below_drewN | apply below_drew1) | exact HB.out)⟩⟩
                          · rw [if_neg c35] at H
                            exact absurd H (by simp)
                        · rw [if_neg c34] at H
                          exact absurd H (by simp)
                      · rw [if_neg c33] at H
                        have c33b0 : decide (x55_3 < (t311.length : Int)) = false := decide_eq_false c33
                        try rw [hl8_1] at c33b0
                        try rw [hl10_2] at c33b0
                        try rw [hl12_3] at c33b0
                        clear c33
                        replace H := Option.bind_eq_some_iff.mp H
                        obtain ⟨t317, A390, H⟩ := H
                        replace H : (if t317 = true then ((canopylaw01_UnitsCuts.f k3 y300 a1 9 ([] : List Int) 0).bind fun t318 => (if t318 = true then ((units_Set.f l2).bind fun t319 => ((canopyref01_Set.f k3 l2).bind fun t322 => ((canopyref01_Strings.f k3 t319 t322).bind fun t325 => (some t325)))) else (some false))) else (some false)) = some r := H
                        have A39 := Aside0.mk A390
                        clear A390
                        by_cases c40 : t317 = true
                        · subst c40
                          have H1 : ((canopylaw01_UnitsCuts.f k3 y300 a1 9 ([] : List Int) 0).bind fun t318 => (if t318 = true then ((units_Set.f l2).bind fun t319 => ((canopyref01_Set.f k3 l2).bind fun t322 => ((canopyref01_Strings.f k3 t319 t322).bind fun t325 => (some t325)))) else (some false))) = some r := by rw [if_pos rfl] at H; exact H
                          clear H
                          have H := H1
                          clear H1
                          replace H := Option.bind_eq_some_iff.mp H
                          obtain ⟨t318, A410, H⟩ := H
                          replace H : (if t318 = true then ((units_Set.f l2).bind fun t319 => ((canopyref01_Set.f k3 l2).bind fun t322 => ((canopyref01_Strings.f k3 t319 t322).bind fun t325 => (some t325)))) else (some false)) = some r := H
                          have A41 := Aside0.mk A410
                          clear A410
                          by_cases c42 : t318 = true
                          · subst c42
                            have H1 : ((units_Set.f l2).bind fun t319 => ((canopyref01_Set.f k3 l2).bind fun t322 => ((canopyref01_Strings.f k3 t319 t322).bind fun t325 => (some t325)))) = some r := by rw [if_pos rfl] at H; exact H
                            clear H
                            have H := H1
                            clear H1
                            replace H := Option.bind_eq_some_iff.mp H
                            obtain ⟨t319, A430, H⟩ := H
                            replace H : ((canopyref01_Set.f k3 l2).bind fun t322 => ((canopyref01_Strings.f k3 t319 t322).bind fun t325 => (some t325))) = some r := H
                            have A43 := Aside0.mk A430
                            clear A430
                            replace H := Option.bind_eq_some_iff.mp H
                            obtain ⟨t322, A440, H⟩ := H
                            replace H : ((canopyref01_Strings.f k3 t319 t322).bind fun t325 => (some t325)) = some r := H
                            have A44 := Aside0.mk A440
                            clear A440
                            replace H := Option.bind_eq_some_iff.mp H
                            obtain ⟨t325, A450, H⟩ := H
                            replace H : (some t325) = some r := H
                            have A45 := Aside0.mk A450
                            clear A450
                            obtain rfl := Option.some.inj H
                            go_wp2_with (first | ((with_reducible refine gate_callee (f := 14) rfl ?_); refine goesL_ (some 64) rfl rfl Try.func14 (by kernel_rfl) rfl #[.slice Ao14 y300.length co14, .slice A0 l0.length c0] rfl (by (try simp only [List.map_toArray, List.map_cons, List.map_nil]); first | done | rfl | (simp only [List.length_drop, List.length_take]; rfl)) ?_; (with_reducible refine (canopyref01_Same.calls k3 _ _ y300 _ _ l0 true _ ?side1 ?side2 ?side3 ?side4 A39.out).mono ?_); (case side1 => repeat (first | exact (Kd.R_reads' HO_7.out).2.2 | (with_reducible refine Kd.C_alloc ?_ _) | (with_reducible refine Kd.C_drewN ?_ _) | (with_reducible refine Kd.C_drew ?_))); (case side2 => exact (Kd.R_reads' HO_7.out).2.1); (case side3 => repeat (first | exact (Kd.C_below HR0.out HB.out) | (with_reducible refine Kd.C_alloc ?_ _) | (with_reducible refine Kd.C_drewN ?_ _) | (with_reducible refine Kd.C_drew ?_))); (case side4 => exact HC0.out); rintro e w' ⟨rfl, ⟨nd, rfl⟩⟩; refine ⟨_, rfl, ?_⟩) | (go_at_call 5; (refine (canopylaw01_UnitsCuts.calls k3 _ _ y300 a1 9 _ _ ([] : List Int) 0 true _ ?side1 ?side2 ?side3 ?side4 A41.out).mono ?_); (case side1 => repeat (first | exact (Kd.R_reads' HO_7.out).2.2 | (with_reducible refine Kd.C_alloc ?_ _) | (with_reducible refine Kd.C_drewN ?_ _) | (with_reducible refine Kd.C_drew ?_))); (case side2 => exact (Kd.R_reads' HO_7.out).2.1); (case side3 => exact Kd.C_nil _ _); (case side4 => exact Nat.le_refl _); rintro e w46 ⟨rfl, hb⟩; have n0_ := Aside0.mk (Kd.R_below (by (with_reducible repeat (first | apply Kd.R_alloc | apply Kd.R_drewN | apply Kd.R_drew)); exact HO_7.out) hb); have n1_ := Aside0.mk (Kd.R_below (by (with_reducible repeat (first | apply Kd.R_alloc | apply Kd.R_drewN | apply Kd.R_drew)); exact HO_12.out) hb); have n2_ := Aside0.mk (below_step (by repeat (first | (with_reducible first | exact HB.out | apply below_alloc | apply pw_below_drewN | apply below_drew1) | exact HB.out)) hb); clear HO_7; clear HO_12; clear HB; have HO_7 := n0_; have HO_12 := n1_; have HB := n2_; clear n0_ n1_ n2_; (try clear hb); (try clear hb2); (try clear hk); (try clear hi)) | (go_at_call 25; (with_reducible refine (units_Set.calls _ _ l2 t319 _ ?side1 ?side2 A43.out).mono ?_); (case side1 => repeat (first | exact (Kd.C_below HR2.out HB.out) | (with_reducible refine Kd.C_alloc ?_ _) | (with_reducible refine Kd.C_drewN ?_ _) | (with_reducible refine Kd.C_drew ?_))); (case side2 => exact HC2.out); rintro e w47 ⟨v320, rfl, ho0, hb⟩; have n0_ := Aside0.mk (Kd.R_below (by (with_reducible repeat (first | apply Kd.R_alloc | apply Kd.R_drewN | apply Kd.R_drew)); exact HO_7.out) hb); have n1_ := Aside0.mk (Kd.R_elder' (by (with_reducible repeat (first | apply Kd.R_alloc | apply Kd.R_drewN | apply Kd.R_drew)); exact HO_12.out) (Kd.R_base ho0) hb); have n2_ := Aside0.mk (Kd.R_lower (Kd.R_new' ho0 (Kd.R_lt (by (with_reducible repeat (first | apply Kd.R_alloc | apply Kd.R_drewN | apply Kd.R_drew)); exact HO_12.out))) (below_size (by repeat (first | (with_reducible first | exact HB.out | apply below_alloc | apply pw_below_drewN | apply below_drew1) | exact HB.out)))); have n3_ := Aside0.mk (below_step (by repeat (first | (with_reducible first | exact HB.out | apply below_alloc | apply pw_below_drewN | apply below_drew1) | exact HB.out)) hb); clear HO_7; clear HO_12; clear HB; have HO_7 := n0_; have HO_12 := n1_; have HO321 := n2_; have HB := n3_; clear n0_ n1_ n2_ n3_; (try clear hb); (try clear hb2); (try clear hk); (try clear hi); (try clear ho0)) | (go_at_call 27; (with_reducible refine (canopyref01_Set.calls k3 _ _ l2 t322 _ ?side1 ?side2 A44.out).mono ?_); (case side1 => repeat (first | exact (Kd.C_below HR2.out HB.out) | (with_reducible refine Kd.C_alloc ?_ _) | (with_reducible refine Kd.C_drewN ?_ _) | (with_reducible refine Kd.C_drew ?_))); (case side2 => exact HC2.out); rintro e w48 ⟨v323, rfl, ho0, hb⟩; have n0_ := Aside0.mk (Kd.R_below (by (with_reducible repeat (first | apply Kd.R_alloc | apply Kd.R_drewN | apply Kd.R_drew)); exact HO_7.out) hb); have n1_ := Aside0.mk (Kd.R_elder' (by (with_reducible repeat (first | apply Kd.R_alloc | apply Kd.R_drewN | apply Kd.R_drew)); exact HO_12.out) (Kd.R_base ho0) hb); have n2_ := Aside0.mk (Kd.R_elder' (by (with_reducible repeat (first | apply Kd.R_alloc | apply Kd.R_drewN | apply Kd.R_drew)); exact HO321.out) (Kd.R_base ho0) hb); have n3_ := Aside0.mk (Kd.R_lower (Kd.R_new' (Kd.R_new' ho0 (Kd.R_lt (by (with_reducible repeat (first | apply Kd.R_alloc | apply Kd.R_drewN | apply Kd.R_drew)); exact HO_12.out))) (Kd.R_lt (by (with_reducible repeat (first | apply Kd.R_alloc | apply Kd.R_drewN | apply Kd.R_drew)); exact HO321.out))) (below_size (by repeat (first | (with_reducible first | exact HB.out | apply below_alloc | apply pw_below_drewN | apply below_drew1) | exact HB.out)))); have n4_ := Aside0.mk (below_step (by repeat (first | (with_reducible first | exact HB.out | apply below_alloc | apply pw_below_drewN | apply below_drew1) | exact HB.out)) hb); clear HO_7; clear HO_12; clear HO321; clear HB; have HO_7 := n0_; have HO_12 := n1_; have HO321 := n2_; have HO324 := n3_; have HB := n4_; clear n0_ n1_ n2_ n3_ n4_; (try clear hb); (try clear hb2); (try clear hk); (try clear hi); (try clear ho0); obtain ⟨Ao49, co49, eo49⟩ := Kd.R_slice HO321.out; subst eo49; obtain ⟨Ao50, co50, eo50⟩ := Kd.R_slice HO324.out; subst eo50) | (go_at_call 26; (with_reducible refine (canopyref01_Strings.calls k3 _ _ t319 _ _ t322 t325 _ ?side1 ?side2 ?side3 ?side4 A45.out).mono ?_); (case side1 => repeat (first | exact (Kd.R_reads' HO321.out).2.2 | (with_reducible refine Kd.C_alloc ?_ _) | (with_reducible refine Kd.C_drewN ?_ _) | (with_reducible refine Kd.C_drew ?_))); (case side2 => exact (Kd.R_reads' HO321.out).2.1); (case side3 => repeat (first | exact (Kd.R_reads' HO324.out).2.2 | (with_reducible refine Kd.C_alloc ?_ _) | (with_reducible refine Kd.C_drewN ?_ _) | (with_reducible refine Kd.C_drew ?_))); (case side4 => exact (Kd.R_reads' HO324.out).2.1); rintro e w' ⟨rfl, ⟨nd, rfl⟩⟩))
                            go_ret
                            exact ⟨by first | rfl | (simp [errW_none, errW_some] <;> rfl) | (simp [*, errW_none, errW_some] <;> rfl), by repeat (first | (with_reducible first | exact HB.out | apply below_alloc | apply pw_below_drewN | apply below_drew1) | exact HB.out)⟩
                          · replace c42 := Bool.eq_false_iff.mpr c42
                            subst c42
                            have H1 : (some false) = some r := by rw [if_neg (show ¬ (false = true) by decide)] at H; exact H
                            clear H
                            have H := H1
                            clear H1
                            obtain rfl := Option.some.inj H
                            go_wp2_with (first | ((with_reducible refine gate_callee (f := 14) rfl ?_); refine goesL_ (some 64) rfl rfl Try.func14 (by kernel_rfl) rfl #[.slice Ao14 y300.length co14, .slice A0 l0.length c0] rfl (by (try simp only [List.map_toArray, List.map_cons, List.map_nil]); first | done | rfl | (simp only [List.length_drop, List.length_take]; rfl)) ?_; (with_reducible refine (canopyref01_Same.calls k3 _ _ y300 _ _ l0 true _ ?side1 ?side2 ?side3 ?side4 A39.out).mono ?_); (case side1 => repeat (first | exact (Kd.R_reads' HO_7.out).2.2 | (with_reducible refine Kd.C_alloc ?_ _) | (with_reducible refine Kd.C_drewN ?_ _) | (with_reducible refine Kd.C_drew ?_))); (case side2 => exact (Kd.R_reads' HO_7.out).2.1); (case side3 => repeat (first | exact (Kd.C_below HR0.out HB.out) | (with_reducible refine Kd.C_alloc ?_ _) | (with_reducible refine Kd.C_drewN ?_ _) | (with_reducible refine Kd.C_drew ?_))); (case side4 => exact HC0.out); rintro e w' ⟨rfl, ⟨nd, rfl⟩⟩; refine ⟨_, rfl, ?_⟩) | (go_at_call 5; (refine (canopylaw01_UnitsCuts.calls k3 _ _ y300 a1 9 _ _ ([] : List Int) 0 false _ ?side1 ?side2 ?side3 ?side4 A41.out).mono ?_); (case side1 => repeat (first | exact (Kd.R_reads' HO_7.out).2.2 | (with_reducible refine Kd.C_alloc ?_ _) | (with_reducible refine Kd.C_drewN ?_ _) | (with_reducible refine Kd.C_drew ?_))); (case side2 => exact (Kd.R_reads' HO_7.out).2.1); (case side3 => exact Kd.C_nil _ _); (case side4 => exact Nat.le_refl _); rintro e w51 ⟨rfl, hb⟩; have n0_ := Aside0.mk (Kd.R_below (by (with_reducible repeat (first | apply Kd.R_alloc | apply Kd.R_drewN | apply Kd.R_drew)); exact HO_7.out) hb); have n1_ := Aside0.mk (Kd.R_below (by (with_reducible repeat (first | apply Kd.R_alloc | apply Kd.R_drewN | apply Kd.R_drew)); exact HO_12.out) hb); have n2_ := Aside0.mk (below_step (by repeat (first | (with_reducible first | exact HB.out | apply below_alloc | apply pw_below_drewN | apply below_drew1) | exact HB.out)) hb); clear HO_7; clear HO_12; clear HB; have HO_7 := n0_; have HO_12 := n1_; have HB := n2_; clear n0_ n1_ n2_; (try clear hb); (try clear hb2); (try clear hk); (try clear hi)))
                            go_ret
                            exact ⟨by first | rfl | (simp [errW_none, errW_some] <;> rfl) | (simp [*, errW_none, errW_some] <;> rfl), by repeat (first | (with_reducible first | exact HB.out | apply below_alloc | apply pw_below_drewN | apply below_drew1) | exact HB.out)⟩
                        · replace c40 := Bool.eq_false_iff.mpr c40
                          subst c40
                          have H1 : (some false) = some r := by rw [if_neg (show ¬ (false = true) by decide)] at H; exact H
                          clear H
                          have H := H1
                          clear H1
                          obtain rfl := Option.some.inj H
                          go_wp2_with (first | ((with_reducible refine gate_callee (f := 14) rfl ?_); refine goesL_ (some 64) rfl rfl Try.func14 (by kernel_rfl) rfl #[.slice Ao14 y300.length co14, .slice A0 l0.length c0] rfl (by (try simp only [List.map_toArray, List.map_cons, List.map_nil]); first | done | rfl | (simp only [List.length_drop, List.length_take]; rfl)) ?_; (with_reducible refine (canopyref01_Same.calls k3 _ _ y300 _ _ l0 false _ ?side1 ?side2 ?side3 ?side4 A39.out).mono ?_); (case side1 => repeat (first | exact (Kd.R_reads' HO_7.out).2.2 | (with_reducible refine Kd.C_alloc ?_ _) | (with_reducible refine Kd.C_drewN ?_ _) | (with_reducible refine Kd.C_drew ?_))); (case side2 => exact (Kd.R_reads' HO_7.out).2.1); (case side3 => repeat (first | exact (Kd.C_below HR0.out HB.out) | (with_reducible refine Kd.C_alloc ?_ _) | (with_reducible refine Kd.C_drewN ?_ _) | (with_reducible refine Kd.C_drew ?_))); (case side4 => exact HC0.out); rintro e w' ⟨rfl, ⟨nd, rfl⟩⟩; refine ⟨_, rfl, ?_⟩))
                          go_ret
                          exact ⟨by first | rfl | (simp [errW_none, errW_some] <;> rfl) | (simp [*, errW_none, errW_some] <;> rfl), by repeat (first | (with_reducible first | exact HB.out | apply below_alloc | apply pw_below_drewN | apply below_drew1) | exact HB.out)⟩
    · rw [if_neg c6] at H
      exact absurd H (by simp)
  · replace c5 := Bool.eq_false_iff.mpr c5
    subst c5
    have H1 : (some false) = some r := by rw [if_neg (show ¬ (false = true) by decide)] at H; exact H
    clear H
    have H := H1
    clear H1
    obtain rfl := Option.some.inj H
    go_enter Try.func7, Try.ntmps7
    go_wp2_with (first | ((with_reducible refine gate_callee (f := 10) rfl ?_); refine goesL_ (some 16) rfl rfl Try.func10 (by kernel_rfl) rfl #[] rfl (by (try simp only [List.map_toArray, List.map_cons, List.map_nil]); first | done | rfl | (simp only [List.length_drop, List.length_take]; rfl)) ?_; (with_reducible refine (canopylaw01_lives.calls k  false _ A4.out).mono ?_); rintro e w52 ⟨rfl, hb⟩; refine ⟨_, rfl, ?_⟩; have n0_ := Aside0.mk (below_step (by repeat (first | (with_reducible first | exact HB.out | apply below_alloc | apply pw_below_drewN | apply below_drew1) | exact HB.out)) hb); clear HB; have HB := n0_; clear n0_; (try clear hb); (try clear hb2); (try clear hk); (try clear hi)))
    go_ret
    exact ⟨by first | rfl | (simp [errW_none, errW_some] <;> rfl) | (simp [*, errW_none, errW_some] <;> rfl), by repeat (first | (with_reducible first | exact HB.out | apply below_alloc | apply pw_below_drewN | apply below_drew1) | exact HB.out)⟩

end Go.Proofs.Ytgjifcflkcpnlaa.P
