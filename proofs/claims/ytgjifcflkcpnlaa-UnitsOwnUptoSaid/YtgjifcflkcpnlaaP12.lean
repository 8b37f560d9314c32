/- Contracts of Go functions of this seat, laid by program out of the translation's own print: each Go function as a plain Lean function, and a proof that the machine's call comes to its answers. -/
import Derived.Test.YtgjifcflkcpnlaaP0
import Derived.Test.YtgjifcflkcpnlaaP11
namespace Go.Proofs.Ytgjifcflkcpnlaa.P
open Go.RowKit Go.Proofs.YtgjifcflkcpnlaaW.PrintWords Go.Proofs.YtgjifcflkcpnlaaW.PrintLast Go.Proofs.YtgjifcflkcpnlaaW.PrintMore
attribute [local go_sem] max2_int min2_int max_two min_two max_three min_three max_four min_four   -- for this text's walks alone
set_option linter.unusedVariables false
set_option linter.unusedSimpArgs false

/-! ### canopyref01_Sub: function 20 -/
def canopyref01_Sub.f (l0 : List Int) (a1 : Int) (a2 : Int) : Option (List Int × Int) := if (wrap64 (a1)) > (l0.length : Int) then (some (([] : List Int), 14)) else ((some (([] : List Int) : List Int)).bind fun y201 => (if 0 ≤ a1 then (if a1 ≤ (mn (wrap64 ((wrap64 (a1)) + (wrap64 (a2)))) (l0.length : Int)) then (if (mn (wrap64 ((wrap64 (a1)) + (wrap64 (a2)))) (l0.length : Int)) ≤ (l0.length : Int) then (if y201.length + ((l0.take ((mn (wrap64 ((wrap64 (a1)) + (wrap64 (a2)))) (l0.length : Int)) : Int).toNat).drop (a1 : Int).toNat).length < 70368744177664 then (some ((y201 ++ ((l0.take ((mn (wrap64 ((wrap64 (a1)) + (wrap64 (a2)))) (l0.length : Int)) : Int).toNat).drop (a1 : Int).toNat)), 0)) else (none)) else (none)) else (none)) else (none)))
set_option maxHeartbeats 8000000 in
set_option maxRecDepth 100000 in
theorem canopyref01_Sub.calls (A0 : Option Addr) (c0 : Nat) (l0 : List Int) (a1 : Int) (a2 : Int) (r1 : List Int) (r2 : Int) (w : World) (hr0 : Kd.C (Kd.int .u16) w A0 l0.length l0) (hc0 : l0.length ≤ c0) (h : canopyref01_Sub.f l0 a1 a2 = some (r1, r2)) :
    Calls Try.prog 20 #[.slice A0 l0.length c0, .int .u32 a1, .int .u32 a2] w fun e w' => ∃ v0_ : Value, e = .returned (.tuple #[v0_, .int .i64 r2]) ∧ Kd.R (Kd.int .u16) 43 w' w.heap.size (fun _ => True) v0_ r1 ∧ Below w.heap.size w w' := by
  have HR0 := Aside0.mk hr0
  have HC0 := Aside0.mk hc0
  clear hr0 hc0
  have HB := Aside0.mk (Below.refl w.heap.size w)
  have H : (if (wrap64 (a1)) > (l0.length : Int) then (some (([] : List Int), 14)) else ((some (([] : List Int) : List Int)).bind fun y201 => (if 0 ≤ a1 then (if a1 ≤ (mn (wrap64 ((wrap64 (a1)) + (wrap64 (a2)))) (l0.length : Int)) then (if (mn (wrap64 ((wrap64 (a1)) + (wrap64 (a2)))) (l0.length : Int)) ≤ (l0.length : Int) then (if y201.length + ((l0.take ((mn (wrap64 ((wrap64 (a1)) + (wrap64 (a2)))) (l0.length : Int)) : Int).toNat).drop (a1 : Int).toNat).length < 70368744177664 then (some ((y201 ++ ((l0.take ((mn (wrap64 ((wrap64 (a1)) + (wrap64 (a2)))) (l0.length : Int)) : Int).toNat).drop (a1 : Int).toNat)), 0)) else (none)) else (none)) else (none)) else (none)))) = some (r1, r2) := h
  clear h
  by_cases c4 : (wrap64 (a1)) > (l0.length : Int)
  · rw [if_pos c4] at H
    have c4b0 : decide ((l0.length : Int) < (wrap64 (a1))) = true := decide_eq_true c4
    clear c4
    simp only [Option.some.injEq, Prod.mk.injEq] at H
    obtain ⟨rfl, rfl⟩ := H
    go_enter Try.func20, Try.ntmps20
    go_wp2
    go_ret2
    exact ⟨_, by first | rfl | (simp [errW_none, errW_some] <;> rfl) | (simp [*, errW_none, errW_some] <;> rfl), by first | exact Kd.R_nil _ _ _ _ _ | exact Kd.N_nil _ _ _ _ _ | exact Kd.V_nil _ _ _ _ _ | exact Kd.Q_nil _ _ _ _ _ | exact Kd.S_nil _ _ _ _ _, by repeat (first | (with_reducible first | exact HB.out | apply below_alloc | apply pw_below_drewN | apply below_drew1) | exact HB.out)⟩
  · rw [if_neg c4] at H
    have c4b0 : decide ((l0.length : Int) < (wrap64 (a1))) = false := decide_eq_false c4
    clear c4
    obtain ⟨ji5, hji5⟩ : ∃ j_ : Int, (mn (wrap64 ((wrap64 (a1)) + (wrap64 (a2)))) (l0.length : Int)) = j_ := ⟨_, rfl⟩
    replace H : ((some (([] : List Int) : List Int)).bind fun y201 => (if 0 ≤ a1 then (if a1 ≤ (ji5) then (if (ji5) ≤ (l0.length : Int) then (if y201.length + ((l0.take ((ji5) : Int).toNat).drop (a1 : Int).toNat).length < 70368744177664 then (some ((y201 ++ ((l0.take ((ji5) : Int).toNat).drop (a1 : Int).toNat)), 0)) else (none)) else (none)) else (none)) else (none))) = some (r1, r2) := by first | (rw [hji5] at H; exact H) | (simp only [hji5] at H ⊢; exact H)
    have hji5_ : (if (l0.length : Int) < (wrap64 ((wrap64 (a1)) + (wrap64 (a2)))) then (l0.length : Int) else (wrap64 ((wrap64 (a1)) + (wrap64 (a2))))) = ji5 := hji5
    obtain ⟨y201, hy201⟩ : ∃ y_ : List Int, y_ = (([] : List Int)) := ⟨_, rfl⟩
    replace H : (if 0 ≤ a1 then (if a1 ≤ (ji5) then (if (ji5) ≤ (l0.length : Int) then (if y201.length + ((l0.take ((ji5) : Int).toNat).drop (a1 : Int).toNat).length < 70368744177664 then (some ((y201 ++ ((l0.take ((ji5) : Int).toNat).drop (a1 : Int).toNat)), 0)) else (none)) else (none)) else (none)) else (none)) = some (r1, r2) := by first | (rw [hy201]; with_reducible exact H) | (have H2_ := (Option.bind_some _ _).symm.trans H; rw [hy201]; with_reducible exact H2_) | (have H2_ := (Option.bind_some _ _).symm.trans H; with_reducible exact H2_) | with_reducible exact H | (rw [hy201]; exact H) | exact H
    have Ny201 := Aside0.mk hy201
    clear hy201
    by_cases c6 : 0 ≤ a1
    · rw [if_pos c6] at H
      have c6b0 := eq_true c6
      have c6b1 : decide (0 ≤ a1) = true := decide_eq_true c6
      clear c6
      by_cases c7 : a1 ≤ (ji5)
      · rw [if_pos c7] at H
        have c7b0 := eq_true c7
        have c7b1 : decide (a1 ≤ (ji5)) = true := decide_eq_true c7
        clear c7
        by_cases c8 : (ji5) ≤ (l0.length : Int)
        · rw [if_pos c8] at H
          have c8b0 := eq_true c8
          have c8b1 : decide ((ji5) ≤ (l0.length : Int)) = true := decide_eq_true c8
          clear c8
          by_cases c9 : y201.length + ((l0.take ((ji5) : Int).toNat).drop (a1 : Int).toNat).length < 70368744177664
          · rw [if_pos c9] at H
            have LMc9 := Aside0.mk c9
            clear c9
            obtain ⟨y205, hy205⟩ : ∃ y_ : List Int, y_ = (y201 ++ ((l0.take ((ji5) : Int).toNat).drop (a1 : Int).toNat)) := ⟨_, rfl⟩
            replace H : (some (y205, 0)) = some (r1, r2) := by first | (rw [hy205]; with_reducible exact H) | (have H2_ := (Option.bind_some _ _).symm.trans H; rw [hy205]; with_reducible exact H2_) | (have H2_ := (Option.bind_some _ _).symm.trans H; with_reducible exact H2_) | with_reducible exact H | (rw [hy205]; exact H) | exact H
            have Ny205 := Aside0.mk hy205
            clear hy205
            simp only [Option.some.injEq, Prod.mk.injEq] at H
            obtain ⟨rfl, rfl⟩ := H
            go_enter Try.func20, Try.ntmps20
            go_wp2_with (first | ((with_reducible refine gate_dst (N := 22) rfl ?_); refine Kd.R_lit (Kd.int .u16) _ 43 ?hg (N := 22) ?hd (xs := ([] : List Int)) (inner := []) (ok := fun _ => True) (okp := fun _ => True) ?hr ?hp (fun _ hk => hk) trivial (Below.refl _ _) (Nat.le_refl _) (by simp) ?_; (case hd => rfl); (case hg => rfl); (case hr => first | (go_simp; done) | (go_simp; rfl)); (case hp => exact (Reps.none _ _)); intro v202 w10 ho11 hb hg_ hnew_; clear hg_ hnew_; (first | rw [← Ny201.out] at ho11 | (simp only [Int.reduceToNat] at ho11; rw [← Ny201.out] at ho11)); have n0_ := Aside0.mk (Kd.R_lower ho11 (below_size (by repeat (first | (with_reducible first | exact HB.out | apply below_alloc | apply pw_below_drewN | apply below_drew1) | exact HB.out)))); have n1_ := Aside0.mk (below_step (by repeat (first | (with_reducible first | exact HB.out | apply below_alloc | apply pw_below_drewN | apply below_drew1) | exact HB.out)) hb); clear HB; have HO203 := n0_; have HB := n1_; clear n0_ n1_; clear hb ho11; obtain ⟨i012, hi012, _, hsz12, _⟩ := info_parts info43; obtain ⟨A12, hcut12, hA12, hC12⟩ := print_mid_of (P := Try.prog) (Value.int .u16) 0 23 43 .u32 .i64 Try.underlying23 hi012 hsz12 A0 c0 l0 a1 (ji5) (of_decide_eq_true (by first | (with_reducible assumption) | assumption)) (by first | omega | exact of_decide_eq_true (by first | (with_reducible assumption) | assumption)) (of_decide_eq_true (by first | (with_reducible assumption) | assumption)) HC0.out; have HR204 := Aside0.mk (Kd.C_of_reads (h1 := fun _ => rfl) (hA12 _ (Kd.reads_of_C HR0.out))); have HC204 := Aside0.mk hC12; clear hA12 hC12 hi012 hsz12) | ((with_reducible refine gate_builtin (b := .append) (xs := #[.tmp 22, .tmp 26]) rfl ?_); at_builtin; refine Kd.R_append_rows (Kd.int .u16) (w0 := w) w.heap.size rfl (.tmp 22) (.tmp 26) 23 43 (.int .u16 0) 2 rfl Try.underlying23 info43 rfl (by decide) (by omega) v202 y201 ((l0.take ((ji5) : Int).toNat).drop (a1 : Int).toNat) _ _ _ (fun _ => True) (fun _ => False) rfl rfl ?aO ?aR (fun _ _ h => h) (fun _ h => h.elim) ?aF ?aB ?aS ?aL ?_; (case aR => first | (refine (show ∀ {W_ : World} {A_ : Option Addr}, Kd.C (Kd.int .u16) W_ A_ ((l0.take ((ji5) : Int).toNat).drop (a1 : Int).toNat).length ((l0.take ((ji5) : Int).toNat).drop (a1 : Int).toNat) → ReadsRow (Kd.K (Kd.int .u16) W_) ((Kd.int .u16)).sz W_ A_ ((ji5).toNat - a1.toNat) ((l0.take ((ji5) : Int).toNat).drop (a1 : Int).toNat) from fun h_ => by rw [show ((l0.take ((ji5) : Int).toNat).drop (a1 : Int).toNat).length = ((ji5).toNat - a1.toNat) from (by rw [List.length_drop, List.length_take]; have h_ : ((ji5) : Int) ≤ (l0.length : Int) := of_decide_eq_true (by first | (with_reducible assumption) | assumption); omega)] at h_; exact h_) ?_; repeat (first | exact (Kd.C_below HR204.out HB.out) | (with_reducible refine Kd.C_alloc ?_ _) | (with_reducible refine Kd.C_drewN ?_ _) | (with_reducible refine Kd.C_drew ?_))) | (rw [← show ((l0.take ((ji5) : Int).toNat).drop (a1 : Int).toNat).length = ((ji5).toNat - a1.toNat) from (by rw [List.length_drop, List.length_take]; have h_ : ((ji5) : Int) ≤ (l0.length : Int) := of_decide_eq_true (by first | (with_reducible assumption) | assumption); omega)]; repeat (first | exact (Kd.C_below HR204.out HB.out) | (with_reducible refine Kd.C_alloc ?_ _) | (with_reducible refine Kd.C_drewN ?_ _) | (with_reducible refine Kd.C_drew ?_))) | (repeat (first | exact (Kd.C_below HR204.out HB.out) | (with_reducible refine Kd.C_alloc ?_ _) | (with_reducible refine Kd.C_drewN ?_ _) | (with_reducible refine Kd.C_drew ?_)))); (case aB => exact (by repeat (first | (with_reducible first | exact HB.out | apply below_alloc | apply pw_below_drewN | apply below_drew1) | exact HB.out))); (case aF => exact (fun _ _ => trivial)); (case aO => exact (by (with_reducible repeat (first | apply Kd.R_alloc | apply Kd.R_drewN | apply Kd.R_drew)); exact HO203.out)); (case aS => exact (below_size (by repeat (first | (with_reducible first | exact HB.out | apply below_alloc | apply pw_below_drewN | apply below_drew1) | exact HB.out)))); (case aL => have := LMc9.out; have hlx_ := (show ((l0.take ((ji5) : Int).toNat).drop (a1 : Int).toNat).length = ((ji5).toNat - a1.toNat) from (by rw [List.length_drop, List.length_take]; have h_ : ((ji5) : Int) ≤ (l0.length : Int) := of_decide_eq_true (by first | (with_reducible assumption) | assumption); omega)); omega); intro v206 w13 ho hb hg hat; rw [← Ny205.out] at ho; have n0_ := Aside0.mk (hb); have n1_ := Aside0.mk (ho); clear HB; clear HO203; have HB := n0_; have HO207 := n1_; clear n0_ n1_; clear ho hb hg hat))
            go_ret2
            exact ⟨_, by first | rfl | (simp [errW_none, errW_some] <;> rfl) | (simp only [← hji5]; first | rfl | (simp [errW_none, errW_some] <;> rfl)) | (simp [*, errW_none, errW_some] <;> rfl), by (with_reducible repeat (first | apply Kd.R_alloc | apply Kd.R_drewN | apply Kd.R_drew)); exact HO207.out, by repeat (first | (with_reducible first | exact HB.out | apply below_alloc | apply pw_below_drewN | apply below_drew1) | exact HB.out)⟩
          · rw [if_neg c9] at H
            exact absurd H (by simp)
        · rw [if_neg c8] at H
          exact absurd H (by simp)
      · rw [if_neg c7] at H
        exact absurd H (by simp)
    · rw [if_neg c6] at H
      exact absurd H (by simp)

/-! ### units_Replace: function 21 -/
def units_Replace.f (l0 : List Int) (a1 : Int) (a2 : Int) (l3 : List Int) : Option (List Int × Int) := (units_span.f l0 a1 a2).bind fun bt208 => (if bt208.2.2 = true then (if (wrap64 ((wrap64 ((l0.length : Int) - (wrap64 (bt208.2.1 - bt208.1)))) + (l3.length : Int))) > 16384 then (some (([] : List Int), 4)) else (if 0 ≤ bt208.1 then (if bt208.1 ≤ (l0.length : Int) then (if ([] : List Int).length + (l0.take (bt208.1 : Int).toNat).length < 70368744177664 then ((some (([] : List Int) ++ (l0.take (bt208.1 : Int).toNat) : List Int)).bind fun y212 => (if y212.length + l3.length < 70368744177664 then ((some (y212 ++ l3 : List Int)).bind fun y215 => (if 0 ≤ bt208.2.1 then (if bt208.2.1 ≤ (l0.length : Int) then (if y215.length + (l0.drop (bt208.2.1 : Int).toNat).length < 70368744177664 then (some ((y215 ++ (l0.drop (bt208.2.1 : Int).toNat)), 0)) else (none)) else (none)) else (none))) else (none))) else (none)) else (none)) else (none))) else (some (([] : List Int), 14)))
set_option maxHeartbeats 8000000 in
set_option maxRecDepth 100000 in
theorem units_Replace.calls (A0 : Option Addr) (c0 : Nat) (l0 : List Int) (a1 : Int) (a2 : Int) (A3 : Option Addr) (c3 : Nat) (l3 : List Int) (r1 : List Int) (r2 : Int) (w : World) (hr0 : Kd.C (Kd.int .u16) w A0 l0.length l0) (hc0 : l0.length ≤ c0) (hr3 : Kd.C (Kd.int .u16) w A3 l3.length l3) (hc3 : l3.length ≤ c3) (h : units_Replace.f l0 a1 a2 l3 = some (r1, r2)) :
    Calls Try.prog 21 #[.slice A0 l0.length c0, .int .u32 a1, .int .u32 a2, .slice A3 l3.length c3] w fun e w' => ∃ v0_ : Value, e = .returned (.tuple #[v0_, .int .i64 r2]) ∧ Kd.R (Kd.int .u16) 43 w' w.heap.size (fun _ => True) v0_ r1 ∧ Below w.heap.size w w' := by
  have HR0 := Aside0.mk hr0
  have HC0 := Aside0.mk hc0
  clear hr0 hc0
  have HR3 := Aside0.mk hr3
  have HC3 := Aside0.mk hc3
  clear hr3 hc3
  have HB := Aside0.mk (Below.refl w.heap.size w)
  have H : ((units_span.f l0 a1 a2).bind fun bt208 => (if bt208.2.2 = true then (if (wrap64 ((wrap64 ((l0.length : Int) - (wrap64 (bt208.2.1 - bt208.1)))) + (l3.length : Int))) > 16384 then (some (([] : List Int), 4)) else (if 0 ≤ bt208.1 then (if bt208.1 ≤ (l0.length : Int) then (if ([] : List Int).length + (l0.take (bt208.1 : Int).toNat).length < 70368744177664 then ((some (([] : List Int) ++ (l0.take (bt208.1 : Int).toNat) : List Int)).bind fun y212 => (if y212.length + l3.length < 70368744177664 then ((some (y212 ++ l3 : List Int)).bind fun y215 => (if 0 ≤ bt208.2.1 then (if bt208.2.1 ≤ (l0.length : Int) then (if y215.length + (l0.drop (bt208.2.1 : Int).toNat).length < 70368744177664 then (some ((y215 ++ (l0.drop (bt208.2.1 : Int).toNat)), 0)) else (none)) else (none)) else (none))) else (none))) else (none)) else (none)) else (none))) else (some (([] : List Int), 14)))) = some (r1, r2) := h
  clear h
  replace H := Option.bind_eq_some_iff.mp H
  obtain ⟨⟨t208, t209, t210⟩, A50, H⟩ := H
  replace H : (if t210 = true then (if (wrap64 ((wrap64 ((l0.length : Int) - (wrap64 (t209 - t208)))) + (l3.length : Int))) > 16384 then (some (([] : List Int), 4)) else (if 0 ≤ t208 then (if t208 ≤ (l0.length : Int) then (if ([] : List Int).length + (l0.take (t208 : Int).toNat).length < 70368744177664 then ((some (([] : List Int) ++ (l0.take (t208 : Int).toNat) : List Int)).bind fun y212 => (if y212.length + l3.length < 70368744177664 then ((some (y212 ++ l3 : List Int)).bind fun y215 => (if 0 ≤ t209 then (if t209 ≤ (l0.length : Int) then (if y215.length + (l0.drop (t209 : Int).toNat).length < 70368744177664 then (some ((y215 ++ (l0.drop (t209 : Int).toNat)), 0)) else (none)) else (none)) else (none))) else (none))) else (none)) else (none)) else (none))) else (some (([] : List Int), 14))) = some (r1, r2) := H
  have A5 := Aside0.mk A50
  clear A50
  by_cases c6 : t210 = true
  · subst c6
    have H1 : (if (wrap64 ((wrap64 ((l0.length : Int) - (wrap64 (t209 - t208)))) + (l3.length : Int))) > 16384 then (some (([] : List Int), 4)) else (if 0 ≤ t208 then (if t208 ≤ (l0.length : Int) then (if ([] : List Int).length + (l0.take (t208 : Int).toNat).length < 70368744177664 then ((some (([] : List Int) ++ (l0.take (t208 : Int).toNat) : List Int)).bind fun y212 => (if y212.length + l3.length < 70368744177664 then ((some (y212 ++ l3 : List Int)).bind fun y215 => (if 0 ≤ t209 then (if t209 ≤ (l0.length : Int) then (if y215.length + (l0.drop (t209 : Int).toNat).length < 70368744177664 then (some ((y215 ++ (l0.drop (t209 : Int).toNat)), 0)) else (none)) else (none)) else (none))) else (none))) else (none)) else (none)) else (none))) = some (r1, r2) := by rw [if_pos rfl] at H; exact H
    clear H
    have H := H1
    clear H1
    by_cases c7 : (wrap64 ((wrap64 ((l0.length : Int) - (wrap64 (t209 - t208)))) + (l3.length : Int))) > 16384
    · rw [if_pos c7] at H
      have c7b0 : decide (16384 < (wrap64 ((wrap64 ((l0.length : Int) - (wrap64 (t209 - t208)))) + (l3.length : Int)))) = true := decide_eq_true c7
      clear c7
      simp only [Option.some.injEq, Prod.mk.injEq] at H
      obtain ⟨rfl, rfl⟩ := H
      go_enter Try.func21, Try.ntmps21
      go_wp2_with (first | ((with_reducible refine gate_callee (f := 47) rfl ?_); refine goesL_ (some 18) rfl rfl Try.func47 (by kernel_rfl) rfl #[.slice A0 l0.length c0, .int .u32 a1, .int .u32 a2] rfl (by (try simp only [List.map_toArray, List.map_cons, List.map_nil]); first | done | rfl | (simp only [List.length_drop, List.length_take]; rfl)) ?_; (with_reducible refine (units_span.calls _ _ l0 a1 a2 t208 t209 true _ ?side1 ?side2 A5.out).mono ?_); (case side1 => repeat (first | exact HR0.out | (with_reducible refine Kd.C_alloc ?_ _) | (with_reducible refine Kd.C_drewN ?_ _) | (with_reducible refine Kd.C_drew ?_))); (case side2 => exact HC0.out); rintro e w8 ⟨rfl, hb⟩; refine ⟨_, rfl, ?_⟩; have n0_ := Aside0.mk (below_step (by repeat (first | (with_reducible first | exact HB.out | apply below_alloc | apply pw_below_drewN | apply below_drew1) | exact HB.out)) hb); clear HB; have HB := n0_; clear n0_; (try clear hb); (try clear hb2); (try clear hk); (try clear hi)))
      go_ret2
      exact ⟨_, by first | rfl | (simp [errW_none, errW_some] <;> rfl) | (simp [*, errW_none, errW_some] <;> rfl), by first | exact Kd.R_nil _ _ _ _ _ | exact Kd.N_nil _ _ _ _ _ | exact Kd.V_nil _ _ _ _ _ | exact Kd.Q_nil _ _ _ _ _ | exact Kd.S_nil _ _ _ _ _, by repeat (first | (with_reducible first | exact HB.out | apply below_alloc | apply pw_below_drewN | apply below_drew1) | exact HB.out)⟩
    · rw [if_neg c7] at H
      have c7b0 : decide (16384 < (wrap64 ((wrap64 ((l0.length : Int) - (wrap64 (t209 - t208)))) + (l3.length : Int)))) = false := decide_eq_false c7
      clear c7
      by_cases c9 : 0 ≤ t208
      · rw [if_pos c9] at H
        have c9b0 := eq_true c9
        have c9b1 : decide (0 ≤ t208) = true := decide_eq_true c9
        clear c9
        by_cases c10 : t208 ≤ (l0.length : Int)
        · rw [if_pos c10] at H
          have c10b0 := eq_true c10
          have c10b1 : decide (t208 ≤ (l0.length : Int)) = true := decide_eq_true c10
          clear c10
          by_cases c11 : ([] : List Int).length + (l0.take (t208 : Int).toNat).length < 70368744177664
          · rw [if_pos c11] at H
            have LMc11 := Aside0.mk c11
            clear c11
            obtain ⟨y212, hy212⟩ : ∃ y_ : List Int, y_ = (([] : List Int) ++ (l0.take (t208 : Int).toNat)) := ⟨_, rfl⟩
            replace H : (if y212.length + l3.length < 70368744177664 then ((some (y212 ++ l3 : List Int)).bind fun y215 => (if 0 ≤ t209 then (if t209 ≤ (l0.length : Int) then (if y215.length + (l0.drop (t209 : Int).toNat).length < 70368744177664 then (some ((y215 ++ (l0.drop (t209 : Int).toNat)), 0)) else (none)) else (none)) else (none))) else (none)) = some (r1, r2) := by first | (rw [hy212]; with_reducible exact H) | (have H2_ := (Option.bind_some _ _).symm.trans H; rw [hy212]; with_reducible exact H2_) | (have H2_ := (Option.bind_some _ _).symm.trans H; with_reducible exact H2_) | with_reducible exact H | (rw [hy212]; exact H) | exact H
            have Ny212 := Aside0.mk hy212
            clear hy212
            by_cases c12 : y212.length + l3.length < 70368744177664
            · rw [if_pos c12] at H
              have LMc12 := Aside0.mk c12
              clear c12
              obtain ⟨y215, hy215⟩ : ∃ y_ : List Int, y_ = (y212 ++ l3) := ⟨_, rfl⟩
              replace H : (if 0 ≤ t209 then (if t209 ≤ (l0.length : Int) then (if y215.length + (l0.drop (t209 : Int).toNat).length < 70368744177664 then (some ((y215 ++ (l0.drop (t209 : Int).toNat)), 0)) else (none)) else (none)) else (none)) = some (r1, r2) := by first | (rw [hy215]; with_reducible exact H) | (have H2_ := (Option.bind_some _ _).symm.trans H; rw [hy215]; with_reducible exact H2_) | (have H2_ := (Option.bind_some _ _).symm.trans H; with_reducible exact H2_) | with_reducible exact H | (rw [hy215]; exact H) | exact H
              have Ny215 := Aside0.mk hy215
              clear hy215
              by_cases c13 : 0 ≤ t209
              · rw [if_pos c13] at H
                have c13b0 := eq_true c13
                have c13b1 : decide (0 ≤ t209) = true := decide_eq_true c13
                clear c13
                by_cases c14 : t209 ≤ (l0.length : Int)
                · rw [if_pos c14] at H
                  have c14b0 := eq_true c14
                  have c14b1 : decide (t209 ≤ (l0.length : Int)) = true := decide_eq_true c14
                  clear c14
                  by_cases c15 : y215.length + (l0.drop (t209 : Int).toNat).length < 70368744177664
                  · rw [if_pos c15] at H
                    have LMc15 := Aside0.mk c15
                    clear c15
                    obtain ⟨y219, hy219⟩ : ∃ y_ : List Int, y_ = (y215 ++ (l0.drop (t209 : Int).toNat)) := ⟨_, rfl⟩
                    replace H : (some (y219, 0)) = some (r1, r2) := by first | (rw [hy219]; with_reducible exact H) | (have H2_ := (Option.bind_some _ _).symm.trans H; rw [hy219]; with_reducible exact H2_) | (have H2_ := (Option.bind_some _ _).symm.trans H; with_reducible exact H2_) | with_reducible exact H | (rw [hy219]; exact H) | exact H
                    have Ny219 := Aside0.mk hy219
                    clear hy219
                    simp only [Option.some.injEq, Prod.mk.injEq] at H
                    obtain ⟨rfl, rfl⟩ := H
                    go_enter Try.func21, Try.ntmps21
                    go_wp2_with (first | ((with_reducible refine gate_callee (f := 47) rfl ?_); refine goesL_ (some 18) rfl rfl Try.func47 (by kernel_rfl) rfl #[.slice A0 l0.length c0, .int .u32 a1, .int .u32 a2] rfl (by (try simp only [List.map_toArray, List.map_cons, List.map_nil]); first | done | rfl | (simp only [List.length_drop, List.length_take]; rfl)) ?_; (with_reducible refine (units_span.calls _ _ l0 a1 a2 t208 t209 true _ ?side1 ?side2 A5.out).mono ?_); (case side1 => repeat (first | exact HR0.out | (with_reducible refine Kd.C_alloc ?_ _) | (with_reducible refine Kd.C_drewN ?_ _) | (with_reducible refine Kd.C_drew ?_))); (case side2 => exact HC0.out); rintro e w16 ⟨rfl, hb⟩; refine ⟨_, rfl, ?_⟩; have n0_ := Aside0.mk (below_step (by repeat (first | (with_reducible first | exact HB.out | apply below_alloc | apply pw_below_drewN | apply below_drew1) | exact HB.out)) hb); clear HB; have HB := n0_; clear n0_; (try clear hb); (try clear hb2); (try clear hk); (try clear hi); obtain ⟨i017, hi017, _, hsz17, _⟩ := info_parts info43; obtain ⟨hcut17, hA17, hC17⟩ := print_take_of (P := Try.prog) (Value.int .u16) 0 23 43 .i64 Try.underlying23 hi017 hsz17 A0 c0 l0 t208 (of_decide_eq_true (by first | (with_reducible assumption) | assumption)) (of_decide_eq_true (by first | (with_reducible assumption) | assumption)) HC0.out; have HR211 := Aside0.mk (Kd.C_of_reads (h1 := fun _ => rfl) (hA17 _ (Kd.reads_of_C HR0.out))); have HC211 := Aside0.mk hC17; clear hA17 hC17 hi017 hsz17) | ((with_reducible refine gate_builtin (b := .append) (xs := #[.const (.slice none 0 0), .tmp 38]) rfl ?_); at_builtin; refine Kd.R_append_rows (Kd.int .u16) (w0 := w) w.heap.size rfl (.const (.slice none 0 0)) (.tmp 38) 23 43 (.int .u16 0) 2 rfl Try.underlying23 info43 rfl (by decide) (by omega) (.slice none 0 0) ([] : List Int) (l0.take (t208 : Int).toNat) _ _ _ (fun _ => True) (fun _ => False) rfl rfl ?aO ?aR (fun _ _ h => h) (fun _ h => h.elim) ?aF ?aB ?aS ?aL ?_; (case aR => first | (refine (show ∀ {W_ : World} {A_ : Option Addr}, Kd.C (Kd.int .u16) W_ A_ (l0.take (t208 : Int).toNat).length (l0.take (t208 : Int).toNat) → ReadsRow (Kd.K (Kd.int .u16) W_) ((Kd.int .u16)).sz W_ A_ t208.toNat (l0.take (t208 : Int).toNat) from fun h_ => by rw [show (l0.take (t208 : Int).toNat).length = t208.toNat from (by rw [List.length_take]; have h_ : (t208 : Int) ≤ (l0.length : Int) := of_decide_eq_true (by first | (with_reducible assumption) | assumption); omega)] at h_; exact h_) ?_; repeat (first | exact (Kd.C_below HR211.out HB.out) | (with_reducible refine Kd.C_alloc ?_ _) | (with_reducible refine Kd.C_drewN ?_ _) | (with_reducible refine Kd.C_drew ?_))) | (rw [← show (l0.take (t208 : Int).toNat).length = t208.toNat from (by rw [List.length_take]; have h_ : (t208 : Int) ≤ (l0.length : Int) := of_decide_eq_true (by first | (with_reducible assumption) | assumption); omega)]; repeat (first | exact (Kd.C_below HR211.out HB.out) | (with_reducible refine Kd.C_alloc ?_ _) | (with_reducible refine Kd.C_drewN ?_ _) | (with_reducible refine Kd.C_drew ?_))) | (repeat (first | exact (Kd.C_below HR211.out HB.out) | (with_reducible refine Kd.C_alloc ?_ _) | (with_reducible refine Kd.C_drewN ?_ _) | (with_reducible refine Kd.C_drew ?_)))); (case aB => exact (by repeat (first | (with_reducible first | exact HB.out | apply below_alloc | apply pw_below_drewN | apply below_drew1) | exact HB.out))); (case aF => exact (fun _ _ => trivial)); (case aO => exact ((Kd.R_nil _ _ _ _ (fun _ => True)))); (case aS => exact (below_size (by repeat (first | (with_reducible first | exact HB.out | apply below_alloc | apply pw_below_drewN | apply below_drew1) | exact HB.out)))); (case aL => have := LMc11.out; have hlx_ := (show (l0.take (t208 : Int).toNat).length = t208.toNat from (by rw [List.length_take]; have h_ : (t208 : Int) ≤ (l0.length : Int) := of_decide_eq_true (by first | (with_reducible assumption) | assumption); omega)); omega); intro v213 w18 ho hb hg hat; rw [← Ny212.out] at ho; have n0_ := Aside0.mk (hb); have n1_ := Aside0.mk (ho); clear HB; have HB := n0_; have HO214 := n1_; clear n0_ n1_; clear ho hb hg hat) | ((with_reducible refine gate_builtin (b := .append) (xs := #[.tmp 40, .tmp 41]) rfl ?_); at_builtin; refine Kd.R_append_rows (Kd.int .u16) (w0 := w) w.heap.size rfl (.tmp 40) (.tmp 41) 23 43 (.int .u16 0) 2 rfl Try.underlying23 info43 rfl (by decide) (by omega) v213 y212 l3 _ _ _ (fun _ => True) (fun _ => False) rfl rfl ?aO ?aR (fun _ _ h => h) (fun _ h => h.elim) ?aF ?aB ?aS ?aL ?_; (case aR => repeat (first | exact (Kd.C_below HR3.out HB.out) | (with_reducible refine Kd.C_alloc ?_ _) | (with_reducible refine Kd.C_drewN ?_ _) | (with_reducible refine Kd.C_drew ?_))); (case aB => exact (by repeat (first | (with_reducible first | exact HB.out | apply below_alloc | apply pw_below_drewN | apply below_drew1) | exact HB.out))); (case aF => exact (fun _ _ => trivial)); (case aO => exact (by (with_reducible repeat (first | apply Kd.R_alloc | apply Kd.R_drewN | apply Kd.R_drew)); exact HO214.out)); (case aS => exact (below_size (by repeat (first | (with_reducible first | exact HB.out | apply below_alloc | apply pw_below_drewN | apply below_drew1) | exact HB.out)))); (case aL => have := LMc12.out; omega); intro v216 w19 ho hb hg hat; rw [← Ny215.out] at ho; have n0_ := Aside0.mk (hb); have n1_ := Aside0.mk (ho); clear HB; clear HO214; have HB := n0_; have HO217 := n1_; clear n0_ n1_; clear ho hb hg hat; obtain ⟨i020, hi020, _, hsz20, _⟩ := info_parts info43; obtain ⟨A20, hcut20, hA20, hC20⟩ := print_drop_of (P := Try.prog) (Value.int .u16) 0 23 43 .i64 Try.underlying23 hi020 hsz20 A0 c0 l0 t209 (of_decide_eq_true (by first | (with_reducible assumption) | assumption)) (of_decide_eq_true (by first | (with_reducible assumption) | assumption)) HC0.out; have HR218 := Aside0.mk (Kd.C_of_reads (h1 := fun _ => rfl) (hA20 _ (Kd.reads_of_C HR0.out))); have HC218 := Aside0.mk hC20; clear hA20 hC20 hi020 hsz20) | ((with_reducible refine gate_builtin (b := .append) (xs := #[.tmp 43, .tmp 46]) rfl ?_); at_builtin; refine Kd.R_append_rows (Kd.int .u16) (w0 := w) w.heap.size rfl (.tmp 43) (.tmp 46) 23 43 (.int .u16 0) 2 rfl Try.underlying23 info43 rfl (by decide) (by omega) v216 y215 (l0.drop (t209 : Int).toNat) _ _ _ (fun _ => True) (fun _ => False) rfl rfl ?aO ?aR (fun _ _ h => h) (fun _ h => h.elim) ?aF ?aB ?aS ?aL ?_; (case aR => first | (refine (show ∀ {W_ : World} {A_ : Option Addr}, Kd.C (Kd.int .u16) W_ A_ (l0.drop (t209 : Int).toNat).length (l0.drop (t209 : Int).toNat) → ReadsRow (Kd.K (Kd.int .u16) W_) ((Kd.int .u16)).sz W_ A_ (l0.length - t209.toNat) (l0.drop (t209 : Int).toNat) from fun h_ => by rw [show (l0.drop (t209 : Int).toNat).length = (l0.length - t209.toNat) from List.length_drop] at h_; exact h_) ?_; repeat (first | exact (Kd.C_below HR218.out HB.out) | (with_reducible refine Kd.C_alloc ?_ _) | (with_reducible refine Kd.C_drewN ?_ _) | (with_reducible refine Kd.C_drew ?_))) | (rw [← show (l0.drop (t209 : Int).toNat).length = (l0.length - t209.toNat) from List.length_drop]; repeat (first | exact (Kd.C_below HR218.out HB.out) | (with_reducible refine Kd.C_alloc ?_ _) | (with_reducible refine Kd.C_drewN ?_ _) | (with_reducible refine Kd.C_drew ?_))) | (repeat (first | exact (Kd.C_below HR218.out HB.out) | (with_reducible refine Kd.C_alloc ?_ _) | (with_reducible refine Kd.C_drewN ?_ _) | (with_reducible refine Kd.C_drew ?_)))); (case aB => exact (by repeat (first | (with_reducible first | exact HB.out | apply below_alloc | apply pw_below_drewN | apply below_drew1) | exact HB.out))); (case aF => exact (fun _ _ => trivial)); (case aO => exact (by (with_reducible repeat (first | apply Kd.R_alloc | apply Kd.R_drewN | apply Kd.R_drew)); exact HO217.out)); (case aS => exact (below_size (by repeat (first | (with_reducible first | exact HB.out | apply below_alloc | apply pw_below_drewN | apply below_drew1) | exact HB.out)))); (case aL => have := LMc15.out; have hlx_ := (show (l0.drop (t209 : Int).toNat).length = (l0.length - t209.toNat) from List.length_drop); omega); intro v220 w21 ho hb hg hat; rw [← Ny219.out] at ho; have n0_ := Aside0.mk (hb); have n1_ := Aside0.mk (ho); clear HB; clear HO217; have HB := n0_; have HO221 := n1_; clear n0_ n1_; clear ho hb hg hat))
                    go_ret2
                    exact ⟨_, by first | rfl | (simp [errW_none, errW_some] <;> rfl) | (simp [*, errW_none, errW_some] <;> rfl), by (with_reducible repeat (first | apply Kd.R_alloc | apply Kd.R_drewN | apply Kd.R_drew)); exact HO221.out, by repeat (first | (with_reducible first | exact HB.out | apply below_alloc | apply pw_below_drewN | apply below_drew1) | exact HB.out)⟩
                  · rw [if_neg c15] at H
                    exact absurd H (by simp)
                · rw [if_neg c14] at H
                  exact absurd H (by simp)
              · rw [if_neg c13] at H
                exact absurd H (by simp)
            · rw [if_neg c12] at H
              exact absurd H (by simp)
          · rw [if_neg c11] at H
            exact absurd H (by simp)
        · rw [if_neg c10] at H
          exact absurd H (by simp)
      · rw [if_neg c9] at H
        exact absurd H (by simp)
  · replace c6 := Bool.eq_false_iff.mpr c6
    subst c6
    have H1 : (some (([] : List Int), 14)) = some (r1, r2) := by rw [if_neg (show ¬ (false = true) by decide)] at H; exact H
    clear H
    have H := H1
    clear H1
    simp only [Option.some.injEq, Prod.mk.injEq] at H
    obtain ⟨rfl, rfl⟩ := H
    go_enter Try.func21, Try.ntmps21
    go_wp2_with (first | ((with_reducible refine gate_callee (f := 47) rfl ?_); refine goesL_ (some 18) rfl rfl Try.func47 (by kernel_rfl) rfl #[.slice A0 l0.length c0, .int .u32 a1, .int .u32 a2] rfl (by (try simp only [List.map_toArray, List.map_cons, List.map_nil]); first | done | rfl | (simp only [List.length_drop, List.length_take]; rfl)) ?_; (with_reducible refine (units_span.calls _ _ l0 a1 a2 t208 t209 false _ ?side1 ?side2 A5.out).mono ?_); (case side1 => repeat (first | exact HR0.out | (with_reducible refine Kd.C_alloc ?_ _) | (with_reducible refine Kd.C_drewN ?_ _) | (with_reducible refine Kd.C_drew ?_))); (case side2 => exact HC0.out); rintro e w22 ⟨rfl, hb⟩; refine ⟨_, rfl, ?_⟩; have n0_ := Aside0.mk (below_step (by repeat (first | (with_reducible first | exact HB.out | apply below_alloc | apply pw_below_drewN | apply below_drew1) | exact HB.out)) hb); clear HB; have HB := n0_; clear n0_; (try clear hb); (try clear hb2); (try clear hk); (try clear hi)))
    go_ret2
    exact ⟨_, by first | rfl | (simp [errW_none, errW_some] <;> rfl) | (simp [*, errW_none, errW_some] <;> rfl), by first | exact Kd.R_nil _ _ _ _ _ | exact Kd.N_nil _ _ _ _ _ | exact Kd.V_nil _ _ _ _ _ | exact Kd.Q_nil _ _ _ _ _ | exact Kd.S_nil _ _ _ _ _, by repeat (first | (with_reducible first | exact HB.out | apply below_alloc | apply pw_below_drewN | apply below_drew1) | exact HB.out)⟩

end Go.Proofs.Ytgjifcflkcpnlaa.P
