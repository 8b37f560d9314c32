/- Contracts: tree.Upward, tree.Root, tree.Holds, bounds.within. -/
import Derived.Test.YtjjdabihnmilgaaGreatXRTGrpAQ
import Derived.Test.YtjjdabihnmilgaaGreatXRTGrpAH
import Derived.Test.YtjjdabihnmilgaaGreatXRTGrpAK
import Derived.Test.YtjjdabihnmilgaaGreatXRTGrpAI
namespace Go.Proofs.YtjjdabihnmilgaaGreat.A
open Go.RowKit
set_option linter.unusedVariables false
set_option linter.unusedSimpArgs false
set_option maxRecDepth 100000
set_option maxHeartbeats 4000000
def gets : List (Nat × AV) → List (Nat × AV) → Prop
  | [], _ => True
  | (t, v) :: r, e => get e t = some v ∧ gets r e
theorem gets.get : ∀ {e0 e : List (Nat × AV)}, gets e0 e → ∀ t v, A.get e0 t = some v → A.get e t = some v
  | [], _, _, _, _, h => by cases h
  | (d, u) :: r, e, hs, t, v, h => by
    simp only [A.get] at h
    split at h
    · rename_i hd
      obtain rfl := Nat.eq_of_beq_eq_true hd
      obtain rfl := Option.some.inj h
      exact hs.1
    · exact hs.2.get t v h
theorem upward_c (f : List Node) (h : Int) : GenC Tryz.prog 110 [] [fav f, iav h] (.fn 171 [.ptr 1 1 0 0, .ptr 0 1 0 0]) [⟨24, 1, [[.imm (.sl (f.map Node.iv))]]⟩, ⟨3, 1, [[iav h]]⟩] := by
  refine GenC.mk tabs Tryz.func110 6 [.tmp 4] rfl rfl rfl rfl rfl ?_; intro w0 X γ κ
  (repeat' (first | ((with_reducible show AL _ _ _ _ _); first | (refine AL.step tabs rfl ?_; try dsimp only [len, List.nil_append, List.cons_append]) | refine AL.nil ?_) | refine AW.seq ?_ | refine AW.region ?_ | refine Then.norm ?_ | refine AW.skip ?_ | refine AW.ret ?_ | refine Then.ret ?_))
  exact RG.ret 2 rfl rfl rfl rfl rfl (by simp [cxG])
theorem root_c (f : List Node) (h : Int) (hf : Fit f) (hr : rightP f) : PureC Tryz.prog 63 [fav f, iav h] (iav (rootP f h)) := by
  have hl := hf.len
  obtain ⟨m, hm⟩ := up_ex hr h
  have cU := upward_c f h
  have hxs := ups_eq hm
  unfold rootP
  rw [hxs]
  refine PureC.mkM tabs Tryz.func63 14 [.tmp 4] rfl rfl rfl rfl rfl ?_; intro w0 X
  (repeat' (first | ((with_reducible show AL _ _ _ _ _); first | (refine AL.step tabs rfl ?_; try dsimp only [len, List.nil_append, List.cons_append]) | refine AL.callG [] 2 rfl rfl rfl rfl rfl (caps := []) rfl cU rfl rfl rfl rfl rfl rfl rfl rfl (hpA := [⟨24, 1, [[.imm (.sl (f.map Node.iv))]]⟩, ⟨3, 1, [[iav h]]⟩]) rfl (r' := .fn 171 [.ptr 3 1 0 0, .ptr 2 1 0 0]) rfl rfl ?_ | refine AL.nil ?_) | refine AWM.seq ?_ | (refine AWM.region rfl (by first | exact fun _ h => h | exact fun _ h => h.2) ?_; intro w0' may') | refine Then.norm ?_ | refine AWM.skip ?_ | refine AWM.block ?_ | refine InB.norm ?_ | refine AWM.ret ?_ | refine AWM.exit ?_ | refine Then.ret ?_ | refine Then.exit ?_ | refine InB.ret ?_ | refine InB.here ?_ | refine InB.off rfl ?_))
  refine AWM.rangeFuncP [(5, .ptr 1 1 0 0)] (fun pre => [⟨24, 1, [[.imm (.sl (f.map Node.iv))]]⟩, ⟨3, 1, [[iav (pre.getLastD h)]]⟩]) (fun _ => []) [⟨24, 1, [[.imm (.sl (f.map Node.iv))]]⟩, ⟨3, 1, [[iav h]]⟩] (upL f m h) (fun _ => True) (fun _ => False) rfl [24, 3] (iterUp hl _ m h hm) (by intro pre b hb; simp only [List.mem_cons, List.not_mem_nil, or_false] at hb; rcases hb with rfl | rfl <;> simp) ?_ rfl rfl rfl (by simp [cxG]) (fun _ => rfl) (fun _ => rfl) rfl rfl rfl (Nat.le_of_ble_eq_true rfl) (Nat.le_of_ble_eq_true rfl) trivial ?_ ?_ (fun _ _ h => h.elim)
  · exact gets.get ⟨rfl, trivial⟩
  · intro pre x hlt _ l w0 X γ κ
    rw [List.getLastD_concat]
    (repeat' (first | ((with_reducible show AL _ _ _ _ _); first | (refine AL.step tabs rfl ?_; try dsimp only [len, List.nil_append, List.cons_append]) | refine AL.nil ?_) | refine AWM.seq ?_ | (refine AWM.region rfl (by first | exact fun _ h => h | exact fun _ h => h.2) ?_; intro w0' may') | refine Then.norm ?_ | refine AWM.skip ?_ | refine AWM.block ?_ | refine InB.norm ?_ | refine AWM.ret ?_ | refine AWM.exit ?_ | refine Then.ret ?_ | refine Then.exit ?_ | refine InB.ret ?_ | refine InB.here ?_ | refine InB.off rfl ?_))
    exact RX.norm 2 trivial rfl rfl (by simp [cxG])
  · intro _
    (repeat' (first | ((with_reducible show AL _ _ _ _ _); first | (refine AL.step tabs rfl ?_; try dsimp only [len, List.nil_append, List.cons_append]) | refine AL.nil ?_) | refine AWM.seq ?_ | (refine AWM.region rfl (by first | exact fun _ h => h | exact fun _ h => h.2) ?_; intro w0' may') | refine Then.norm ?_ | refine AWM.skip ?_ | refine AWM.block ?_ | refine InB.norm ?_ | refine AWM.ret ?_ | refine AWM.exit ?_ | refine Then.ret ?_ | refine Then.exit ?_ | refine InB.ret ?_ | refine InB.here ?_ | refine InB.off rfl ?_))
    exact ⟨rfl, RQ.fin rfl rfl rfl⟩
theorem pre_mem {α : Type} {pre xs : List α} (h : pre <+: xs) {x : α} (hx : x ∈ pre) : x ∈ xs := h.sublist.subset hx
theorem holds_c (f : List Node) (a b : Int) (hf : Fit f) (hr : rightP f) : PureC Tryz.prog 96 [fav f, iav a, iav b] (bav (dec (a ∈ ups f b))) := by
  have hl := hf.len
  obtain ⟨m, hm⟩ := up_ex hr b
  have cU := upward_c f b
  have hxs := ups_eq hm
  rw [hxs]
  refine PureC.mkM tabs Tryz.func96 15 [.cell 6 4] rfl rfl rfl rfl rfl ?_; intro w0 X
  (repeat' (first | ((with_reducible show AL _ _ _ _ _); first | (refine AL.step tabs rfl ?_; try dsimp only [len, List.nil_append, List.cons_append]) | refine AL.callG [] 3 rfl rfl rfl rfl rfl (caps := []) rfl cU rfl rfl rfl rfl rfl rfl rfl rfl (hpA := [⟨24, 1, [[.imm (.sl (f.map Node.iv))]]⟩, ⟨3, 1, [[iav b]]⟩]) rfl (r' := .fn 171 [.ptr 4 1 0 0, .ptr 3 1 0 0]) rfl rfl ?_ | refine AL.nil ?_) | refine AWM.seq ?_ | (refine AWM.region rfl (by first | exact fun _ h => h | exact fun _ h => h.2) ?_; intro w0' may') | refine Then.norm ?_ | refine AWM.skip ?_ | refine AWM.block ?_ | refine InB.norm ?_ | refine AWM.condT rfl ?_ | refine AWM.condF rfl ?_ | (refine AWM.cond rfl (fun hc => ?_) (fun hc => ?_) <;> (try simp only [hsx] at hc) <;> (try first | (exfalso; omega) | contradiction | (exfalso; simp [dec_eq] at hc; done))) | refine AWM.ret ?_ | refine AWM.exit ?_ | refine Then.ret ?_ | refine Then.exit ?_ | refine InB.ret ?_ | refine InB.here ?_ | refine InB.off rfl ?_))
  refine AWM.rangeFuncP [(4, .ptr 1 1 0 0), (6, .ptr 2 1 0 0)] (fun pre => [⟨24, 1, [[.imm (.sl (f.map Node.iv))]]⟩, ⟨3, 1, [[iav a]]⟩, ⟨4, 1, [[bav false]]⟩]) (fun pre => [⟨24, 1, [[.imm (.sl (f.map Node.iv))]]⟩, ⟨3, 1, [[iav a]]⟩, ⟨4, 1, [[bav true]]⟩]) [⟨24, 1, [[.imm (.sl (f.map Node.iv))]]⟩, ⟨3, 1, [[iav b]]⟩] (upL f m b) (fun pre => a ∉ pre) (fun pre => a ∈ pre) rfl [24, 3, 4] (iterUp hl _ m b hm) (by intro pre b hb; simp only [List.mem_cons, List.not_mem_nil, or_false] at hb; rcases hb with rfl | rfl | rfl <;> simp) (gets.get ⟨rfl, rfl, trivial⟩) rfl rfl rfl (by simp [cxG]) (fun _ => rfl) (fun _ => rfl) rfl rfl rfl (Nat.le_of_ble_eq_true rfl) (Nat.le_of_ble_eq_true rfl) (by simp) ?_ ?_ ?_
  · intro pre x hlt hgo l w0 X γ κ
    (repeat' (first | ((with_reducible show AL _ _ _ _ _); first | (refine AL.step tabs rfl ?_; try dsimp only [len, List.nil_append, List.cons_append]) | refine AL.nil ?_) | refine AWM.seq ?_ | (refine AWM.region rfl (by first | exact fun _ h => h | exact fun _ h => h.2) ?_; intro w0' may') | refine Then.norm ?_ | refine AWM.skip ?_ | refine AWM.block ?_ | refine InB.norm ?_ | refine AWM.condT rfl ?_ | refine AWM.condF rfl ?_ | (refine AWM.cond rfl (fun hc => ?_) (fun hc => ?_) <;> (try simp only [hsx] at hc) <;> (try first | (exfalso; omega) | contradiction | (exfalso; simp [dec_eq] at hc; done))) | refine AWM.ret ?_ | refine AWM.exit ?_ | refine Then.ret ?_ | refine Then.exit ?_ | refine InB.ret ?_ | refine InB.here ?_ | refine InB.off rfl ?_))
    · exact RX.ret 3 (by simp [hc]) rfl rfl (by simp [cxG])
    · exact RX.norm 3 (by simp [hgo]; omega) rfl rfl (by simp [cxG])
  · intro hno
    have e : dec (a ∈ upL f m b) = false := by rw [dec_false]; exact hno
    rw [e]
    (repeat' (first | ((with_reducible show AL _ _ _ _ _); first | (refine AL.step tabs rfl ?_; try dsimp only [len, List.nil_append, List.cons_append]) | refine AL.nil ?_) | refine AWM.seq ?_ | (refine AWM.region rfl (by first | exact fun _ h => h | exact fun _ h => h.2) ?_; intro w0' may') | refine Then.norm ?_ | refine AWM.skip ?_ | refine AWM.block ?_ | refine InB.norm ?_ | refine AWM.condT rfl ?_ | refine AWM.condF rfl ?_ | (refine AWM.cond rfl (fun hc => ?_) (fun hc => ?_) <;> (try simp only [hsx] at hc) <;> (try first | (exfalso; omega) | contradiction | (exfalso; simp [dec_eq] at hc; done))) | refine AWM.ret ?_ | refine AWM.exit ?_ | refine Then.ret ?_ | refine Then.exit ?_ | refine InB.ret ?_ | refine InB.here ?_ | refine InB.off rfl ?_))
    exact ⟨rfl, RQ.fin rfl rfl rfl⟩
  · intro pre hpre hin
    have e : dec (a ∈ upL f m b) = true := by rw [dec_true]; exact pre_mem hpre hin
    rw [e]
    trace_state
    exact ⟨rfl, RQ.fin rfl rfl rfl⟩
theorem below1_out {h : Int} : ∀ (l : List Int) (b : Int), h ∉ l → below1 l h b = 0
  | [], _, _ => rfl
  | x :: l, b, hn => by
    unfold below1
    rw [if_neg (fun e => hn (by simp [e])), below1_out l x (fun h => hn (by simp [h]))]
theorem below1_at {h : Int} : ∀ (p r : List Int) (b : Int), h ∉ p → below1 (p ++ h :: r) h b = p.getLastD b
  | [], _, _, _ => by rw [List.nil_append, below1, if_pos rfl]; rfl
  | x :: p, r, b, hn => by
    rw [List.cons_append, below1, if_neg (fun e => hn (by simp [e])), below1_at p r x (fun h => hn (by simp [h]))]
    cases p <;> rfl
theorem bwithin_c (f : List Node) (h i : Int) (hf : Fit f) (hr : rightP f) : PureC Tryz.prog 170 [fav f, iav h, iav i] (iav (belowP f h i)) := by
  have hl := hf.len
  obtain ⟨m, hm⟩ := up_ex hr i
  have cU := upward_c f i
  unfold belowP
  rw [ups_eq hm]
  refine PureC.mkM tabs Tryz.func170 18 [.cell 6 3] rfl rfl rfl rfl rfl ?_; intro w0 X
  (repeat' (first | ((with_reducible show AL _ _ _ _ _); first | (refine AL.step tabs rfl ?_; try dsimp only [len, List.nil_append, List.cons_append]) | refine AL.callG [] 4 rfl rfl rfl rfl rfl (caps := []) rfl cU rfl rfl rfl rfl rfl rfl rfl rfl (hpA := [⟨24, 1, [[.imm (.sl (f.map Node.iv))]]⟩, ⟨3, 1, [[iav i]]⟩]) rfl (r' := .fn 171 [.ptr 5 1 0 0, .ptr 4 1 0 0]) rfl rfl ?_ | refine AL.nil ?_) | refine AWM.seq ?_ | (refine AWM.region rfl (by first | exact fun _ h => h | exact fun _ h => h.2) ?_; intro w0' may') | refine Then.norm ?_ | refine AWM.skip ?_ | refine AWM.block ?_ | refine InB.norm ?_ | refine AWM.condT rfl ?_ | refine AWM.condF rfl ?_ | (refine AWM.cond rfl (fun hc => ?_) (fun hc => ?_) <;> (try simp only [hsx] at hc) <;> (try first | (exfalso; omega) | contradiction | (exfalso; simp [dec_eq] at hc; done))) | refine AWM.ret ?_ | refine AWM.exit ?_ | refine Then.ret ?_ | refine Then.exit ?_ | refine InB.ret ?_ | refine InB.here ?_ | refine InB.off rfl ?_))
  refine AWM.rangeFuncP [(4, .ptr 1 1 0 0), (6, .ptr 2 1 0 0), (7, .ptr 3 1 0 0)] (fun pre => [⟨24, 1, [[.imm (.sl (f.map Node.iv))]]⟩, ⟨3, 1, [[iav h]]⟩, ⟨3, 1, [[iav 0]]⟩, ⟨3, 1, [[iav (pre.getLastD 0)]]⟩]) (fun pre => [⟨24, 1, [[.imm (.sl (f.map Node.iv))]]⟩, ⟨3, 1, [[iav h]]⟩, ⟨3, 1, [[iav (pre.dropLast.getLastD 0)]]⟩, ⟨3, 1, [[iav (pre.dropLast.getLastD 0)]]⟩]) [⟨24, 1, [[.imm (.sl (f.map Node.iv))]]⟩, ⟨3, 1, [[iav i]]⟩] (upL f m i) (fun pre => h ∉ pre) (fun pre => ∃ p, pre = p ++ [h] ∧ h ∉ p) rfl [24, 3] (iterUp hl _ m i hm) (by intro pre b hb; simp only [List.mem_cons, List.not_mem_nil, or_false] at hb; rcases hb with rfl | rfl | rfl | rfl <;> simp) (gets.get ⟨rfl, rfl, rfl, trivial⟩) rfl rfl rfl (by simp [cxG]) (fun _ => rfl) (fun _ => rfl) rfl rfl rfl (Nat.le_of_ble_eq_true rfl) (Nat.le_of_ble_eq_true rfl) (by simp) ?_ ?_ ?_
  · intro pre x hlt hgo l w0 X γ κ
    rw [List.getLastD_concat, List.dropLast_concat]
    (repeat' (first | ((with_reducible show AL _ _ _ _ _); first | (refine AL.step tabs rfl ?_; try dsimp only [len, List.nil_append, List.cons_append]) | refine AL.nil ?_) | refine AWM.seq ?_ | (refine AWM.region rfl (by first | exact fun _ h => h | exact fun _ h => h.2) ?_; intro w0' may') | refine Then.norm ?_ | refine AWM.skip ?_ | refine AWM.block ?_ | refine InB.norm ?_ | refine AWM.condT rfl ?_ | refine AWM.condF rfl ?_ | (refine AWM.cond rfl (fun hc => ?_) (fun hc => ?_) <;> (try simp only [hsx] at hc) <;> (try first | (exfalso; omega) | contradiction | (exfalso; simp [dec_eq] at hc; done))) | refine AWM.ret ?_ | refine AWM.exit ?_ | refine Then.ret ?_ | refine Then.exit ?_ | refine InB.ret ?_ | refine InB.here ?_ | refine InB.off rfl ?_))
    · exact RX.ret 4 ⟨pre, by rw [hc], hgo⟩ rfl rfl (by simp [cxG])
    · exact RX.norm 4 (by simp [hgo]; omega) rfl rfl (by simp [cxG])
  · intro hno
    rw [below1_out _ _ hno]
    (repeat' (first | ((with_reducible show AL _ _ _ _ _); first | (refine AL.step tabs rfl ?_; try dsimp only [len, List.nil_append, List.cons_append]) | refine AL.nil ?_) | refine AWM.seq ?_ | (refine AWM.region rfl (by first | exact fun _ h => h | exact fun _ h => h.2) ?_; intro w0' may') | refine Then.norm ?_ | refine AWM.skip ?_ | refine AWM.block ?_ | refine InB.norm ?_ | refine AWM.condT rfl ?_ | refine AWM.condF rfl ?_ | (refine AWM.cond rfl (fun hc => ?_) (fun hc => ?_) <;> (try simp only [hsx] at hc) <;> (try first | (exfalso; omega) | contradiction | (exfalso; simp [dec_eq] at hc; done))) | refine AWM.ret ?_ | refine AWM.exit ?_ | refine Then.ret ?_ | refine Then.exit ?_ | refine InB.ret ?_ | refine InB.here ?_ | refine InB.off rfl ?_))
    exact ⟨rfl, RQ.fin rfl rfl rfl⟩
  · rintro pre ⟨r, hpre⟩ ⟨p, rfl, hn⟩
    have e : below1 (upL f m i) h 0 = p.getLastD 0 := by
      rw [← hpre, List.append_assoc]
      exact below1_at p r 0 hn
    rw [e, List.dropLast_concat]
    exact ⟨rfl, RQ.fin rfl rfl rfl⟩
end Go.Proofs.YtjjdabihnmilgaaGreat.A
namespace Go.Proofs.YtjjdabihnmilgaaGreat.A
open Go.RowKit
set_option linter.unusedVariables false
set_option linter.unusedSimpArgs false
def AW0 (C : Cx) (c : Code) (Q : Exit → St → Prop) (s : St) : Prop := ∀ n γ κ a W, Conc C s γ κ a W → c.wpIn (fro none) n C.P (CM C Q) a W
section
variable {C : Cx} {Q : Exit → St → Prop} {s : St}
theorem clr_same {a : Act} (h : a.defers = []) : clr a = a := by cases a; simp only at h; subst h; rfl
theorem AW0.ofM {c : Code} (h : AWM none C c Q s) : AW0 C c Q s := fun n γ κ a W hC => h n γ κ a W [] (by rw [clr_same hC.defers]; exact hC) hC.defers ⟨List.nodup_nil, by simp⟩
theorem AW0.seqA {x y : Code} (h : AW C x (Then (AW0 C y Q) Q) s) : AW0 C (.seq x y) Q s := by
  intro n γ κ a W hC
  refine wpIn_seq (wpIn_mono (wpIn_wide.2 (h γ κ a W hC)) ?_)
  rintro e a' W' ⟨s', γ', κ', h1, h2⟩
  cases e with
  | normal => exact h2 n γ' κ' a' W' h1
  | _ => exact ⟨s', γ', κ', [], by rw [clr_same h1.defers]; exact h1, h1.defers, ⟨by simp, by simp⟩, h2⟩
theorem AW0.seqM {x y : Code} (h : AW0 C x (Then (AWM none C y Q) Q) s) : AW0 C (.seq x y) Q s := by
  intro n γ κ a W hC
  refine wpIn_seq (wpIn_mono (h n γ κ a W hC) fun e a W ⟨s, γ, κ, Ds, h1, h2, h3, h4⟩ => ?_)
  cases e with
  | normal => exact h4 n γ κ a W Ds h1 h2 h3
  | _ => exact ⟨s, γ, κ, Ds, h1, h2, h3, h4⟩
end
theorem PureC.mk0 {P : Program} {f : FuncId} {fn : Func} {c : Code} {args : List AV} {r : AV} {T : List (Nat × TI)} (hT : TsOK P T) (hf : P.funcs[f]? = some fn) (nt : Nat) (rs : List ResultVar) (hb : fn.body = some c) (hn : (fn.name == "runtime.NumGoroutine") = false) (hnt : fn.ntmps = nt) (hrs : fn.results.toList = rs) (hlen : Nat.ble (len args) nt = true)
    (h : ∀ w0 X, AW0 ⟨P, X, [], fun _ => none, fun _ => 0, fun _ => False, w0, nt⟩ c (RQM ⟨P, X, [], fun _ => none, fun _ => 0, fun _ => False, w0, nt⟩ T rs r) ⟨params 0 args, []⟩) : PureC P f args r := by
  subst hnt hrs
  have hlen := Nat.le_of_ble_eq_true hlen
  rw [len_eq] at hlen
  refine ⟨fun asx w => ?_, fun W X xs hX hargs => ?_⟩
  · unfold callFunc
    have hp : (program).run P w = .ok P w := rfl
    rw [run_bind hp, hf]
    simp only [hn, hb]
    rfl
  · refine (callsIn_wide (n := 2)).1 (callsIn_of_wp_marks hf hb trivial ?_)
    have hl := hargs.length
    have hC : Conc ⟨P, X, [], fun _ => none, fun _ => 0, fun _ => False, W, fn.ntmps⟩ ⟨params 0 args, []⟩ (fun _ => none) (fun _ => 0) { tmps := xs.toArray ++ Array.replicate (fn.ntmps - xs.toArray.size) undef, defers := [] } W := by
      refine ⟨?_, rfl, ?_, by intro id b h; simp at h, by intro i j g hi; simp at hi, by intro i g hi; simp at hi, hX, fun _ _ _ => rfl, rfl, rfl, rfl, Nat.le_refl _, by intro i g h; simp at h⟩
      · simp; omega
      · intro t v hv
        obtain ⟨_, h2⟩ := params_get args 0 t v hv
        simp only [Nat.sub_zero] at h2
        obtain ⟨x, h3, h4⟩ := hargs.get h2
        refine ⟨x, ?_, RepA.keep (show Keep (M0 W X) (St.mm ⟨params 0 args, []⟩ ⟨P, X, [], fun _ => none, fun _ => 0, fun _ => False, W, fn.ntmps⟩ (fun _ => none) (fun _ => 0) W) from ⟨fun b hb _ => ⟨rfl, ?_⟩, fun id b hb => by cases hb⟩) h4⟩
        · simp only
          rw [Array.getElem?_append_left (by simpa using (List.getElem?_eq_some_iff.1 h3).1)]
          simpa using h3
        · rintro (h | ⟨i, hi, _⟩)
          · exact hb h
          · exact absurd hi (Nat.not_lt_zero _)
    refine wpIn_mono (h W X 2 _ _ { tmps := xs.toArray ++ Array.replicate (fn.ntmps - xs.toArray.size) undef, defers := [] } W hC) ?_
    rintro e a' W' ⟨s', γ', κ', Ds, hC0, hds, hmk, hnm, hQ⟩
    obtain ⟨k1, k2, k3, k4, k5, k6⟩ := taken_facts Ds W' W.heap.size (fun D hD => ⟨(hmk.mem D hD).1, _, (hmk.mem D hD).2, rfl⟩)
    have hC' := hC0.turn hnm k1 k2 k3 k4 k5 k6
    have fin : ∀ qs, ares T s' fn.results.toList = some qs → Fz ⟨P, X, [], fun _ => none, fun _ => 0, fun _ => False, W, fn.ntmps⟩ s' (pack qs) r → LeavesInM Fence.wide 2 P fn a'.tmps (fun e W' => ∃ x, e = .returned x ∧ Below W.heap.size W W' ∧ RepA (M0 W' X) r x) a'.defers .returning W' := by
      intro qs h1 h2
      obtain ⟨ys, h3, h4⟩ := results_run hT hC' h1
      rw [hds]
      refine leaves_marks Ds W' hmk.nodup (fun D hD => (hmk.mem D hD).2) ⟨pack' ys, ?_, _, rfl, ⟨hC'.hos, hC'.htape, hC'.hout, hC'.hsize, fun k hk => hC'.old k hk (fun h => h)⟩, h2 _ _ _ _ _ hC' ?_⟩
      · unfold results
        rw [Array.mapM_eq_mapM_toList]
        have h3' := run_bind (P := P) (f := fun vs : List Value => (pure vs.toArray : Sem (Array Value))) h3
        have h5 : ((List.toArray <$> fn.results.toList.mapM (m := Sem) fun | .tmp t => pure (a'.tmps.getD t undef) | .cell b t => do loadVar t (← asAddr (a'.tmps.getD b undef))) : Sem (Array Value)).run P (taken W' Ds) = .ok ys.toArray (taken W' Ds) := by
          rw [map_eq_pure_bind]
          exact h3'
        refine (run_bind h5).trans ?_
        rcases ys with _ | ⟨y, _ | ⟨y2, ys⟩⟩
        · rfl
        · rfl
        · rw [dif_neg (by simp)]
          rfl
      · exact pack_rep h4
    cases e with
    | ret => obtain ⟨qs, h1, h2⟩ := hQ; exact fin qs h1 h2
    | normal => obtain ⟨qs, h1, h2⟩ := hQ; exact fin qs h1 h2
    | _ => exact hQ.elim
end Go.Proofs.YtjjdabihnmilgaaGreat.A
namespace Go.Proofs.YtjjdabihnmilgaaGreat.A
open Go.RowKit
set_option linter.unusedVariables false
set_option linter.unusedSimpArgs false
set_option maxRecDepth 100000
set_option maxHeartbeats 4000000
theorem twithin_c (f : List Node) (h : Int) : GenC Tryz.prog 126 [⟨24, 1, []⟩, ⟨3, 1, []⟩] [fav f, iav h] (.fn 174 [.ptr 0 1 0 0, .ptr 1 1 0 0]) [⟨24, 1, [[.imm (.sl (f.map Node.iv))]]⟩, ⟨3, 1, [[iav h]]⟩] := by
  refine GenC.mk tabs Tryz.func126 6 [.tmp 4] rfl rfl rfl rfl rfl ?_; intro w0 X γ κ
  (repeat' (first | ((with_reducible show AL _ _ _ _ _); first | refine AL.ope rfl (OpOK.boxAt 0 (t := 24) rfl rfl rfl rfl rfl rfl) rfl ?_ | refine AL.ope rfl (OpOK.boxAt 1 (t := 3) rfl rfl rfl rfl rfl rfl) rfl ?_ | (refine AL.step tabs rfl ?_; try dsimp only [len, List.nil_append, List.cons_append]) | refine AL.nil ?_) | refine AW.seq ?_ | refine AW.region ?_ | refine Then.norm ?_ | refine AW.skip ?_ | refine AW.ret ?_ | refine Then.ret ?_))
  all_goals first
    | exact RG.ret 2 rfl rfl rfl rfl rfl (by simp [cxG])
    | (trace_state; sorry)
theorem beh1_out {a b : Int} : ∀ l : List Int, a ∉ l → b ∉ l → beh1 l a b = false
  | [], _, _ => rfl
  | x :: l, ha, hb => by
    unfold beh1
    rw [if_neg (fun e => ha (by simp [e])), if_neg (fun e => hb (by simp [e])), beh1_out l (fun h => ha (by simp [h])) (fun h => hb (by simp [h]))]
theorem beh1_app {a b x : Int} (hx : x = a ∨ x = b) (r : List Int) : ∀ p : List Int, a ∉ p → b ∉ p → beh1 (p ++ x :: r) a b = if x = a then false else true
  | [], _, _ => by
    rw [List.nil_append, beh1]
    by_cases h : x = a
    · rw [if_pos h, if_pos h]
    · rw [if_neg h, if_neg h, if_pos (hx.resolve_left h)]
  | y :: p, ha, hb => by
    rw [List.cons_append, beh1, if_neg (fun e => ha (by simp [e])), if_neg (fun e => hb (by simp [e])), beh1_app hx r p (fun h => ha (by simp [h])) (fun h => hb (by simp [h]))]
def behStop (a b : Int) (pre : List Int) : Prop := ∃ p x, pre = p ++ [x] ∧ a ∉ p ∧ b ∉ p ∧ (x = a ∨ x = b)
theorem behind_c (f : List Node) (a b : Int) (hf : Fit f) (hr : rightP f) : PureC Tryz.prog 169 [fav f, iav a, iav b] (bav (behP f a b)) := by
  have hl := hf.len
  have hkl : ∀ h, (nodeAt f h).kids.length ≤ 1000000000 := fun h => (hf.at h).kids
  have cR := root_c f a hf hr
  have cW := twithin_c f (rootP f a)
  obtain ⟨m, hm⟩ := hgt_ex hr (rootP f a)
  unfold behP
  rw [wth_eq hm]
  obtain ⟨q, hq⟩ : ∃ q, q = rootP f a := ⟨_, rfl⟩
  rw [← hq] at cR cW hm ⊢
  refine PureC.mk0 tabs Tryz.func169 21 [.cell 6 4] rfl rfl rfl rfl rfl ?_; intro w0 X
  refine AW0.seqA ?_
  (repeat' (first | ((with_reducible show AL _ _ _ _ _); first | refine AL.pin 0 (env1 := [(3, .pin [.sl (f.map Node.iv)]), (1, iav a), (2, iav b)]) (h1 := []) [.sl (f.map Node.iv)] rfl rfl ⟨⟨_, rfl, rfl⟩, ⟨_, rfl, rfl⟩, ⟨_, rfl, rfl⟩, trivial⟩ rfl rfl rfl (Nat.zero_le _) ?_ | (refine AL.step tabs rfl ?_; try dsimp only [len, List.nil_append, List.cons_append]) | refine AL.nil ?_) | ((with_reducible show DQ _ _ _ _ _ _); first | refine DQ.stepc (LS.val tabs rfl rfl rfl) rfl rfl rfl rfl rfl ?_ | refine DQ.stepc (LS.skip rfl rfl) rfl rfl rfl rfl rfl ?_ | refine DQ.nilM (by kernel_rfl) ?_) | refine AW.seq ?_ | refine AW.region ?_ | refine Then.norm ?_ | refine AW.skip ?_ | refine AW.block ?_ | refine InB.norm ?_ | refine AW.condT rfl ?_ | refine AW.condF rfl ?_ | (refine AW.cond rfl (fun hc => ?_) (fun hc => ?_) <;> (try simp only [hsx] at hc) <;> (try first | (exfalso; omega) | contradiction | (exfalso; simp [dec_eq] at hc; done))) | refine AW.ret ?_ | refine AW.exit ?_ | refine Then.ret ?_ | refine Then.exit ?_ | refine InB.ret ?_ | refine InB.here ?_ | refine InB.off rfl ?_ | refine AW.drawW mixed (by kernel_rfl) ?_))
  show AW0 _ _ _ _
  refine AW0.seqM (AW0.seqA ?_)
  refine AW.reserve 24 1 rfl ?_
  refine AW.reserve 3 1 rfl ?_
  (repeat' (first | ((with_reducible show AL _ _ _ _ _); first | (refine AL.step tabs rfl ?_; try dsimp only [len, List.nil_append, List.cons_append]) | refine AL.nil ?_) | ((with_reducible show DQ _ _ _ _ _ _); first | refine DQ.stepc (LS.call rfl rfl rfl rfl rfl cR rfl) rfl rfl rfl rfl rfl ?_ | refine DQ.stepc (LS.val tabs rfl rfl rfl) rfl rfl rfl rfl rfl ?_ | refine DQ.stepc (LS.skip rfl rfl) rfl rfl rfl rfl rfl ?_ | refine DQ.nilM (by kernel_rfl) ?_) | ((with_reducible show M2.DQ _ _ _ _ _ _); first | refine M2.DQ.step2 (M2.LS.callG [3, 4] (caps := []) rfl rfl rfl rfl rfl cW (fun _ => rfl) (bs := [⟨24, 1, []⟩, ⟨3, 1, []⟩]) rfl (fun n => rfl) rfl rfl rfl rfl rfl rfl (hpA := [⟨24, 1, [[.imm (.sl (f.map Node.iv))]]⟩, ⟨3, 1, [[iav q]]⟩]) (fun n => rfl) (r' := .fn 174 [.ptr 3 1 0 0, .ptr 4 1 0 0]) (fun _ => rfl)) rfl rfl rfl rfl rfl ?_ | refine M2.DQ.stepc (LS.call rfl rfl rfl rfl rfl cR rfl) rfl rfl rfl rfl rfl ?_ | refine M2.DQ.stepc (LS.val tabs rfl rfl rfl) rfl rfl rfl rfl rfl ?_ | refine M2.DQ.stepc (LS.skip rfl rfl) rfl rfl rfl rfl rfl ?_ | refine M2.DQ.nilM (by kernel_rfl) ?_) | refine M2.drawW (id := 1) mixed (by kernel_rfl) ?_ | refine AW.seq ?_ | refine AW.region ?_ | refine Then.norm ?_ | refine AW.skip ?_ | refine AW.block ?_ | refine InB.norm ?_ | refine AW.condT rfl ?_ | refine AW.condF rfl ?_ | (refine AW.cond rfl (fun hc => ?_) (fun hc => ?_) <;> (try simp only [hsx] at hc) <;> (try first | (exfalso; omega) | contradiction | (exfalso; simp [dec_eq] at hc; done))) | refine AW.ret ?_ | refine AW.exit ?_ | refine Then.ret ?_ | refine Then.exit ?_ | refine InB.ret ?_ | refine InB.here ?_ | refine InB.off rfl ?_ | refine AW.drawW mixed (by kernel_rfl) ?_))
  show AW0 _ _ _ _
  refine AW0.ofM (AWM.block ?_)
  refine AWM.pin 4 (env1 := [(12, .fn 174 [.ptr 3 1 0 0, .pin [.int .i64 q]]), (4, .ptr 0 1 0 0), (5, .ptr 1 1 0 0), (6, .ptr 2 1 0 0)]) (h1 := [⟨3, 1, [[iav a]]⟩, ⟨3, 1, [[iav b]]⟩, ⟨4, 1, [[bav false]]⟩, ⟨24, 1, [[.imm (.sl (f.map Node.iv))]]⟩]) [.int .i64 q] rfl rfl ⟨⟨_, rfl, rfl⟩, ⟨_, rfl, rfl⟩, ⟨_, rfl, rfl⟩, ⟨_, rfl, rfl⟩, trivial⟩ rfl rfl rfl (Nat.zero_le _) ?_
  refine AWM.pin 3 (env1 := [(12, .fn 174 [.pin [.sl (f.map Node.iv)], .pin [.int .i64 q]]), (4, .ptr 0 1 0 0), (5, .ptr 1 1 0 0), (6, .ptr 2 1 0 0)]) (h1 := [⟨3, 1, [[iav a]]⟩, ⟨3, 1, [[iav b]]⟩, ⟨4, 1, [[bav false]]⟩]) [.sl (f.map Node.iv)] rfl rfl ⟨⟨_, rfl, rfl⟩, ⟨_, rfl, rfl⟩, ⟨_, rfl, rfl⟩, ⟨_, rfl, rfl⟩, trivial⟩ rfl rfl rfl (Nat.zero_le _) ?_
  refine AWM.rangeFuncP [(4, .ptr 0 1 0 0), (5, .ptr 1 1 0 0), (6, .ptr 2 1 0 0)] (fun pre => [⟨3, 1, [[iav a]]⟩, ⟨3, 1, [[iav b]]⟩, ⟨4, 1, [[bav false]]⟩]) (fun pre => [⟨3, 1, [[iav a]]⟩, ⟨3, 1, [[iav b]]⟩, ⟨4, 1, [[bav (beh1 pre a b)]]⟩]) [] (withinL f m q) (fun pre => a ∉ pre ∧ b ∉ pre) (behStop a b) rfl [3, 4] (iterW hl hkl (by decide) _ m q hm).park (by intro pre b hb; simp only [List.mem_cons, List.not_mem_nil, or_false] at hb; rcases hb with rfl | rfl | rfl <;> simp) (gets.get ⟨rfl, rfl, rfl, trivial⟩) rfl rfl rfl (by simp [cxG]) (fun _ => rfl) (fun _ => rfl) rfl rfl rfl (Nat.le_of_ble_eq_true rfl) (Nat.le_of_ble_eq_true rfl) ⟨by simp, by simp⟩ ?_ ?_ ?_
  · intro pre x hlt hgo l w0 X γ κ
    (repeat' (first | ((with_reducible show AL _ _ _ _ _); first | (refine AL.step tabs rfl ?_; try dsimp only [len, List.nil_append, List.cons_append]) | refine AL.nil ?_) | ((with_reducible show DQ _ _ _ _ _ _); first | refine DQ.stepc (LS.val tabs rfl rfl rfl) rfl rfl rfl rfl rfl ?_ | refine DQ.stepc (LS.skip rfl rfl) rfl rfl rfl rfl rfl ?_ | refine DQ.nilM (by kernel_rfl) ?_) | refine AWM.seq ?_ | (refine AWM.region rfl (by first | exact fun _ h => h | exact fun _ h => h.2) ?_; intro w0' may') | refine Then.norm ?_ | refine AWM.skip ?_ | refine AWM.block ?_ | refine InB.norm ?_ | refine AWM.condT rfl ?_ | refine AWM.condF rfl ?_ | (refine AWM.cond rfl (fun hc => ?_) (fun hc => ?_) <;> (try simp only [hsx] at hc) <;> (try first | (exfalso; omega) | contradiction | (exfalso; simp [dec_eq] at hc; done))) | refine AWM.ret ?_ | refine AWM.exit ?_ | refine Then.ret ?_ | refine Then.exit ?_ | refine InB.ret ?_ | refine InB.here ?_ | refine InB.off rfl ?_ | fail))
    all_goals first
      | exact RX.norm 3 ⟨by simp [hgo.1]; omega, by simp [hgo.2]; omega⟩ rfl rfl (by simp [cxG])
      | exact RX.ret 3 ⟨pre, x, rfl, hgo.1, hgo.2, by omega⟩ (by rw [beh1_app (by omega) [] pre hgo.1 hgo.2]; first | (rw [if_pos (by omega)]; rfl) | (rw [if_neg (by omega)]; rfl)) rfl (by simp [cxG])
      | (trace_state; sorry)
  · intro hno
    rw [beh1_out _ hno.1 hno.2]
    (repeat' (first | ((with_reducible show AL _ _ _ _ _); first | (refine AL.step tabs rfl ?_; try dsimp only [len, List.nil_append, List.cons_append]) | refine AL.nil ?_) | ((with_reducible show DQ _ _ _ _ _ _); first | refine DQ.stepc (LS.val tabs rfl rfl rfl) rfl rfl rfl rfl rfl ?_ | refine DQ.stepc (LS.skip rfl rfl) rfl rfl rfl rfl rfl ?_ | refine DQ.nilM (by kernel_rfl) ?_) | refine AWM.seq ?_ | (refine AWM.region rfl (by first | exact fun _ h => h | exact fun _ h => h.2) ?_; intro w0' may') | refine Then.norm ?_ | refine AWM.skip ?_ | refine AWM.block ?_ | refine InB.norm ?_ | refine AWM.condT rfl ?_ | refine AWM.condF rfl ?_ | (refine AWM.cond rfl (fun hc => ?_) (fun hc => ?_) <;> (try simp only [hsx] at hc) <;> (try first | (exfalso; omega) | contradiction | (exfalso; simp [dec_eq] at hc; done))) | refine AWM.ret ?_ | refine AWM.exit ?_ | refine Then.ret ?_ | refine Then.exit ?_ | refine InB.ret ?_ | refine InB.here ?_ | refine InB.off rfl ?_ | fail))
    exact ⟨rfl, RQ.fin rfl rfl rfl⟩
  · rintro pre ⟨r, hpre⟩ ⟨p, x, rfl, h1, h2, h3⟩
    have e : beh1 (withinL f m q) a b = beh1 (p ++ [x]) a b := by
      rw [← hpre, List.append_assoc, List.singleton_append, beh1_app h3 r p h1 h2, beh1_app h3 [] p h1 h2]
    rw [e]
    exact ⟨rfl, RQ.fin rfl rfl rfl⟩
end Go.Proofs.YtjjdabihnmilgaaGreat.A
namespace Go.Proofs.YtjjdabihnmilgaaGreat.A
open Go.RowKit
set_option linter.unusedVariables false
set_option linter.unusedSimpArgs false
set_option maxRecDepth 100000
set_option maxHeartbeats 4000000
def Bnd.iv (b : Bnd) : List IV := [.int .i64 b.n, .int .i64 b.o]
def Bnd.av (b : Bnd) : AV := .agg (b.iv.map .imm)
def Rng.iv (r : Rng) : List IV := [.int .i64 r.s.n, .int .i64 r.s.o, .int .i64 r.e.n, .int .i64 r.e.o]
def Rng.av (r : Rng) : AV := .agg (r.iv.map .imm)
theorem length_c (f : List Node) (h : Int) (hf : Fit f) : PureC Tryz.prog 114 [fav f, iav h] (iav (lenP f h)) := by
  have hl := hf.len
  have c1 := treeAt_c f h hl
  have c2 := data_c (nodeAt f h).kind
  have hk := (hf.at h).kids
  have hd := (hf.at h).data
  unfold lenP
  generalize nodeAt f h = n at *
  obtain ⟨d, hdd⟩ : ∃ d, d = dec (dataB n.kind) := ⟨_, rfl⟩
  rw [← hdd] at c2 ⊢
  cases d with
  | true =>
    refine PureC.mk tabs Tryz.func114 18 [.tmp 4] rfl rfl rfl rfl rfl ?_; intro w0 X
    (repeat' (first | ((with_reducible show AL _ _ _ _ _); first | (refine AL.step tabs rfl ?_; try dsimp only [len, List.nil_append, List.cons_append]) | refine AL.op rfl (OpOK.call rfl rfl rfl rfl c1 rfl) ?_ | refine AL.op rfl (OpOK.call rfl rfl rfl rfl c2 rfl) ?_ | refine AL.nil ?_) | refine AW.seq ?_ | refine AW.region ?_ | refine Then.norm ?_ | refine AW.skip ?_ | refine AW.condT rfl ?_ | refine AW.condF rfl ?_ | (refine AW.cond rfl (fun hc => ?_) (fun hc => ?_) <;> (try simp only [hsx] at hc) <;> (try first | (exfalso; omega) | contradiction | (exfalso; simp [dec_eq] at hc; done))) | refine AW.ret ?_ | refine Then.ret ?_))
    all_goals first
      | exact RQ.fin rfl rfl rfl
      | (refine RQ.fin rfl rfl (congrArg iav ?_); simp)
      | (trace_state; sorry)
  | false =>
    refine PureC.mk tabs Tryz.func114 18 [.tmp 4] rfl rfl rfl rfl rfl ?_; intro w0 X
    (repeat' (first | ((with_reducible show AL _ _ _ _ _); first | (refine AL.step tabs rfl ?_; try dsimp only [len, List.nil_append, List.cons_append]) | refine AL.op rfl (OpOK.call rfl rfl rfl rfl c1 rfl) ?_ | refine AL.op rfl (OpOK.call rfl rfl rfl rfl c2 rfl) ?_ | refine AL.nil ?_) | refine AW.seq ?_ | refine AW.region ?_ | refine Then.norm ?_ | refine AW.skip ?_ | refine AW.condT rfl ?_ | refine AW.condF rfl ?_ | (refine AW.cond rfl (fun hc => ?_) (fun hc => ?_) <;> (try simp only [hsx] at hc) <;> (try first | (exfalso; omega) | contradiction | (exfalso; simp [dec_eq] at hc; done))) | refine AW.ret ?_ | refine Then.ret ?_))
    all_goals first
      | exact RQ.fin rfl rfl rfl
      | (refine RQ.fin rfl rfl (congrArg iav ?_); simp)
      | (trace_state; sorry)
theorem one_c (f : List Node) (a b : Int) (hf : Fit f) (hr : rightP f) : PureC Tryz.prog 104 [fav f, iav a, iav b] (bav (dec (rootP f a = rootP f b))) := by
  have c1 := root_c f a hf hr
  have c2 := root_c f b hf hr
  generalize rootP f a = x at *
  generalize rootP f b = y at *
  refine PureC.mk tabs Tryz.func104 14 [.tmp 6] rfl rfl rfl rfl rfl ?_; intro w0 X
  (repeat' (first | ((with_reducible show AL _ _ _ _ _); first | (refine AL.step tabs rfl ?_; try dsimp only [len, List.nil_append, List.cons_append]) | refine AL.nil ?_) | ((with_reducible show DQ _ _ _ _ _ _); first | refine DQ.stepc (LS.call rfl rfl rfl rfl rfl c1 rfl) rfl rfl rfl rfl rfl ?_ | refine DQ.stepc (LS.call rfl rfl rfl rfl rfl c2 rfl) rfl rfl rfl rfl rfl ?_ | refine DQ.stepc (LS.val tabs rfl rfl rfl) rfl rfl rfl rfl rfl ?_ | refine DQ.stepc (LS.skip rfl rfl) rfl rfl rfl rfl rfl ?_ | refine DQ.nilM (by kernel_rfl) ?_) | refine AW.seq ?_ | refine AW.region ?_ | refine Then.norm ?_ | refine AW.skip ?_ | refine AW.ret ?_ | refine Then.ret ?_ | refine AW.drawW mixed (by kernel_rfl) ?_))
  all_goals first
    | exact RQ.fin rfl rfl rfl
    | (trace_state; sorry)
theorem pos0_c (f : List Node) (a b : Bnd) (hf : Fit f) (hr : rightP f) (hb : a.n ≠ b.n → behP f a.n b.n = false) : PureC Tryz.prog 105 [fav f, a.av, b.av] (iav (posP f a b)) := by
  have c1 := behind_c f a.n b.n hf hr
  have c2 := bwithin_c f a.n b.n hf hr
  have c3 := place_c f (belowP f a.n b.n) hf
  obtain ⟨an, ao⟩ := a
  obtain ⟨bn, bo⟩ := b
  simp only at *
  by_cases e : an = bn
  · have ep : posP f ⟨an, ao⟩ ⟨bn, bo⟩ = if ao = bo then 0 else if ao < bo then -1 else 1 := by
      unfold posP
      simp [e]
    rw [ep]
    subst e
    refine PureC.mk tabs Tryz.func105 59 [.tmp 6] rfl rfl rfl rfl rfl ?_; intro w0 X
    (repeat' (first | ((with_reducible show AL _ _ _ _ _); first | (refine AL.step tabs rfl ?_; try dsimp only [len, List.nil_append, List.cons_append]) | refine AL.op rfl (OpOK.call rfl rfl rfl rfl c1 rfl) ?_ | refine AL.op rfl (OpOK.call rfl rfl rfl rfl c2 rfl) ?_ | refine AL.nil ?_ | (refine AL.gsplitE rfl rfl rfl (fun hc => ?_) (fun hc => ?_) <;> (fail_if_success (exact absurd hc (by decide))) <;> (try simp only [hsx] at hc) <;> (try first | (exfalso; omega) | contradiction | (exfalso; simp [dec_eq] at hc; done))) | (refine AL.op rfl (OpOK.eqs rfl rfl rfl rfl eqt39 rfl rfl) ?_)) | ((with_reducible show DQ _ _ _ _ _ _); first | refine DQ.stepc (LS.call rfl rfl rfl rfl rfl c3 rfl) rfl rfl rfl rfl rfl ?_ | refine DQ.stepc (LS.val tabs rfl rfl rfl) rfl rfl rfl rfl rfl ?_ | refine DQ.stepc (LS.skip rfl rfl) rfl rfl rfl rfl rfl ?_ | refine DQ.nilM (by kernel_rfl) ?_ | (refine DQ.gsplitE rfl rfl rfl (fun hc => ?_) (fun hc => ?_) <;> (fail_if_success (exact absurd hc (by decide))) <;> (try simp only [hsx] at hc) <;> (try first | (exfalso; omega) | contradiction | (exfalso; simp [dec_eq] at hc; done))) | refine DQ.stepc (LS.eqs rfl rfl rfl rfl rfl eqt39 rfl rfl) rfl rfl rfl rfl rfl ?_) | (exfalso; omega) | refine AW.seq ?_ | refine AW.region ?_ | refine Then.norm ?_ | refine AW.skip ?_ | refine AW.block ?_ | refine InB.norm ?_ | refine AW.condT rfl ?_ | refine AW.condF rfl ?_ | (refine AW.cond rfl (fun hc => ?_) (fun hc => ?_) <;> (try simp only [hsx] at hc) <;> (try first | (exfalso; omega) | contradiction | (exfalso; simp [dec_eq] at hc; done))) | refine AW.ret ?_ | refine AW.exit ?_ | refine Then.ret ?_ | refine Then.exit ?_ | refine InB.ret ?_ | refine InB.here ?_ | refine InB.off rfl ?_ | refine AW.drawW mixed (by kernel_rfl) ?_))
    all_goals try simp only [Bool.and_eq_true, Bool.and_eq_false_iff, dec_true, dec_false, true_and, not_true_eq_false, false_or] at *
    all_goals first
      | (exfalso; omega)
      | (rw [if_pos (by omega)]; exact RQ.fin rfl rfl rfl)
      | (rw [if_neg (by omega), if_pos (by omega)]; exact RQ.fin rfl rfl rfl)
      | (rw [if_neg (by omega), if_neg (by omega)]; exact RQ.fin rfl rfl rfl)
      | (rw [if_neg (by omega)]; exact RQ.fin rfl rfl rfl)
      | (trace_state; sorry)
  · have hb := hb e
    rw [hb] at c1
    have ep : posP f ⟨an, ao⟩ ⟨bn, bo⟩ = if belowP f an bn ≠ 0 ∧ placeP f (belowP f an bn) < ao then 1 else -1 := by
      unfold posP posD
      simp [e, hb]
    rw [ep]
    generalize placeP f (belowP f an bn) = p at *
    generalize belowP f an bn = k at *
    refine PureC.mk tabs Tryz.func105 59 [.tmp 6] rfl rfl rfl rfl rfl ?_; intro w0 X
    (repeat' (first | ((with_reducible show AL _ _ _ _ _); first | (refine AL.step tabs rfl ?_; try dsimp only [len, List.nil_append, List.cons_append]) | refine AL.op rfl (OpOK.call rfl rfl rfl rfl c1 rfl) ?_ | refine AL.op rfl (OpOK.call rfl rfl rfl rfl c2 rfl) ?_ | refine AL.nil ?_ | (refine AL.gsplitE rfl rfl rfl (fun hc => ?_) (fun hc => ?_) <;> (fail_if_success (exact absurd hc (by decide))) <;> (try simp only [hsx] at hc) <;> (try first | (exfalso; omega) | contradiction | (exfalso; simp [dec_eq] at hc; done))) | (refine AL.op rfl (OpOK.eqs rfl rfl rfl rfl eqt39 rfl rfl) ?_)) | ((with_reducible show DQ _ _ _ _ _ _); first | refine DQ.stepc (LS.call rfl rfl rfl rfl rfl c3 rfl) rfl rfl rfl rfl rfl ?_ | refine DQ.stepc (LS.val tabs rfl rfl rfl) rfl rfl rfl rfl rfl ?_ | refine DQ.stepc (LS.skip rfl rfl) rfl rfl rfl rfl rfl ?_ | refine DQ.nilM (by kernel_rfl) ?_ | (refine DQ.gsplitE rfl rfl rfl (fun hc => ?_) (fun hc => ?_) <;> (fail_if_success (exact absurd hc (by decide))) <;> (try simp only [hsx] at hc) <;> (try first | (exfalso; omega) | contradiction | (exfalso; simp [dec_eq] at hc; done))) | refine DQ.stepc (LS.eqs rfl rfl rfl rfl rfl eqt39 rfl rfl) rfl rfl rfl rfl rfl ?_) | (exfalso; omega) | refine AW.seq ?_ | refine AW.region ?_ | refine Then.norm ?_ | refine AW.skip ?_ | refine AW.block ?_ | refine InB.norm ?_ | refine AW.condT rfl ?_ | refine AW.condF rfl ?_ | (refine AW.cond rfl (fun hc => ?_) (fun hc => ?_) <;> (try simp only [hsx] at hc) <;> (try first | (exfalso; omega) | contradiction | (exfalso; simp [dec_eq] at hc; done))) | refine AW.ret ?_ | refine AW.exit ?_ | refine Then.ret ?_ | refine Then.exit ?_ | refine InB.ret ?_ | refine InB.here ?_ | refine InB.off rfl ?_ | refine AW.drawW mixed (by kernel_rfl) ?_))
    all_goals try simp only [Bool.and_eq_true, Bool.and_eq_false_iff, dec_true, dec_false, true_and, not_true_eq_false, false_or] at *
    all_goals first
      | (exfalso; omega)
      | (rw [if_pos (by omega)]; exact RQ.fin rfl rfl rfl)
      | (rw [if_neg (by omega), if_pos (by omega)]; exact RQ.fin rfl rfl rfl)
      | (rw [if_neg (by omega), if_neg (by omega)]; exact RQ.fin rfl rfl rfl)
      | (rw [if_neg (by omega)]; exact RQ.fin rfl rfl rfl)
      | (trace_state; sorry)
theorem OpOK.negz {C : Cx} {s : St} {o : Oper} (hd : dok C.nt o.dst = true) {x : Operand} {t : TypeId} (ho : o.op = .unOp .neg t x) {n : Int} (hx : s.ev x = some (iav n)) (h0 : -1000 ≤ n) (h1 : n ≤ 1000) : OpOK C s o (s.put o.dst (iav (-n))) := by
  have h := OpOK.neg (C := C) hd ho (k := .i64) (n := n) hx
  have e : IntKind.i64.wrap (0 - n) = -n := by rw [IntKind.wrap_i64]; omega
  rw [e] at h
  exact h
theorem pos_c (f : List Node) (a b : Bnd) (hf : Fit f) (hr : rightP f) (ha : inR f a.n) (hb : inR f b.n) (ho : rootP f a.n = rootP f b.n) : PureC Tryz.prog 105 [fav f, a.av, b.av] (iav (posP f a b)) := by
  by_cases e : a.n ≠ b.n ∧ behP f a.n b.n = true
  · obtain ⟨e1, e2⟩ := e
    have hbt : behP f b.n a.n = false := by rw [beh_turn hr ha hb e1 ho, e2]; rfl
    have c0 := pos0_c f b a hf hr (fun _ => hbt)
    have ht := pos_turn hr ha hb ho
    have hv := pos_vals f b a
    have c1 := behind_c f a.n b.n hf hr
    rw [e2] at c1
    have ep : posP f a b = - posP f b a := by omega
    rw [ep]
    generalize posP f b a = z at *
    obtain ⟨an, ao⟩ := a
    obtain ⟨bn, bo⟩ := b
    simp only at *
    refine PureC.mk tabs Tryz.func105 59 [.tmp 6] rfl rfl rfl rfl rfl ?_; intro w0 X
    (repeat' (first | ((with_reducible show AL _ _ _ _ _); first | (refine AL.step tabs rfl ?_; try dsimp only [len, List.nil_append, List.cons_append]) | refine AL.op rfl (OpOK.call rfl rfl rfl rfl c1 rfl) ?_ | refine AL.op rfl (OpOK.call rfl rfl rfl rfl c0 rfl) ?_ | refine AL.op rfl (OpOK.negz rfl rfl rfl (by omega) (by omega)) ?_ | refine AL.nil ?_ | (refine AL.gsplitE rfl rfl rfl (fun hc => ?_) (fun hc => ?_) <;> (fail_if_success (exact absurd hc (by decide))) <;> (try simp only [hsx] at hc) <;> (try first | (exfalso; omega) | contradiction | (exfalso; simp [dec_eq] at hc; done))) | (refine AL.op rfl (OpOK.eqs rfl rfl rfl rfl eqt39 rfl rfl) ?_)) | ((with_reducible show DQ _ _ _ _ _ _); first | refine DQ.stepc (LS.val tabs rfl rfl rfl) rfl rfl rfl rfl rfl ?_ | refine DQ.stepc (LS.skip rfl rfl) rfl rfl rfl rfl rfl ?_ | refine DQ.nilM (by kernel_rfl) ?_ | (refine DQ.gsplitE rfl rfl rfl (fun hc => ?_) (fun hc => ?_) <;> (fail_if_success (exact absurd hc (by decide))) <;> (try simp only [hsx] at hc) <;> (try first | (exfalso; omega) | contradiction | (exfalso; simp [dec_eq] at hc; done))) | refine DQ.stepc (LS.eqs rfl rfl rfl rfl rfl eqt39 rfl rfl) rfl rfl rfl rfl rfl ?_) | (exfalso; omega) | refine AW.seq ?_ | refine AW.region ?_ | refine Then.norm ?_ | refine AW.skip ?_ | refine AW.block ?_ | refine InB.norm ?_ | refine AW.condT rfl ?_ | refine AW.condF rfl ?_ | (refine AW.cond rfl (fun hc => ?_) (fun hc => ?_) <;> (try simp only [hsx] at hc) <;> (try first | (exfalso; omega) | contradiction | (exfalso; simp [dec_eq] at hc; done))) | refine AW.ret ?_ | refine AW.exit ?_ | refine Then.ret ?_ | refine Then.exit ?_ | refine InB.ret ?_ | refine InB.here ?_ | refine InB.off rfl ?_ | refine AW.drawW mixed (by kernel_rfl) ?_))
    all_goals try simp only [Bool.and_eq_true, Bool.and_eq_false_iff, dec_true, dec_false, true_and, not_true_eq_false, false_or] at *
    all_goals first
      | (exfalso; omega)
      | exact RQ.fin rfl rfl rfl
      | (trace_state; sorry)
  · exact pos0_c f a b hf hr fun e1 => by
      cases h : behP f a.n b.n with
      | false => rfl
      | true => exact absurd ⟨e1, h⟩ e
theorem valid_c (f : List Node) (r : Rng) (hf : Fit f) (hr : rightP f) (ha : inR f r.s.n) (hb : inR f r.e.n) : PureC Tryz.prog 117 [fav f, r.av] (bav (dec (validP f r))) := by
  have c1 := one_c f r.s.n r.e.n hf hr
  unfold validP
  by_cases ho : rootP f r.s.n = rootP f r.e.n
  · have c2 := pos_c f r.s r.e hf hr ha hb ho
    have e1 : dec (rootP f r.s.n = rootP f r.e.n) = true := by rw [dec_true]; exact ho
    have e2 : dec (rootP f r.s.n = rootP f r.e.n ∧ posP f r.s r.e ≤ 0) = dec (posP f r.s r.e ≤ 0) := by
      rw [Bool.eq_iff_iff, dec_true, dec_true]
      exact ⟨fun h => h.2, fun h => ⟨ho, h⟩⟩
    rw [e1] at c1
    rw [e2]
    generalize posP f r.s r.e = z at *
    clear e1 e2 ho
    obtain ⟨⟨an, ao⟩, ⟨bn, bo⟩⟩ := r
    simp only at *
    refine PureC.mk tabs Tryz.func117 22 [.tmp 4] rfl rfl rfl rfl rfl ?_; intro w0 X
    (repeat' (first | ((with_reducible show AL _ _ _ _ _); first | (refine AL.step tabs rfl ?_; try dsimp only [len, List.nil_append, List.cons_append]) | refine AL.op rfl (OpOK.call rfl rfl rfl rfl c1 rfl) ?_ | refine AL.op rfl (OpOK.call rfl rfl rfl rfl c2 rfl) ?_ | refine AL.nil ?_ | (refine AL.gsplitE rfl rfl rfl (fun hc => ?_) (fun hc => ?_) <;> (fail_if_success (exact absurd hc (by decide))) <;> (try simp only [hsx] at hc) <;> (try first | (exfalso; omega) | contradiction | (exfalso; simp [dec_eq] at hc; done)))) | refine AW.seq ?_ | refine AW.region ?_ | refine Then.norm ?_ | refine AW.skip ?_ | refine AW.ret ?_ | refine Then.ret ?_))
    all_goals first
      | exact RQ.fin rfl rfl rfl
      | (trace_state; sorry)
  · have e1 : dec (rootP f r.s.n = rootP f r.e.n) = false := by rw [dec_false]; exact ho
    have e2 : dec (rootP f r.s.n = rootP f r.e.n ∧ posP f r.s r.e ≤ 0) = false := by
      rw [dec_false]
      exact fun h => ho h.1
    rw [e1] at c1
    rw [e2]
    clear e1 e2 ho
    obtain ⟨⟨an, ao⟩, ⟨bn, bo⟩⟩ := r
    simp only at *
    refine PureC.mk tabs Tryz.func117 22 [.tmp 4] rfl rfl rfl rfl rfl ?_; intro w0 X
    (repeat' (first | ((with_reducible show AL _ _ _ _ _); first | (refine AL.step tabs rfl ?_; try dsimp only [len, List.nil_append, List.cons_append]) | refine AL.op rfl (OpOK.call rfl rfl rfl rfl c1 rfl) ?_ | refine AL.nil ?_ | (refine AL.gsplitE rfl rfl rfl (fun hc => ?_) (fun hc => ?_) <;> (fail_if_success (exact absurd hc (by decide))) <;> (try simp only [hsx] at hc) <;> (try first | (exfalso; omega) | contradiction | (exfalso; simp [dec_eq] at hc; done)))) | refine AW.seq ?_ | refine AW.region ?_ | refine Then.norm ?_ | refine AW.skip ?_ | refine AW.ret ?_ | refine Then.ret ?_))
    all_goals first
      | exact RQ.fin rfl rfl rfl
      | (trace_state; sorry)
end Go.Proofs.YtjjdabihnmilgaaGreat.A
namespace Go.Proofs.YtjjdabihnmilgaaGreat.A
open Go.RowKit
set_option linter.unusedVariables false
set_option linter.unusedSimpArgs false
section
variable {C : Cx} {s : St} {o : Oper} {T : List (Nat × TI)} {l : List Oper}
theorem LS.lit0 (hT : TsOK C.P T) (hw : awant l s o = some true) (hd : dok C.nt o.dst = true) {t e : TypeId} {ps : Array (Nat × Operand)} (ho : o.op = .buildSlice t 0 ps) (hp : ps.toList = []) {i ie : TI} (hi : look T t = some i) (hk : i.kd = .sl e) (hie : look T e = some ie) : LS C l s o (mkFx l s o (.val .nocap) []) :=
  LS.quiet [] hw fun s' hl => OpOK.lit0 hT hd ho hp hi hk hie
theorem LS.append_imm (hT : TsOK C.P T) (hw : awant l s o = some true) (hd : dok C.nt o.dst = true) {x y : Operand} {t tx e e2 : TypeId} (ho : o.op = .call ⟨.builtin .append, #[x, y], #[t, tx]⟩) {i i2 ie : TI} (hi : look T t = some i) (hk : i.kd = .sl e) (hie : look T e = some ie) {id n : Nat} (hx : s.ev x = some (.os id n))
    {ty sz : Nat} {rows : List (List AV)} (hb : nth s.hp id = some ⟨ty, sz, rows⟩) (hver : n = rows.length) (hty : ty = e) (hsz : sz = ie.sz) (hi2 : look T tx = some i2) (hk2 : i2.kd = .sl e2) {rows2 : List (List IV)} (hy : s.ev y = some (.imm (.sl rows2))) (hrl : ∀ r ∈ rows2, r.length = ie.sz) (hbound : (rows.length + rows2.length) * ie.bytes ≤ 140737488355328) (h63 : rows.length + rows2.length ≤ 9223372036854775807) :
    LS C l s o (mkFx l s o (.blk id ⟨ty, sz, rows ++ rows2.map (·.map .imm)⟩ (.os id (n + rows2.length))) []) := by
  have := LS.append_os hT hw hd ho hi hk hie hx hb hver hty hsz (rows2 := rows2.map (·.map .imm)) (fun s' hl => by
    have hym : y ∈ o.op.operands.toList := by rw [ho]; simp [Op.operands, Call.operands]
    exact SrcA.imm (rows := rows2) hT hi2 hk2 ((hl.ev y hym).trans hy) hrl) (by simpa using hbound) (by simpa using h63)
  rw [List.length_map] at this
  exact this
end
end Go.Proofs.YtjjdabihnmilgaaGreat.A
