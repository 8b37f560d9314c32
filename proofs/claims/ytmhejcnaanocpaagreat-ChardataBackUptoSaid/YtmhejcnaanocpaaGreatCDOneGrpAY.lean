/- Contracts: slices.Insert and slices.Replace of units, wherever it is. -/
import Derived.Test.YtmhejcnaanocpaaGreatCDOneGrpAT
import Derived.Test.YtmhejcnaanocpaaGreatCDOneGrpAX
namespace Go.Proofs.YtmhejcnaanocpaaGreat.A
open Go.RowKit
set_option linter.unusedVariables false
set_option linter.unusedSimpArgs false
set_option maxRecDepth 100000
set_option maxHeartbeats 4000000
theorem call180 : Callable Tryz.prog 180 := fun vs w => by
  unfold callFunc
  have hp : (program).run Tryz.prog w = .ok Tryz.prog w := rfl
  rw [run_bind hp, Tryz.func180]
  rfl
/-- what an argument that reads as units is: nothing, or cells outside. -/
theorem sl_src2 {M : Mm} {v : List Int} {x : Value} (h : RepA M (.imm (.sl (v.map u16))) x) : ∃ vA vc, x = .slice vA v.length vc ∧ (v.length = 0 ∨ ∃ vb voff, vA = some ⟨vb, voff, none⟩ ∧ ¬ M.N vb ∧ ∀ k y, (v.map (Value.int .u16))[k]? = some y → M.W.cell? ⟨vb, voff + k, none⟩ = some y) := by
  cases h with
  | imm _ _ h =>
    generalize hr : v.map u16 = rows at h
    cases h with
    | nil A c =>
      have hv : v = [] := List.map_eq_nil_iff.1 hr
      subst hv
      exact ⟨A, c, rfl, .inl rfl⟩
    | sl _ ad n c sz ys g0 hsz hn hc hb hrl hyc hrep =>
      subst hr
      have hlen : n = v.length := by rw [hn, List.length_map]
      subst hlen
      have e : ys = v.map (Value.int .u16) := by
        have key : ∀ {l : List Int} {zs : List Value}, All2 (RepI M.W M.N) (l.map u16).flatten zs → zs = l.map (Value.int .u16) := by
          intro l
          induction l with
          | nil => intro zs h; cases h; rfl
          | cons a l ih =>
            intro zs h
            cases h with
            | cons h1 h2 => rw [h1.int_inv, ih h2]; rfl
        exact key hrep
      subst e
      obtain ⟨blk, off, spot⟩ := ad
      have h0 : v ≠ [] := fun e => g0 (by rw [e]; rfl)
      have hs : spot = none := by
        have := hyc 0 ((v.map (Value.int .u16))[0]'(by simpa using List.length_pos_iff.2 h0)) (List.getElem?_eq_getElem _)
        obtain ⟨_, _, _, _, h⟩ := Go.Proofs.YtmhejcnaanocpaaGreat.A.cell_shape this
        unfold Addr.add at h
        cases spot with
        | none => rfl
        | some z => simp at h
      subst hs
      refine ⟨_, c, rfl, .inr ⟨blk, off, rfl, hb, fun k y hk => ?_⟩⟩
      have := hyc k y hk
      rwa [Addr.add_lit] at this
/-- an own list, as a part that is all of it. -/
theorem GenC.sub {P : Program} {f : FuncId} {hp0 : List Blk} {args : List AV} {n : Nat} {b : Blk} (h : GenC P f hp0 args (.os 0 n) [b]) (hn : n = b.rows.length) (h0 : 0 < n) : GenC P f hp0 args (.sub 0 n 0 n) [b] := by
  refine ⟨h.1, fun W X γ κ xs hC hargs => (h.2 W X γ κ xs hC hargs).mono ?_⟩
  rintro e W' ⟨x, γ', κ', he, hC', hr⟩
  refine ⟨x, γ', κ', he, hC', ?_⟩
  have hb : ([b] : List Blk)[0]? = some b := rfl
  have e1 := hr.os_val hb hn
  subst e1
  have hB := hC'.blk 0 b hb
  rcases hB.mem with ⟨h1, h2, h3⟩ | ⟨g, ys, sp, h1, h2, h3, h4⟩
  · rw [hn, h2] at h0
    cases h0
  · refine .sub 0 n 0 n b _ _ hb (Nat.le_of_eq hn) (fun _ => ⟨by omega, fun _ => ⟨g, h1, ?_⟩⟩) ?_
    · have h1' : γ' 0 = some g := h1
      show (Option.map _ (γ' 0)) = _
      rw [h1']; simp
    · rw [hn]; exact hB.cap
theorem insU_c (l v : List Int) (i : Int) (h0 : 0 ≤ i) (h1 : i < l.length) (hm : v ≠ []) (hl : l.length ≤ 1000000000) (hv : v.length ≤ 1000000000) : GenC Tryz.prog 180 [⟨55, 1, l.map cU⟩] [.os 0 l.length, iav i, .imm (.sl (v.map u16))] (.os 0 (l.length + v.length)) [⟨55, 1, (l.take i.toNat ++ v ++ l.drop i.toNat).map cU⟩] := by
  refine ⟨call180, fun W X γ κ xs hC hargs => ?_⟩
  obtain ⟨k, rfl⟩ : ∃ k : Nat, i = k := ⟨i.toNat, by omega⟩
  have hm0 : 0 < v.length := List.length_pos_iff.2 hm
  cases hargs with
  | cons a0 t =>
    cases t with
    | cons a1 t =>
      cases t with
      | cons a2 t =>
        cases t
        have e0 := a0.os_val (b := ⟨55, 1, l.map cU⟩) rfl (by simp)
        have e1 := iav_val a1
        obtain ⟨vA, vc, e2, hV⟩ := sl_src2 a2
        rcases hV with hV | ⟨vb, voff, rfl, hN, hcell⟩
        · omega
        · subst e0 e1 e2
          exact coreU hC (id := 0) (l := l) (v := v) (i := k) rfl (by omega) hm0 hl hv (fun e => hN (.inr ⟨0, by simp, e⟩)) hcell
theorem srcUb {C : Cx} {s : St} {tx : TypeId} {y : Operand} (hT : TsOK C.P tab) {i : TI} (hi : look tab tx = some i) {e : TypeId} (hk : i.kd = .sl e) (d : List Int) (hy : s.ev y = some (.imm (.sl (d.map u16)))) : SrcA C s ti55 tx y (d.map cU) := by
  have := SrcA.imm (ie := ti55) hT hi hk hy (fun r hr => by
    obtain ⟨q, _, rfl⟩ := List.mem_map.1 hr
    rfl)
  rw [List.map_map] at this
  exact this
theorem insE_c (l v : List Int) (hm : v ≠ []) (hl : l.length ≤ 1000000000) (hv : v.length ≤ 1000000000) : GenC Tryz.prog 180 [⟨55, 1, l.map cU⟩] [.os 0 l.length, iav l.length, .imm (.sl (v.map u16))] (.os 0 (l.length + v.length)) [⟨55, 1, (l ++ v).map cU⟩] := by
  have hm0 : 0 < v.length := List.length_pos_iff.2 hm
  have hmv : (v.map u16).length = v.length := List.length_map _
  refine GenC.mk tabs Tryz.func180 95 [.tmp 6] rfl rfl rfl rfl rfl ?_; intro w0 X γ κ
  (repeat' (first | ((with_reducible show AL _ _ _ _ _); first | refine AL.ope rfl (OpOK.cutEnd (n := l.length) tabs rfl rfl rfl rfl rfl (os_sl (b := ⟨55, 1, l.map cU⟩) rfl rfl (by simp)) rfl rfl) rfl ?_ | (refine AL.step tabs rfl ?_; try dsimp only [len, List.nil_append, List.cons_append]) | refine AL.ope rfl (OpOK.len_os (b := ⟨55, 1, l.map cU⟩) tabs rfl rfl rfl rfl rfl rfl (by simp)) rfl ?_ | refine AL.ope rfl (OpOK.append_m (ie := ti55) (xs := l) (ys := v) (g := cU) (ty := 55) (sz := 1) tabs rfl rfl rfl rfl rfl rfl rfl rfl rfl rfl (srcUb tabs rfl rfl v rfl) (by simp only [ti55]; omega) (by omega)) rfl ?_ | refine AL.nil ?_ | (refine AL.op rfl (OpOK.ari64 rfl rfl rfl rfl rfl (by omega) (by omega)) ?_)) | ((with_reducible show DQ _ _ _ _ _ _); first | refine DQ.stepc (LS.val tabs rfl rfl rfl) rfl rfl rfl rfl rfl ?_ | refine DQ.stepc (LS.skip rfl rfl) rfl rfl rfl rfl rfl ?_ | refine DQ.nilM (by kernel_rfl) ?_ | refine DQ.stepc (LS.ari64 rfl rfl rfl rfl rfl rfl (by omega) (by omega)) rfl rfl rfl rfl rfl ?_) | (exfalso; omega) | refine AW.seq ?_ | refine AW.region ?_ | refine Then.norm ?_ | refine AW.skip ?_ | refine AW.condT rfl ?_ | refine AW.condF rfl ?_ | (refine AW.cond rfl (fun hc => ?_) (fun hc => ?_) <;> (try simp only [hsx] at hc) <;> (try first | (exfalso; omega) | contradiction | (exfalso; simp [dec_eq] at hc; done))) | refine AW.ret ?_ | refine Then.ret ?_ | refine AW.drawW mixed (by kernel_rfl) ?_))
  exact RG.ret 1 rfl (by rw [List.length_append]; rfl) rfl rfl (by simp only [List.all_cons, List.all_nil, Bool.and_true, List.all_map, Function.comp_def, cU, AV.sc1, AV.sc0, all_tt]) (by simp [cxG])
theorem nRepU_ins (b n c i m vc : Nat) (vA : Option Addr) (w : World) (Post : Ending → World → Prop) (hi : i ≤ n) (hnc : n ≤ c) (h : Calls Tryz.prog 180 #[.slice (some ⟨b, 0, none⟩) n c, .int .i64 i, .slice vA m vc] w Post) (hret : ∀ e w', Post e w' → ∃ x, e = .returned x) :
    Calls Tryz.prog 155 #[.slice (some ⟨b, 0, none⟩) n c, .int .i64 i, .int .i64 i, .slice vA m vc] w Post := by
  have mixed : Tryz.prog.follows .mixedOrders = true := by kernel_rfl
  have tS : Tryz.prog.underlying 36 = some (.slice 55) := Tryz.underlying36
  have tI : Tryz.prog.underlying 3 = some (.int .i64) := Tryz.underlying3
  have iE : (Tryz.prog.info? 55).map (fun i => (i.zero, i.size, i.bytes)) = some (some (Value.int .u16 0), 1, 2) := by kernel_rfl
  obtain ⟨i0, hi0, hz0, hzs, hzb⟩ := info_parts iE
  have hic : i ≤ c := by omega
  go_enter Tryz.func155, Tryz.ntmps155
  go_wp2_with (go_at_call 180; (with_reducible refine h.mono ?_); rintro e w' he; obtain ⟨x, hx⟩ := hret e w' he; subst hx)
  all_goals exact he
theorem repI_c (l v all : List Int) (i : Int) (N : Nat) (h0 : 0 ≤ i) (h1 : i ≤ l.length) (hne : l ≠ []) (h : GenC Tryz.prog 180 [⟨55, 1, l.map cU⟩] [.os 0 l.length, iav i, .imm (.sl (v.map u16))] (.os 0 N) [⟨55, 1, all.map cU⟩]) : GenC Tryz.prog 155 [⟨55, 1, l.map cU⟩] [.os 0 l.length, iav i, iav i, .imm (.sl (v.map u16))] (.os 0 N) [⟨55, 1, all.map cU⟩] := by
  refine ⟨call155, fun W X γ κ xs hC hargs => ?_⟩
  obtain ⟨k, rfl⟩ : ∃ k : Nat, i = k := ⟨i.toNat, by omega⟩
  cases hargs with
  | cons a0 t =>
    cases t with
    | cons a1 t =>
      cases t with
      | cons a2 t =>
        cases t with
        | cons a3 t =>
          cases t
          have hh := h.2 W X γ κ _ hC (.cons a0 (.cons a1 (.cons a3 .nil)))
          have e0 := a0.os_val (b := ⟨55, 1, l.map cU⟩) rfl (by simp)
          have e1 := iav_val a1
          have e2 := iav_val a2
          obtain ⟨vA, vc, e3, _⟩ := sl_src2 a3
          obtain ⟨g, sp, hg, hmem, hcap⟩ := ownU hC (id := 0) (l := l) rfl hne
          subst e0 e1 e2 e3
          have hg' : (St.mm ⟨[], [⟨55, 1, l.map cU⟩]⟩ (cxG Tryz.prog X [⟨55, 1, l.map cU⟩] γ κ W 0) γ κ W).γ 0 = some g := hg
          have hk' : (St.mm ⟨[], [⟨55, 1, l.map cU⟩]⟩ (cxG Tryz.prog X [⟨55, 1, l.map cU⟩] γ κ W 0) γ κ W).κ 0 = κ 0 := rfl
          rw [hg', hk'] at hh ⊢
          refine nRepU_ins g l.length (κ 0) k v.length vc vA W _ (by omega) (by omega) hh ?_
          rintro e w' ⟨x, _, _, he, _⟩
          exact ⟨x, he⟩
theorem repM_c (l v : List Int) (i j : Int) (h0 : 0 ≤ i) (hij : i < j) (h1 : j < l.length) (hl : l.length ≤ 1000000000) (hv : v.length ≤ 1000000000) : GenC Tryz.prog 155 [⟨55, 1, l.map cU⟩] [.os 0 l.length, iav i, iav j, .imm (.sl (v.map u16))] (.sub 0 (midL l v i.toNat j.toNat).length 0 (i.toNat + v.length + (l.length - j.toNat))) [⟨55, 1, (midL l v i.toNat j.toNat).map cU⟩] := by
  refine ⟨call155, fun W X γ κ xs hC hargs => ?_⟩
  obtain ⟨p, rfl⟩ : ∃ k : Nat, i = k := ⟨i.toNat, by omega⟩
  obtain ⟨q, rfl⟩ : ∃ k : Nat, j = k := ⟨j.toNat, by omega⟩
  cases hargs with
  | cons a0 t =>
    cases t with
    | cons a1 t =>
      cases t with
      | cons a2 t =>
        cases t with
        | cons a3 t =>
          cases t
          have e0 := a0.os_val (b := ⟨55, 1, l.map cU⟩) rfl (by simp)
          have e1 := iav_val a1
          have e2 := iav_val a2
          obtain ⟨vA, vc, e3, hV⟩ := sl_src2 a3
          subst e0 e1 e2 e3
          refine coreMidU hC (id := 0) (l := l) (v := v) (i := p) (j := q) rfl (by omega) (by omega) hl hv ?_
          rcases hV with hV | ⟨vb, voff, h1, h2, h3⟩
          · exact .inl hV
          · exact .inr ⟨vb, voff, h1, fun e => h2 (.inr ⟨0, by simp, e⟩), h3⟩
/-- slices.Replace of an own list that is not empty. -/
theorem rep_all (l v : List Int) (i j : Int) (h0 : 0 ≤ i) (hij : i ≤ j) (h1 : j ≤ l.length) (hne : l ≠ []) (hn : i < j ∨ v ≠ []) (hl : l.length ≤ 1000000000) (hv : v.length ≤ 1000000000) :
    ∃ (all : List Int) (m : Nat), all.take m = l.take i.toNat ++ v ++ l.drop j.toNat ∧ GenC Tryz.prog 155 [⟨55, 1, l.map cU⟩] [.os 0 l.length, iav i, iav j, .imm (.sl (v.map u16))] (.sub 0 all.length 0 m) [⟨55, 1, all.map cU⟩] := by
  have hpos : 0 < l.length := List.length_pos_iff.2 hne
  by_cases he : i = j
  · subst he
    have hv0 : v ≠ [] := by rcases hn with h | h; omega; exact h
    have hvp : 0 < v.length := List.length_pos_iff.2 hv0
    by_cases hi : i < l.length
    · have hlen : (l.take i.toNat ++ v ++ l.drop i.toNat).length = l.length + v.length := by
        simp only [List.length_append, List.length_take, List.length_drop]; omega
      refine ⟨l.take i.toNat ++ v ++ l.drop i.toNat, l.length + v.length, List.take_of_length_le (by omega), ?_⟩
      have := (repI_c l v _ i _ h0 h1 hne (insU_c l v i h0 hi hv0 hl hv)).sub (by rw [List.length_map, hlen]) (by omega)
      rw [hlen]
      exact this
    · have hie : i = l.length := by omega
      subst hie
      have hlen : (l ++ v).length = l.length + v.length := List.length_append
      refine ⟨l ++ v, l.length + v.length, ?_, ?_⟩
      · rw [List.take_of_length_le (by omega)]; simp
      · have := (repI_c l v _ l.length _ h0 h1 hne (insE_c l v hv0 hl hv)).sub (by rw [List.length_map, hlen]) (by omega)
        rw [hlen]
        exact this
  · by_cases hj : j < l.length
    · refine ⟨midL l v i.toNat j.toNat, i.toNat + v.length + (l.length - j.toNat), ?_, repM_c l v i j h0 (by omega) hj hl hv⟩
      unfold midL
      rw [List.take_append_of_le_length (by simp only [List.length_append, List.length_take, List.length_drop]; omega), List.take_of_length_le (by simp only [List.length_append, List.length_take, List.length_drop]; omega)]
    · have hje : j = l.length := by omega
      subst hje
      refine ⟨repL l v i.toNat, i.toNat + v.length, ?_, repE_c l v i h0 (by omega) hl hv⟩
      unfold repL
      rw [List.take_append_of_le_length (by simp; omega), List.take_of_length_le (by simp; omega)]
      simp
end Go.Proofs.YtmhejcnaanocpaaGreat.A
namespace Go.Proofs.YtmhejcnaanocpaaGreat.A
set_option linter.unusedVariables false
set_option linter.unusedSimpArgs false
set_option maxRecDepth 100000
set_option maxHeartbeats 4000000
theorem copyOfD0_c (f : List Node) (p : Int) (hf : Fit f) (hp : 0 ≤ p) (hp1 : p < f.length) (hk : (atI f p).data = []) : GenC Tryz.prog 70 [⟨44, 16, []⟩] [fav f] (.agg [.os 0 f.length]) [⟨44, 16, rowsD f p .nocap⟩] := by
  refine copyOf_c f (rowsD f p .nocap) hf (by omega) (rowsD_len _ _ _) ?_ ?_ fun i h0 h1 => ?_
  · rw [List.all_eq_true]
    intro r hr
    rcases rowsD_mem hr with rfl | ⟨n, _, rfl⟩ <;> rfl
  · intro r hr
    rcases rowsD_mem hr with rfl | ⟨n, _, rfl⟩ <;> rfl
  · rw [rowsD_at f p _ hp hp1 i h0 h1]
    by_cases e : i = p
    · rw [if_pos e, ← e]
      exact copyNodeD0_c (atI f i) (hf.atI i h0 h1) (by rw [e]; exact hk)
    · rw [if_neg e]
      exact copyNode_c (atI f i) (hf.atI i h0 h1)
theorem insN_c (v : List Int) (hm : v ≠ []) (hv : v.length ≤ 1000000000) : GenC Tryz.prog 180 [⟨55, 1, []⟩] [.nocap, iav 0, .imm (.sl (v.map u16))] (.os 0 v.length) [⟨55, 1, v.map cU⟩] := by
  have hm0 : 0 < v.length := List.length_pos_iff.2 hm
  have hmv : (v.map u16).length = v.length := List.length_map _
  have hmc : (v.map cU).length = v.length := List.length_map _
  refine GenC.mk tabs Tryz.func180 95 [.tmp 6] rfl rfl rfl rfl rfl ?_; intro w0 X γ κ
  (repeat' (first | ((with_reducible show AL _ _ _ _ _); first | refine AL.ope rfl (OpOK.cutEnd (n := 0) tabs rfl rfl rfl rfl rfl (nocap_sl rfl) rfl rfl) rfl ?_ | (refine AL.step tabs rfl ?_; try dsimp only [len, List.nil_append, List.cons_append]) | refine AL.ope rfl (OpOK.len_nocap tabs rfl rfl rfl rfl rfl) rfl ?_ | refine AL.ope rfl (OpOK.append_nocap_at 0 (ie := ti55) tabs rfl rfl rfl rfl rfl (by decide) rfl rfl rfl (rows2 := v.map cU) (by simpa using hm) (srcUb tabs rfl rfl v rfl) (by simp only [ti55]; omega) (by omega)) rfl ?_ | refine AL.nil ?_ | (refine AL.op rfl (OpOK.ari64 rfl rfl rfl rfl rfl (by omega) (by omega)) ?_)) | ((with_reducible show DQ _ _ _ _ _ _); first | refine DQ.stepc (LS.val tabs rfl rfl rfl) rfl rfl rfl rfl rfl ?_ | refine DQ.stepc (LS.skip rfl rfl) rfl rfl rfl rfl rfl ?_ | refine DQ.nilM (by kernel_rfl) ?_ | refine DQ.stepc (LS.ari64 rfl rfl rfl rfl rfl rfl (by omega) (by omega)) rfl rfl rfl rfl rfl ?_) | (exfalso; omega) | refine AW.seq ?_ | refine AW.region ?_ | refine Then.norm ?_ | refine AW.skip ?_ | refine AW.condT rfl ?_ | refine AW.condF rfl ?_ | (refine AW.cond rfl (fun hc => ?_) (fun hc => ?_) <;> (try simp only [hsx] at hc) <;> (try first | (exfalso; omega) | contradiction | (exfalso; simp [dec_eq] at hc; done))) | refine AW.ret ?_ | refine Then.ret ?_ | refine AW.drawW mixed (by kernel_rfl) ?_))
  exact RG.ret 1 rfl (by show AV.os 0 (v.map cU).length = _; rw [hmc]) rfl rfl (by simp only [List.all_cons, List.all_nil, Bool.and_true, List.all_map, Function.comp_def, cU, AV.sc1, AV.sc0, all_tt]) (by simp [cxG])
theorem repN_c (v : List Int) (hm : v ≠ []) (hv : v.length ≤ 1000000000) : GenC Tryz.prog 155 [⟨55, 1, []⟩] [.nocap, iav 0, iav 0, .imm (.sl (v.map u16))] (.os 0 v.length) [⟨55, 1, v.map cU⟩] := by
  have h := insN_c v hm hv
  refine GenC.mk tabs Tryz.func155 224 [.tmp 8] rfl rfl rfl rfl rfl ?_; intro w0 X γ κ
  (repeat' (first | ((with_reducible show AL _ _ _ _ _); first | refine AL.ope rfl (OpOK.cutEnd (n := 0) tabs rfl rfl rfl rfl rfl (nocap_sl rfl) rfl rfl) rfl ?_ | (refine AL.step tabs rfl ?_; try dsimp only [len, List.nil_append, List.cons_append]) | refine AL.callG [0] 1 rfl rfl rfl rfl rfl (caps := []) rfl h rfl rfl rfl rfl rfl rfl (by simp only [List.all_cons, List.all_nil, List.all_map, Function.comp_def, cI, cB, cU, iav, bav, AV.sc1, AV.sc0, Bool.and_true, Bool.and_self, all_tt]; try rfl) rfl (hpA := [⟨55, 1, v.map cU⟩]) (by simp only [List.map_cons, List.map_nil, renB_cU]) (r' := .os 0 v.length) rfl rfl ?_ | refine AL.nil ?_ | (refine AL.op rfl (OpOK.ari64 rfl rfl rfl rfl rfl (by omega) (by omega)) ?_)) | ((with_reducible show DQ _ _ _ _ _ _); first | refine DQ.stepc (LS.val tabs rfl rfl rfl) rfl rfl rfl rfl rfl ?_ | refine DQ.stepc (LS.skip rfl rfl) rfl rfl rfl rfl rfl ?_ | refine DQ.nilM (by kernel_rfl) ?_ | refine DQ.stepc (LS.ari64 rfl rfl rfl rfl rfl rfl (by omega) (by omega)) rfl rfl rfl rfl rfl ?_) | refine AW.seq ?_ | refine AW.region ?_ | refine Then.norm ?_ | refine AW.skip ?_ | refine AW.condT rfl ?_ | refine AW.condF rfl ?_ | (refine AW.cond rfl (fun hc => ?_) (fun hc => ?_) <;> (try simp only [hsx] at hc) <;> (try first | (exfalso; omega) | contradiction | (exfalso; simp [dec_eq] at hc; done))) | refine AW.ret ?_ | refine Then.ret ?_ | refine AW.drawW mixed (by kernel_rfl) ?_))
  exact RG.ret 1 rfl rfl rfl rfl (by simp only [List.all_cons, List.all_nil, List.all_map, Function.comp_def, cI, cB, cU, iav, bav, AV.sc1, AV.sc0, Bool.and_true, Bool.and_self, all_tt]; try rfl) (by simp [cxG])
theorem at_n (f : List Node) (p : Int) (hf : Fit f) (hp : 0 ≤ p) (hp1 : p < f.length) : GenC Tryz.prog 145 [⟨44, 16, rowsD f p .nocap⟩, ⟨55, 1, []⟩] [.agg [.os 0 f.length], iav (p + 1)] (.tup [.agg (nodeRowD (atI f p) .nocap), bav true]) [⟨44, 16, rowsD f p .nocap⟩, ⟨55, 1, []⟩] := by
  have hl := hf.len
  have hR := rowsD_len f p .nocap
  have hsc : (rowsD f p .nocap).all (fun r => r.all (AV.sc1 2)) = true := rowsD_sc f _ _ 2 rfl
  have hat : atI (rowsD f p .nocap) (p + 1 - 1) = nodeRowD (atI f p) .nocap := by
    rw [show p + 1 - 1 = p by omega, rowsD_at f _ _ (by omega) (by omega) _ (by omega) (by omega), if_pos rfl]
  have gat := get_atI (by omega) (by omega) hat
  refine GenC.mk tabs Tryz.func145 22 [.cell 4 44, .tmp 5] rfl rfl rfl rfl rfl ?_; intro w0 X γ κ
  (repeat' (first | ((with_reducible show AL _ _ _ _ _); first | (refine AL.step tabs rfl ?_; try dsimp only [len, List.nil_append, List.cons_append]) | refine AL.ope rfl (OpOK.len_os (b := ⟨44, 16, rowsD f p .nocap⟩) tabs rfl rfl rfl rfl rfl rfl hR.symm) rfl ?_ | (refine AL.op rfl (OpOK.ari64 rfl rfl rfl rfl rfl (by omega) (by omega)) ?_) | refine AL.ope rfl (OpOK.index_own (b := ⟨44, 16, rowsD f p .nocap⟩) tabs rfl rfl rfl rfl rfl rfl rfl rfl hR.symm rfl (by omega) (by omega)) rfl ?_ | refine AL.ope rfl (OpOK.load_own (i := ti44) (r := nodeRowD (atI f p) .nocap) (b := ⟨44, 16, rowsD f p .nocap⟩) (row := (p + 1 - 1).toNat) tabs rfl rfl rfl rfl rfl hR.symm gat rfl) rfl ?_ | refine AL.nil ?_ | (refine AL.gsplitE rfl rfl rfl (fun hc => ?_) (fun hc => ?_) <;> (fail_if_success (exact absurd hc (by decide))) <;> (try simp only [hsx] at hc) <;> (try first | (exfalso; omega) | contradiction | (exfalso; simp [dec_eq] at hc; done))) | (refine AL.op rfl (OpOK.ari64 rfl rfl rfl rfl rfl (by omega) (by omega)) ?_) | (refine AL.op rfl (OpOK.index_map tabs rfl rfl rfl rfl rfl rfl rfl (fun _ => rfl) (by decide) (by omega) (by omega)) ?_)) | refine AW.seq ?_ | refine AW.region ?_ | refine Then.norm ?_ | refine AW.skip ?_ | refine AW.condT rfl ?_ | refine AW.condF rfl ?_ | (refine AW.cond rfl (fun hc => ?_) (fun hc => ?_) <;> (try simp only [hsx] at hc) <;> (try first | (exfalso; omega) | contradiction | (exfalso; simp [dec_eq] at hc; done))) | refine AW.ret ?_ | refine Then.ret ?_))
  all_goals first
    | (exfalso; omega)
    | (refine RG.ret 2 rfl rfl rfl rfl ?_ (by simp [cxG])
       simp only [List.all_cons, List.all_nil, Bool.and_true, Bool.and_eq_true]
       exact hsc)
theorem fdataN_c (f : List Node) (c : Change) (all : List Int) (m : Nat) (hf : Fit f) (h1 : 1 ≤ c.node) (h2 : c.node ≤ f.length) (hd : (traitsOf (atI f (c.node - 1)).kind).data = true)
    (ho0 : 0 ≤ c.offset) (hc0 : 0 ≤ c.count) (hoc : c.offset + c.count ≤ (atI f (c.node - 1)).data.length) (hde : (atI f (c.node - 1)).data = [])
    (hrep : GenC Tryz.prog 155 [⟨55, 1, []⟩] [.nocap, iav c.offset, iav (c.offset + c.count), .imm (.sl (c.data.map u16))] (.sub 0 all.length 0 m) [⟨55, 1, all.map cU⟩]) :
    GenC Tryz.prog 120 [⟨24, 1, [[.os 1 f.length]]⟩, ⟨44, 16, rowsD f (c.node - 1) .nocap⟩, ⟨55, 1, []⟩] [.ptr 0 1 0 0, c.av] (bav true)
      [⟨24, 1, [[.os 1 f.length]]⟩, ⟨44, 16, rowsD f (c.node - 1) (.sub 2 all.length 0 m)⟩, ⟨55, 1, all.map cU⟩] := by
  have hl := hf.len
  obtain ⟨nd, hnd⟩ : ∃ nd, nd = atI f (c.node - 1) := ⟨_, rfl⟩
  have hfn : nd.data.length ≤ 1000000000 := by rw [hnd]; exact (hf.atI (c.node - 1) (by omega) (by omega)).data
  have hR := rowsD_len f (c.node - 1) .nocap
  have hat := at_n f (c.node - 1) hf (by omega) (by omega)
  rw [show c.node - 1 + 1 = c.node by omega, ← hnd] at hat
  have hpar : atI (rowsD f (c.node - 1) .nocap) (c.node - 1) = nodeRowD nd .nocap := by
    rw [rowsD_at f _ _ (by omega) (by omega) _ (by omega) (by omega), if_pos rfl, hnd]
  have gpar := get_atI (by omega) (by omega) hpar
  rw [hde] at hoc
  have hoc0 : c.offset + c.count ≤ 0 := hoc
  have hoff : c.offset = 0 := by omega
  have hcnt : c.count = 0 := by omega
  rw [← hnd] at hd
  have hset : (rowsD f (c.node - 1) .nocap).set (c.node - 1).toNat (nodeRowD nd (.sub 2 all.length 0 m)) = rowsD f (c.node - 1) (.sub 2 all.length 0 m) := by
    unfold rowsD
    rw [List.set_set, hnd]
  have hsc : ∀ k, 3 ≤ k → (rowsD f (c.node - 1) .nocap).all (fun r => r.all (AV.sc1 k)) = true := fun k hk => rowsD_sc f _ _ k rfl
  refine GenC.mk tabs Tryz.func120 75 [.tmp 4] rfl rfl rfl rfl rfl ?_; intro w0 X γ κ
  refine AW.reserve 44 16 rfl ?_
  (repeat' (first | ((with_reducible show AL _ _ _ _ _); first | (refine AL.step tabs rfl ?_; try dsimp only [len, List.nil_append, List.cons_append]) | refine AL.op rfl (OpOK.call rfl rfl rfl rfl (traits_c nd.kind) rfl) ?_ | refine AL.ope rfl (OpOK.len_nocap tabs rfl rfl rfl rfl rfl) rfl ?_ | refine AL.nil ?_ | (refine AL.gsplitE rfl rfl rfl (fun hc => ?_) (fun hc => ?_) <;> (fail_if_success (exact absurd hc (by decide))) <;> (try simp only [hsx] at hc) <;> (try first | (exfalso; omega) | contradiction | (exfalso; simp [dec_eq] at hc; done))) | (refine AL.op rfl (OpOK.ari64 rfl rfl rfl rfl rfl (by omega) (by omega)) ?_) | (refine AL.op rfl (OpOK.index_map tabs rfl rfl rfl rfl rfl rfl rfl (fun _ => rfl) (by decide) (by omega) (by omega)) ?_)) | ((with_reducible show DQ _ _ _ _ _ _); first | refine DQ.stepc (LS.alloc 3 tabs rfl rfl rfl rfl rfl rfl) rfl rfl rfl rfl rfl ?_ | refine DQ.stepc (LS.store (i := ti44) (v := .agg (nodeRowD nd .nocap)) (ty := 44) (sz := 16) (rows := [ti44.zero]) (r := ti44.zero) tabs rfl rfl rfl rfl rfl rfl rfl rfl rfl rfl (Nat.le_of_ble_eq_true rfl) rfl) rfl rfl rfl rfl rfl ?_ | refine DQ.stepc (LS.index_own (b := ⟨44, 16, rowsD f (c.node - 1) .nocap⟩) tabs rfl rfl rfl rfl rfl rfl rfl rfl rfl hR.symm rfl (by omega) (by omega)) rfl rfl rfl rfl rfl ?_ | refine DQ.stepc (LS.fieldAddr (b := ⟨44, 16, rowsD f (c.node - 1) .nocap⟩) tabs rfl rfl rfl rfl rfl rfl rfl rfl rfl hR.symm) rfl rfl rfl rfl rfl ?_ | refine DQ.stepc (LS.store (i := ti36) (v := .sub 2 all.length 0 m) (ty := 44) (sz := 16) (rows := rowsD f (c.node - 1) .nocap) (r := nodeRowD nd .nocap) tabs rfl rfl rfl rfl rfl rfl rfl hR.symm rfl rfl (by decide) gpar) rfl rfl rfl rfl rfl ?_ | refine DQ.stepc (LS.val tabs rfl rfl rfl) rfl rfl rfl rfl rfl ?_ | refine DQ.stepc (LS.skip rfl rfl) rfl rfl rfl rfl rfl ?_ | refine DQ.nilM (by kernel_rfl) ?_ | refine DQ.stepc (LS.ari64 rfl rfl rfl rfl rfl rfl (by omega) (by omega)) rfl rfl rfl rfl rfl ?_ | refine DQ.stepc (LS.index_map tabs rfl rfl rfl rfl rfl rfl rfl rfl (fun _ => rfl) (by decide) (by omega) (by omega)) rfl rfl rfl rfl rfl ?_ | (refine DQ.gsplitE rfl rfl rfl (fun hc => ?_) (fun hc => ?_) <;> (fail_if_success (exact absurd hc (by decide))) <;> (try simp only [hsx] at hc) <;> (try first | (exfalso; omega) | contradiction | (exfalso; simp [dec_eq] at hc; done)))) | ((with_reducible show M2.DQ _ _ _ _ _ _); first | refine M2.DQ.step2 (M2.LS.callG [1, 2] (caps := []) rfl rfl rfl rfl rfl hat (fun _ => rfl) (bs := [⟨44, 16, rowsD f (c.node - 1) .nocap⟩, ⟨55, 1, []⟩]) rfl (fun n => by simp only [List.map_cons, List.map_nil, rowsD_ren]; rfl) rfl rfl (by simp only [List.all_cons, List.all_nil, Bool.and_true, Bool.and_eq_true]; exact rowsD_sc _ _ _ _ rfl) rfl (by simp only [List.all_cons, List.all_nil, Bool.and_true, Bool.and_eq_true]; exact rowsD_sc _ _ _ _ rfl) rfl (hpA := [⟨44, 16, rowsD f (c.node - 1) .nocap⟩, ⟨55, 1, []⟩]) (fun n => by simp only [List.map_cons, List.map_nil, rowsD_ren]; rfl) (r' := .tup [.agg (nodeRowD nd .nocap), bav true]) (fun _ => rfl)) rfl rfl rfl rfl rfl ?_ | refine M2.DQ.step2 (M2.LS.callG [2] (caps := []) rfl rfl rfl rfl rfl hrep (fun _ => rfl) (bs := [⟨55, 1, []⟩]) rfl (fun n => rfl) rfl rfl rfl rfl (by simp only [List.all_cons, List.all_nil, List.all_map, Function.comp_def, cI, cB, cU, iav, bav, AV.sc1, AV.sc0, Bool.and_true, Bool.and_self, all_tt]; try rfl) rfl (hpA := [⟨55, 1, all.map cU⟩]) (fun n => by simp only [List.map_cons, List.map_nil, renB_cU]) (r' := .sub 2 all.length 0 m) (fun _ => rfl)) rfl rfl rfl rfl rfl ?_ | refine M2.DQ.stepc (LS.alloc 3 tabs rfl rfl rfl rfl rfl rfl) rfl rfl rfl rfl rfl ?_ | refine M2.DQ.stepc (LS.store (i := ti44) (v := .agg (nodeRowD nd .nocap)) (ty := 44) (sz := 16) (rows := [ti44.zero]) (r := ti44.zero) tabs rfl rfl rfl rfl rfl rfl rfl rfl rfl rfl (Nat.le_of_ble_eq_true rfl) rfl) rfl rfl rfl rfl rfl ?_ | refine M2.DQ.stepc (LS.index_own (b := ⟨44, 16, rowsD f (c.node - 1) .nocap⟩) tabs rfl rfl rfl rfl rfl rfl rfl rfl rfl hR.symm rfl (by omega) (by omega)) rfl rfl rfl rfl rfl ?_ | refine M2.DQ.stepc (LS.fieldAddr (b := ⟨44, 16, rowsD f (c.node - 1) .nocap⟩) tabs rfl rfl rfl rfl rfl rfl rfl rfl rfl hR.symm) rfl rfl rfl rfl rfl ?_ | refine M2.DQ.stepc (LS.store (i := ti36) (v := .sub 2 all.length 0 m) (ty := 44) (sz := 16) (rows := rowsD f (c.node - 1) .nocap) (r := nodeRowD nd .nocap) tabs rfl rfl rfl rfl rfl rfl rfl hR.symm rfl rfl (by decide) gpar) rfl rfl rfl rfl rfl ?_ | refine M2.DQ.stepc (LS.val tabs rfl rfl rfl) rfl rfl rfl rfl rfl ?_ | refine M2.DQ.stepc (LS.skip rfl rfl) rfl rfl rfl rfl rfl ?_ | refine M2.DQ.nilM (by kernel_rfl) ?_ | refine M2.DQ.stepc (LS.ari64 rfl rfl rfl rfl rfl rfl (by omega) (by omega)) rfl rfl rfl rfl rfl ?_ | refine M2.DQ.stepc (LS.index_map tabs rfl rfl rfl rfl rfl rfl rfl rfl (fun _ => rfl) (by decide) (by omega) (by omega)) rfl rfl rfl rfl rfl ?_ | (refine M2.DQ.gsplitE rfl rfl rfl (fun hc => ?_) (fun hc => ?_) <;> (fail_if_success (exact absurd hc (by decide))) <;> (try simp only [hsx] at hc) <;> (try first | (exfalso; omega) | contradiction | (exfalso; simp [dec_eq] at hc; done)))) | (exfalso; omega) | refine M2.drawW (id := 1) mixed (by kernel_rfl) ?_ | refine M2.drawW (id := 4) mixed (by kernel_rfl) ?_ | refine AW.seq ?_ | refine AW.region ?_ | refine Then.norm ?_ | refine AW.skip ?_ | refine AW.condT rfl ?_ | refine AW.condF rfl ?_ | (refine AW.cond rfl (fun hc => ?_) (fun hc => ?_) <;> (try simp only [hsx] at hc) <;> (try first | (exfalso; omega) | contradiction | (exfalso; simp [dec_eq] at hc; done))) | refine AW.ret ?_ | refine Then.ret ?_ | refine AW.drawW mixed (by kernel_rfl) ?_))
  all_goals first
    | (exfalso; omega)
    | (refine RG.ret 3 rfl rfl (by rw [← hset]; rfl) rfl ?_ (by simp [cxG])
       simp only [List.all_cons, List.all_nil, Bool.and_true, Bool.and_eq_true]
       exact ⟨rfl, rowsD_sc _ _ _ _ rfl, (by simp only [List.all_cons, List.all_nil, List.all_map, Function.comp_def, cI, cB, cU, iav, bav, AV.sc1, AV.sc0, Bool.and_true, Bool.and_self, all_tt]; try rfl)⟩)
    | (exfalso; rw [hd] at hc; cases hc)
theorem doneN_c (f : List Node) (c : Change) (all : List Int) (m : Nat) (hf : Fit f) (hck : c.kind = 5) (hcp : plainDa c = c) (hdl : c.data.length ≤ 1000000000) (h1 : 1 ≤ c.node) (h2 : c.node ≤ f.length) (hd : (traitsOf (atI f (c.node - 1)).kind).data = true)
    (ho0 : 0 ≤ c.offset) (hc0 : 0 ≤ c.count) (hoc : c.offset + c.count ≤ (atI f (c.node - 1)).data.length) (hne : (atI f (c.node - 1)).data = []) (hnl : (all.take m).length ≤ 1000000000)
    (hrep : GenC Tryz.prog 155 [⟨55, 1, []⟩] [.nocap, iav c.offset, iav (c.offset + c.count), .imm (.sl (c.data.map u16))] (.sub 0 all.length 0 m) [⟨55, 1, all.map cU⟩]) :
    PureC Tryz.prog 71 [fav f, c.av] (.tup [fav (doneW f c.node (all.take m)).1, iav (doneW f c.node (all.take m)).2]) := by
  have hsame : PureC Tryz.prog 96 [c.av, (plainDa c).av] (bav true) := by
    rw [hcp]
    exact sameSelf_c c hdl (by rw [← hcp]; exact fit0) (by rw [← hcp]; simp [plainDa, c0]) (by rw [← hcp]; simp [plainDa, c0]) (by omega) (by omega)
  have hins := fdataN_c f c all m hf h1 h2 hd ho0 hc0 hoc hne hrep
  have hfst : ∀ j : Nat, j < 4 → stepKeys[j]? ≠ some c.kind := by
    intro j hj
    rw [hck]
    match j, hj with
    | 0, _ => decide
    | 1, _ => decide
    | 2, _ => decide
    | 3, _ => decide
  have hfi : Fit (datF f c.node (all.take m)) := by
    have := hf.atI (c.node - 1) (by omega) (by omega)
    exact upd_fit hf ⟨hnl, this.attrs, this.kids⟩
  have fzW : ∀ {C : Cx} {s : St}, nth s.hp 0 = some ⟨44, 16, rowsD f (c.node - 1) (.sub 1 all.length 0 m)⟩ → nth s.hp 1 = some ⟨55, 1, all.map cU⟩ → Fz C s (.agg [.os 0 f.length]) (fav (datF f c.node (all.take m))) := by
    intro C s g1 g2
    exact fzD (by omega) (by omega) g1 g2
  refine PureC.mk tabs Tryz.func71 51 [.cell 4 24, .tmp 5] rfl rfl rfl rfl rfl ?_; intro w0 X
  refine AW.reserve 44 16 rfl ?_
  refine AW.reserve 55 1 rfl ?_
  refine AW.reserve 126 4 rfl ?_
  (repeat' (first | ((with_reducible show AL _ _ _ _ _); first | (refine AL.step tabs rfl ?_; try dsimp only [len, List.nil_append, List.cons_append]) | refine AL.callG [0] 6 rfl rfl rfl rfl rfl (caps := []) rfl (copyOfD0_c f (c.node - 1) hf (by omega) (by omega) hne) rfl rfl rfl rfl rfl rfl (by simp only [List.all_cons, List.all_nil, Bool.and_true]; exact rowsD_sc _ _ _ _ rfl) rfl (hpA := [⟨44, 16, rowsD f (c.node - 1) .nocap⟩]) (by simp only [List.map_cons, List.map_nil, rowsD_ren]; rfl) (r' := .agg [.os 0 f.length]) rfl rfl ?_ | refine AL.callG [6, 0, 1] 7 rfl rfl rfl rfl rfl (caps := []) rfl hins rfl (by simp only [List.map_cons, List.map_nil, rowsD_ren]; rfl) rfl rfl (by simp only [List.all_cons, List.all_nil, Bool.and_true, Bool.and_eq_true]; exact ⟨rfl, rowsD_sc _ _ _ _ rfl⟩) rfl (by simp only [List.all_cons, List.all_nil, Bool.and_true, Bool.and_eq_true]; exact ⟨rfl, rowsD_sc _ _ _ _ rfl, (by simp only [List.all_cons, List.all_nil, List.all_map, Function.comp_def, cI, cB, cU, iav, bav, AV.sc1, AV.sc0, Bool.and_true, Bool.and_self, all_tt]; try rfl)⟩) rfl (hpA := [⟨24, 1, [[.os 0 f.length]]⟩, ⟨44, 16, rowsD f (c.node - 1) (.sub 1 all.length 0 m)⟩, ⟨55, 1, all.map cU⟩]) (by simp only [List.map_cons, List.map_nil, rowsD_ren, renB_cU]; rfl) (r' := bav true) rfl rfl ?_ | refine AL.op rfl (OpOK.callsc rfl rfl rfl rfl (.cons (fzW rfl rfl) .nil) (right_c (datF f c.node (all.take m)) hfi) rfl) ?_ | refine AL.nil ?_ | (refine AL.gsplitE rfl rfl rfl (fun hc => ?_) (fun hc => ?_) <;> (fail_if_success (exact absurd hc (by decide))) <;> (try simp only [hsx] at hc) <;> (try first | (exfalso; omega) | contradiction | (exfalso; simp [dec_eq] at hc; done)))) | ((with_reducible show DQ _ _ _ _ _ _); first | refine DQ.stepc (LS.call rfl rfl rfl rfl rfl steps_c rfl) rfl rfl rfl rfl rfl ?_ | refine DQ.stepc (LS.lookOk (kf := k8) (q := c.kind) (xs := stepKeys) (i := 4) (v := [.fn 119, .fn 120, .bool false, .fn 121]) key56 Tryz.underlying128 zero126 rfl rfl rfl rfl rfl rfl (by rw [hck]; rfl) hfst rfl) rfl rfl rfl rfl rfl ?_ | refine DQ.stepc (LS.alloc 2 tabs rfl rfl rfl rfl rfl rfl) rfl rfl rfl rfl rfl ?_ | refine DQ.stepc (LS.store (i := ti126) (v := .agg [.imm (.fn 119), .imm (.fn 120), .imm (.bool false), .imm (.fn 121)]) (ty := 126) (sz := 4) (rows := [ti126.zero]) (r := ti126.zero) tabs rfl rfl rfl rfl rfl rfl rfl rfl rfl rfl (Nat.le_of_ble_eq_true rfl) rfl) rfl rfl rfl rfl rfl ?_ | refine DQ.stepc (LS.call rfl rfl rfl rfl rfl (plainData_c c) rfl) rfl rfl rfl rfl rfl ?_ | refine DQ.stepc (LS.call rfl rfl rfl rfl rfl hsame rfl) rfl rfl rfl rfl rfl ?_ | refine DQ.stepc (LS.val tabs rfl rfl rfl) rfl rfl rfl rfl rfl ?_ | refine DQ.stepc (LS.skip rfl rfl) rfl rfl rfl rfl rfl ?_ | refine DQ.nilM (by kernel_rfl) ?_ | (refine DQ.gsplitE rfl rfl rfl (fun hc => ?_) (fun hc => ?_) <;> (fail_if_success (exact absurd hc (by decide))) <;> (try simp only [hsx] at hc) <;> (try first | (exfalso; omega) | contradiction | (exfalso; simp [dec_eq] at hc; done)))) | refine AW.seq ?_ | refine AW.region ?_ | refine Then.norm ?_ | refine AW.skip ?_ | refine AW.condT rfl ?_ | refine AW.condF rfl ?_ | (refine AW.cond rfl (fun hc => ?_) (fun hc => ?_) <;> (try simp only [hsx] at hc) <;> (try first | (exfalso; omega) | contradiction | (exfalso; simp [dec_eq] at hc; done))) | refine AW.ret ?_ | refine Then.ret ?_ | refine AW.drawW mixed (by kernel_rfl) ?_))
  all_goals first
    | (rw [show doneW f c.node (all.take m) = ([], 2) by unfold doneW; rw [if_neg (by rw [dec_true]; exact hc)]]; exact RQ.fin rfl rfl rfl)
    | (rw [show doneW f c.node (all.take m) = (datF f c.node (all.take m), 0) by unfold doneW; rw [if_pos (by rw [dec_true]; exact hc)]]; exact RQ.ret rfl (Fz.tup (.cons (fzW rfl rfl) (.cons (Fz.im rfl) .nil))))
end Go.Proofs.YtmhejcnaanocpaaGreat.A
namespace Go.Proofs.YtmhejcnaanocpaaGreat.A
set_option linter.unusedVariables false
set_option linter.unusedSimpArgs false
set_option maxRecDepth 100000
set_option maxHeartbeats 4000000
def repD (l : List Int) (off cnt : Int) (v : List Int) : List Int := l.take off.toNat ++ v ++ l.drop (off + cnt).toNat
noncomputable def doneG (f : List Node) (c : Change) : List Node × Int :=
  if c.kind = 1 then doneM f c.made
  else if c.kind = 2 then doneA f c
  else if c.kind = 5 then doneW f c.node (repD (atI f (c.node - 1)).data c.offset c.count c.data)
  else if c.kind = 8 then (if ([c.node, c.other].all fun h => inB f h) = true then (f, 0) else ([], 2))
  else (if dec (treeP f c) = true then (f, 0) else ([], 2))
def daCh (node off cnt : Int) (v : List Int) : Change := { c0 with kind := 5, node := node, offset := off, count := cnt, data := v }
/-- the changes that are spoken of here. -/
inductive CanCh (f : List Node) : Change → Prop
  | mk (n : Node) (hn : FitN n) (h12 : n.kind ≠ 12) : CanCh f (mkCh (f.length + 1) n)
  | ins (x p i : Int) (hx : inR f x) (hp : inR f p) (h0 : 0 ≤ i) (h1 : i ≤ (nodeAt f p).kids.length) (hp0 : (nodeAt f x).parent = 0) : CanCh f (inCh x p i)
  | dat (h off cnt : Int) (v : List Int) (hh : inR f h) (hd : (traitsOf (nodeAt f h).kind).data = true) (h0 : 0 ≤ off) (h1 : 0 ≤ cnt) (h2 : off + cnt ≤ (nodeAt f h).data.length) (hv : v.length ≤ 1000000) (ho : ((nodeAt f h).data.length : Int) - cnt + v.length ≤ 1000000) : CanCh f (daCh h off cnt v)
  | spl (a b c : Int) : CanCh f (splitCh a b c)
  | tree (a b c d : Int) : CanCh f (treeCh a b c d)
theorem repD_end (l : List Int) (off cnt : Int) (v : List Int) (h0 : 0 ≤ off) (h2 : off + cnt = l.length) (h1 : 0 ≤ cnt) : repD l off cnt v = l.take off.toNat ++ v := by
  unfold repD
  rw [List.drop_eq_nil_of_le (by omega), List.append_nil]
theorem node_same {f : List Node} {h : Int} (hh : inR f h) : datF f h (atI f (h - 1)).data = f := by
  unfold datF updAt
  have h1 := hh.1
  have h2 := hh.2
  have := set_same f (h - 1) (by omega) (by omega)
  exact this
theorem doneG_c (f : List Node) (c : Change) (hf : Fit f) (hr : rightP f) (h0 : 0 < f.length) (hc : CanCh f c) : PureC Tryz.prog 71 [fav f, c.av] (.tup [fav (doneG f c).1, iav (doneG f c).2]) := by
  cases hc with
  | mk n hn h12 =>
    rw [show doneG f (mkCh (f.length + 1) n) = doneM f n from rfl]
    exact doneM_c f n hf hn h0 h12
  | ins x p i hx hp i0 i1 hp0 =>
    rw [show doneG f (inCh x p i) = doneA f (inCh x p i) from rfl]
    have h1 := hx.1
    have h2 := hx.2
    have h3 := hp.1
    have h4 := hp.2
    rw [node_in hp] at i1
    rw [node_in hx] at hp0
    have hkl := (hf.atI (p - 1) (by omega) (by omega)).kids
    have hfew := right_few hr p
    rw [node_in hp] at hfew
    by_cases hi : i < (atI f (p - 1)).kids.length
    · exact doneIM_c f (inCh x p i) hf h0 rfl rfl (by show (atI f (p - 1)).kids.length < _; omega) h1 h2 h3 h4 i0 hi hp0
    · have hi' : i = (atI f (p - 1)).kids.length := by omega
      have e : doneA f (inCh x p i) = doneI f (inCh x p i) := by
        unfold doneA doneI
        rw [show insFM f (inCh x p i).node (inCh x p i).parent (inCh x p i).index = insF f (inCh x p i).node (inCh x p i).parent by rw [show (inCh x p i).index = (atI f ((inCh x p i).parent - 1)).kids.length from hi']; exact insFM_end _ _ _]
      rw [e]
      by_cases hk : (atI f (p - 1)).kids = []
      · exact doneI0_c f (inCh x p i) hf h0 rfl rfl (by show (atI f (p - 1)).kids.length < _; omega) h1 h2 h3 h4 hi' hk hp0
      · exact doneIK_c f (inCh x p i) hf h0 rfl rfl (by show (atI f (p - 1)).kids.length < _; omega) h1 h2 h3 h4 hi' hk hp0
  | dat h off cnt v hh hd o0 c0' oc hv ho =>
    rw [show doneG f (daCh h off cnt v) = doneW f h (repD (atI f (h - 1)).data off cnt v) from rfl]
    rw [node_in hh] at hd oc ho
    have h1 := hh.1
    have h2 := hh.2
    have hdl := (hf.atI (h - 1) (by omega) (by omega)).data
    by_cases hc0 : 0 < cnt ∨ v ≠ []
    · by_cases hne : (atI f (h - 1)).data = []
      · rw [hne] at oc ho
        have hoff : off = 0 := by simp at oc; omega
        have hcnt : cnt = 0 := by simp at oc; omega
        subst hoff hcnt
        have hv0 : v ≠ [] := by
          rcases hc0 with h' | h'
          · omega
          · exact h'
        have hvp : 0 < v.length := List.length_pos_iff.2 hv0
        have hrep := (repN_c v hv0 (by omega)).sub (by simp) hvp
        have := doneN_c f (daCh h 0 0 v) v v.length hf rfl rfl (by show v.length ≤ _; omega) h1 h2 hd o0 c0' (by show (0 : Int) + 0 ≤ _; omega) hne (by rw [List.take_of_length_le (Nat.le_refl _)]; omega) hrep
        rw [List.take_of_length_le (Nat.le_refl _), show (daCh h 0 0 v).node = h from rfl] at this
        rw [hne, show repD [] 0 0 v = v by simp [repD]]
        exact this
      · obtain ⟨all, m, ht, hrep⟩ := rep_all (atI f (h - 1)).data v off (off + cnt) o0 (by omega) oc hne (by
          rcases hc0 with h' | h'
          · exact .inl (by omega)
          · exact .inr h') hdl (by omega)
        have hlen : (all.take m).length ≤ 1000000000 := by
          rw [ht]
          simp only [List.length_append, List.length_take, List.length_drop]
          omega
        have := doneD_c f (daCh h off cnt v) all m hf rfl rfl (by show v.length ≤ _; omega) h1 h2 hd o0 c0' oc hne hlen hrep
        rw [ht, show (daCh h off cnt v).node = h from rfl] at this
        exact this
    · have hc00 : cnt = 0 := by
        have : ¬ 0 < cnt := fun h => hc0 (.inl h)
        omega
      have hv0 : v = [] := Classical.byContradiction fun h => hc0 (.inr h)
      subst hc00 hv0
      have e : repD (atI f (h - 1)).data off 0 [] = (atI f (h - 1)).data := by
        unfold repD
        simp
      rw [e]
      have e2 : doneW f h (atI f (h - 1)).data = (f, 0) := by
        unfold doneW
        rw [node_same hh, if_pos (by rw [dec_true]; exact hr)]
      rw [e2]
      exact doneSame f (daCh h off 0 []) hf h0 hr rfl rfl h1 h2 hd o0 rfl (by show off ≤ (atI f (h - 1)).data.length; omega) rfl
  | spl a b c =>
    have := doneP_c f (splitCh a b c) _ hf h0 hr rfl rfl (pair_c f (splitCh a b c) hf.len)
    rw [show doneG f (splitCh a b c) = (if ([a, b].all fun h => inB f h) = true then (f, 0) else ([], 2)) from rfl]
    cases e : [a, b].all fun h => inB f h with
    | true => rw [show ([(splitCh a b c).node, (splitCh a b c).other].all fun h => inB f h) = true from e] at this; exact this
    | false => rw [show ([(splitCh a b c).node, (splitCh a b c).other].all fun h => inB f h) = false from e] at this; exact this
  | tree a b c d =>
    have := doneT_c f (treeCh a b c d) _ hf h0 hr rfl rfl (by simp [treeCh]) (by simp [treeCh, c0]) (tree_c f (treeCh a b c d) hf.len (by simp [treeCh]) (by simp [treeCh, c0]))
    rw [show doneG f (treeCh a b c d) = (if dec (treeP f (treeCh a b c d)) = true then (f, 0) else ([], 2)) from rfl]
    cases e : dec (treeP f (treeCh a b c d)) with
    | true => rw [e] at this; exact this
    | false => rw [e] at this; exact this
end Go.Proofs.YtmhejcnaanocpaaGreat.A
namespace Go.Proofs.YtmhejcnaanocpaaGreat.A
set_option linter.unusedVariables false
set_option linter.unusedSimpArgs false
set_option maxRecDepth 100000
set_option maxHeartbeats 4000000
noncomputable def doS (p : PS) (c : Change) : PS × Bool :=
  if p.why ≠ 0 then (p, false) else if (doneG p.F c).2 ≠ 0 then (⟨p.F, p.L, (doneG p.F c).2⟩, false) else (⟨(doneG p.F c).1, p.L ++ [c], 0⟩, true)
noncomputable def putS (p : PS) (h off cnt : Int) (v : List Int) : PS :=
  if (replP (nodeAt p.F h).data off cnt v).2 ≠ 0 then refP p (replP (nodeAt p.F h).data off cnt v).2 else (doS p (putC p.F h off cnt v)).1
structure InvP (p : PS) : Prop where
  fit : Fit p.F
  right : rightP p.F
  pos : 0 < p.F.length
  chs : ∀ c ∈ p.L, FitC c
theorem insFM_fit' (f : List Node) {x p i : Int} (hf : Fit f) (hr : rightP f) (hx : inR f x) (hp : inR f p) (i0 : 0 ≤ i) (i1 : i ≤ (nodeAt f p).kids.length) : Fit (insFM f x p i) := by
  have hfew := right_few hr p
  rw [node_in hp] at hfew i1
  exact insFM_fit f (inCh x p i) hf hx.1 hx.2 hp.1 hp.2 i0 i1 (by show (atI f (p - 1)).kids.length < _; omega)
theorem doneG_ok {f : List Node} {c : Change} (hf : Fit f) (hr : rightP f) (h0 : 0 < f.length) (hc : CanCh f c) (hw : (doneG f c).2 = 0) : Fit (doneG f c).1 ∧ rightP (doneG f c).1 ∧ f.length ≤ (doneG f c).1.length ∧ FitC c := by
  cases hc with
  | mk n hn h12 =>
    rw [show doneG f (mkCh (f.length + 1) n) = doneM f n from rfl] at hw ⊢
    unfold doneM at hw ⊢
    by_cases h1 : 4096 ≤ f.length
    · rw [if_pos h1] at hw; cases hw
    · rw [if_neg h1] at hw ⊢
      split at hw
      · rename_i h2
        rw [if_pos h2]
        rw [dec_true] at h2
        exact ⟨hf.snoc (by omega) hn, h2, by simp, ⟨by simp [mkCh, c0], hn, by simp [mkCh, c0], by simp [mkCh, c0]⟩⟩
      · cases hw
  | ins x p i hx hp i0 i1 hp0 =>
    rw [show doneG f (inCh x p i) = doneA f (inCh x p i) from rfl] at hw ⊢
    unfold doneA at hw ⊢
    split at hw
    · rename_i h2
      rw [if_pos h2]
      rw [dec_true] at h2
      exact ⟨insFM_fit' f hf hr hx hp i0 i1, h2, by rw [insFM_len]; exact Nat.le_refl _, ⟨by simp [inCh, c0], fit0, by simp [inCh, c0], by simp [inCh, c0]⟩⟩
    · cases hw
  | dat h off cnt v hh hd o0 c0' oc hv ho =>
    rw [show doneG f (daCh h off cnt v) = doneW f h (repD (atI f (h - 1)).data off cnt v) from rfl] at hw ⊢
    unfold doneW at hw ⊢
    split at hw
    · rename_i h2
      rw [if_pos h2]
      rw [dec_true] at h2
      have h1 := hh.1
      have h3 := hh.2
      have := hf.atI (h - 1) (by omega) (by omega)
      refine ⟨upd_fit hf ⟨?_, this.attrs, this.kids⟩, h2, by unfold datF; rw [upd_len]; exact Nat.le_refl _, ⟨by show v.length ≤ _; omega, fit0, by simp [daCh, c0], by simp [daCh, c0]⟩⟩
      rw [node_in hh] at oc ho
      unfold repD
      simp only [List.length_append, List.length_take, List.length_drop]
      omega
    · cases hw
  | spl a b c =>
    rw [show doneG f (splitCh a b c) = (if ([a, b].all fun h => inB f h) = true then (f, 0) else ([], 2)) from rfl] at hw ⊢
    split at hw
    · rename_i h2
      rw [if_pos h2]
      exact ⟨hf, hr, Nat.le_refl _, ⟨by simp [splitCh, c0], fit0, by simp [splitCh, c0], by simp [splitCh, c0]⟩⟩
    · cases hw
  | tree a b c d =>
    rw [show doneG f (treeCh a b c d) = (if dec (treeP f (treeCh a b c d)) = true then (f, 0) else ([], 2)) from rfl] at hw ⊢
    split at hw
    · rename_i h2
      rw [if_pos h2]
      exact ⟨hf, hr, Nat.le_refl _, ⟨by simp [treeCh, c0], fit0, by simp [treeCh], by simp [treeCh, c0]⟩⟩
    · cases hw
theorem doS_R {p : PS} {c : Change} (hp : InvP p) (hc : p.why = 0 → CanCh p.F c) : DoR p c (doS p c).1 (doS p c).2 := by
  unfold doS
  by_cases h0 : p.why = 0
  · rw [if_neg (by omega)]
    have hd := apply_c p.F _ c _ hp.fit hp.right (doneG_c p.F c hp.fit hp.right hp.pos (hc h0))
    by_cases hw : (doneG p.F c).2 = 0
    · rw [if_neg (by omega)]
      rw [hw] at hd
      exact .ok p c _ h0 hd
    · rw [if_pos hw]
      exact .bad p c _ _ h0 hw hd
  · rw [if_pos h0]
    exact .stop p c h0
theorem doS_inv {p : PS} {c : Change} (hp : InvP p) (hc : p.why = 0 → CanCh p.F c) : InvP (doS p c).1 := by
  unfold doS
  by_cases h0 : p.why = 0
  · rw [if_neg (by omega)]
    by_cases hw : (doneG p.F c).2 = 0
    · rw [if_neg (by omega)]
      obtain ⟨h1, h2, h3, h4⟩ := doneG_ok hp.fit hp.right hp.pos (hc h0) hw
      exact ⟨h1, h2, Nat.lt_of_lt_of_le hp.pos h3, fun d hd => by
        rcases List.mem_append.1 hd with h | h
        · exact hp.chs d h
        · rw [List.mem_singleton] at h; subst h; exact h4⟩
    · rw [if_pos hw]
      exact ⟨hp.fit, hp.right, hp.pos, hp.chs⟩
  · rw [if_pos h0]
    exact hp
theorem doS_len (p : PS) (c : Change) : (doS p c).1.L.length ≤ p.L.length + 1 := by
  unfold doS
  split
  · exact Nat.le_succ _
  · split
    · exact Nat.le_succ _
    · simp
theorem doS_ok {p : PS} {c : Change} (h : (doS p c).1.why = 0) : p.why = 0 ∧ (doneG p.F c).2 = 0 ∧ doS p c = (⟨(doneG p.F c).1, p.L ++ [c], 0⟩, true) := by
  unfold doS at h ⊢
  split at h
  · rename_i h1; exact absurd h h1
  · rename_i h1
    split at h
    · rename_i h2; exact absurd h h2
    · rename_i h2
      rw [if_neg h1, if_neg h2]
      exact ⟨by omega, by omega, rfl⟩
theorem doS_no {p : PS} {c : Change} (h : (doS p c).1.why ≠ 0) : (doS p c).2 = false := by
  unfold doS at h ⊢
  split at h
  · rename_i h1; rw [if_pos h1]
  · rename_i h1
    rw [if_neg h1]
    split at h
    · rename_i h2; rw [if_pos h2]
    · exact absurd rfl h
theorem doS_iff (p : PS) (c : Change) : (doS p c).2 = true ↔ (doS p c).1.why = 0 := by
  constructor
  · intro h
    apply Classical.byContradiction
    intro h2
    rw [doS_no h2] at h
    cases h
  · intro h
    rw [(doS_ok h).2.2]
/-- a text's change by putC is the data's. -/
theorem putC_da (f : List Node) (h off cnt : Int) (v : List Int) : putC f h off cnt v = daCh h off (((nodeAt f h).data.length : Int) + v.length - (replP (nodeAt f h).data off cnt v).1.length) v := rfl
theorem putS_R {p : PS} {h off cnt : Int} {v : List Int} (hp : InvP p) (hc : p.why = 0 → (replP (nodeAt p.F h).data off cnt v).2 = 0 → CanCh p.F (putC p.F h off cnt v)) : ∃ b, PutR h off cnt v p (putS p h off cnt v) b := by
  unfold putS
  by_cases h1 : (replP (nodeAt p.F h).data off cnt v).2 = 0
  · rw [if_neg (by omega)]
    exact ⟨_, .yes p _ _ h1 (doS_R hp fun h0 => hc h0 h1)⟩
  · rw [if_pos h1]
    exact ⟨_, .no p h1⟩
theorem putS_inv {p : PS} {h off cnt : Int} {v : List Int} (hp : InvP p) (hc : p.why = 0 → (replP (nodeAt p.F h).data off cnt v).2 = 0 → CanCh p.F (putC p.F h off cnt v)) : InvP (putS p h off cnt v) := by
  unfold putS
  by_cases h1 : (replP (nodeAt p.F h).data off cnt v).2 = 0
  · rw [if_neg (by omega)]
    exact doS_inv hp fun h0 => hc h0 h1
  · rw [if_pos h1]
    exact ⟨hp.fit, hp.right, hp.pos, hp.chs⟩
theorem putS_len (p : PS) (h off cnt : Int) (v : List Int) : (putS p h off cnt v).L.length ≤ p.L.length + 1 := by
  unfold putS
  split
  · exact Nat.le_succ _
  · exact doS_len _ _
theorem putS_ok {p : PS} {h off cnt : Int} {v : List Int} (hq : (putS p h off cnt v).why = 0) : p.why = 0 ∧ (replP (nodeAt p.F h).data off cnt v).2 = 0 ∧ (doneG p.F (putC p.F h off cnt v)).2 = 0 ∧ putS p h off cnt v = ⟨(doneG p.F (putC p.F h off cnt v)).1, p.L ++ [putC p.F h off cnt v], 0⟩ := by
  unfold putS at hq ⊢
  split at hq
  · rename_i h1
    unfold refP at hq
    simp only at hq
    split at hq
    · exact absurd hq h1
    · rename_i h2; exact absurd hq h2
  · rename_i h1
    rw [if_neg h1]
    obtain ⟨h2, h3, h4⟩ := doS_ok hq
    exact ⟨h2, by omega, h3, by rw [h4]⟩
-- Split
noncomputable def spl1 (f : List Node) (h off : Int) : PS × Bool := doS (pen0 f) (mkCh (f.length + 1) (restN f h off))
noncomputable def spl2 (f : List Node) (h off : Int) : PS := (doS (spl1 f h off).1 (inCh (f.length + 1) (nodeAt f h).parent (placeP f h + 1))).1
noncomputable def spl3 (f : List Node) (h off : Int) : PS := (doS (spl2 f h off) (treeCh (nodeAt f h).parent (f.length + 1) h (besideP f h 1))).1
noncomputable def spl4 (f : List Node) (h off : Int) : PS := if (spl1 f h off).2 = true ∧ (nodeAt f h).parent ≠ 0 then (doS (spl3 f h off) (splitCh h (f.length + 1) off)).1 else (spl1 f h off).1
noncomputable def splQ (f : List Node) (h off : Int) : PS := putS (spl4 f h off) h off (restL f h off).length []
theorem node_insM {f : List Node} {x p i : Int} (hx : inR f x) (hp : inR f p) (hne : x ≠ p) (k : Int) : nodeAt (insFM f x p i) k = if k = p then { nodeAt f p with kids := insAt (nodeAt f p).kids i x } else if k = x then { nodeAt f x with parent := p } else nodeAt f k := by
  have hx1 := hx.1
  have hx2 := hx.2
  have hp1 := hp.1
  have hp2 := hp.2
  have hat : ∀ j : Int, 0 ≤ j → atI (insFM f x p i) j = if j = p - 1 then { atI f (p - 1) with kids := insAt (atI f (p - 1)).kids i x } else if j = x - 1 then { atI f (x - 1) with parent := p } else atI f j := by
    intro j h0
    unfold insFM
    rw [atI_upd _ _ _ (by omega) (by rw [upd_len]; omega) _ h0]
    by_cases e : j = x - 1
    · rw [if_pos e, if_neg (by omega), if_pos e, atI_upd _ _ _ (by omega) (by omega) _ (by omega), if_neg (by omega)]
    · rw [if_neg e, atI_upd _ _ _ (by omega) (by omega) _ h0, if_neg e]
  by_cases h : inR f k
  · have h1 := h.1
    have hg : inR (insFM f x p i) k := ⟨h.1, by rw [insFM_len]; exact h.2⟩
    rw [node_in hg, hat _ (by omega), node_in hp, node_in hx, node_in h]
    by_cases e1 : k = p
    · rw [if_pos (by omega), if_pos e1]
    · rw [if_neg (by omega), if_neg e1]
      by_cases e2 : k = x
      · rw [if_pos (by omega), if_pos e2]
      · rw [if_neg (by omega), if_neg e2]
  · have hg : ¬ inR (insFM f x p i) k := fun h2 => h ⟨h2.1, by have := h2.2; rw [insFM_len] at this; exact this⟩
    rw [node_out hg, if_neg (fun e : k = p => h (by rw [e]; exact hp)), if_neg (fun e : k = x => h (by rw [e]; exact hx)), node_out h]
theorem node_dat {f : List Node} {h : Int} (hh : inR f h) (d : List Int) (k : Int) : nodeAt (datF f h d) k = if k = h then { nodeAt f h with data := d } else nodeAt f k := by
  have h1 := hh.1
  have h2 := hh.2
  have hl : (datF f h d).length = f.length := by unfold datF; rw [upd_len]
  by_cases hk : inR f k
  · have hk1 := hk.1
    have hg : inR (datF f h d) k := ⟨hk.1, by rw [hl]; exact hk.2⟩
    rw [node_in hg, node_in hk, node_in hh]
    unfold datF
    rw [atI_upd _ _ _ (by omega) (by omega) _ (by omega)]
    by_cases e : k = h
    · rw [if_pos (by omega), if_pos e]
    · rw [if_neg (by omega), if_neg e]
  · have hg : ¬ inR (datF f h d) k := fun h2 => hk ⟨h2.1, by have := h2.2; rw [hl] at this; exact this⟩
    rw [node_out hg, if_neg (fun e : k = h => hk (by rw [e]; exact hh)), node_out hk]
end Go.Proofs.YtmhejcnaanocpaaGreat.A
