/- Contracts: slices.Insert at the end, forest.ends2, forest.insert, forest.makeNode. -/
import Derived.Test.YtmhejcnaanocpaaGreatXRSGrpAL
import Derived.Test.YtmhejcnaanocpaaGreatXRSGrpAI
namespace Go.Proofs.YtmhejcnaanocpaaGreat.A
set_option linter.unusedVariables false
set_option linter.unusedSimpArgs false
set_option maxRecDepth 100000
set_option maxHeartbeats 4000000
theorem qmc (l : List Int) (x : Int) (hl : l.length ≤ 1000000000) : GenC Tryz.prog 150 [⟨3, 1, l.map cI⟩, ⟨3, 1, [cI x]⟩] [.os 0 l.length, iav l.length, .os 1 1] (.os 0 (l ++ [x]).length) [⟨3, 1, (l ++ [x]).map cI⟩, ⟨3, 1, [cI x]⟩] := by
  refine yah tabs Tryz.func150 95 [.tmp 6] rfl rfl rfl rfl rfl ?_; intro w0 X γ κ
  (repeat' (first | ((with_reducible show AL _ _ _ _ _); first | refine yae rfl (ybi (n := l.length) tabs rfl rfl rfl rfl rfl (qnw (b := ⟨3, 1, l.map cI⟩) rfl rfl (by simp)) rfl rfl) rfl ?_ | (refine yf tabs rfl ?_; try dsimp only [len, List.nil_append, List.cons_append]) | refine yae rfl (yau (b := ⟨3, 1, l.map cI⟩) tabs rfl rfl rfl rfl rfl rfl (by simp)) rfl ?_ | refine yae rfl (ybb (ie := ti3) (xs := l) (ty := 3) (sz := 1) tabs rfl rfl rfl rfl rfl rfl (g := cI) (ys := [x]) rfl rfl rfl rfl (SrcA.own tabs rfl rfl rfl (b := ⟨3, 1, [x].map cI⟩) rfl (by simp) rfl (by simp [cI, ti3]) (by simp [cI, iav, AV.cell])) (by simp [ti3]; omega) (by simp; omega)) rfl ?_ | refine yn ?_ | (refine AL.op rfl (yj rfl rfl rfl rfl rfl (by omega) (by omega)) ?_)) | ((with_reducible show DQ _ _ _ _ _ _); first | refine DQ.stepc (LS.val tabs rfl rfl rfl) rfl rfl rfl rfl rfl ?_ | refine DQ.stepc (yu rfl rfl) rfl rfl rfl rfl rfl ?_ | refine DQ.nilM (by kernel_rfl) ?_ | refine DQ.stepc (yad rfl rfl rfl rfl rfl rfl (by omega) (by omega)) rfl rfl rfl rfl rfl ?_) | refine ym ?_ | refine ya ?_ | refine yb ?_ | refine yg ?_ | refine yi rfl ?_ | refine yh rfl ?_ | (refine yk rfl (fun hc => ?_) (fun hc => ?_) <;> (try simp only [hsx] at hc) <;> (try first | omega | contradiction | (simp [qa] at hc; done))) | refine yo ?_ | refine yc ?_ | refine yr mixed (by kernel_rfl) ?_))
  refine yal 2 rfl rfl rfl rfl ?_ (by simp [cxG])
  exact (by simp only [List.all_cons, List.all_nil, List.all_map, Function.comp_def, cI, cB, iav, bav, AV.sc1, AV.sc0, Bool.and_true, Bool.and_self, qh]; try rfl)
theorem qn1 (x : Int) : GenC Tryz.prog 150 [⟨3, 1, []⟩, ⟨3, 1, [cI x]⟩] [.nocap, iav 0, .os 1 1] (.os 0 1) [⟨3, 1, [cI x]⟩, ⟨3, 1, [cI x]⟩] := by
  refine yah tabs Tryz.func150 95 [.tmp 6] rfl rfl rfl rfl rfl ?_; intro w0 X γ κ
  (repeat' (first | ((with_reducible show AL _ _ _ _ _); first | refine yae rfl (ybi (n := 0) tabs rfl rfl rfl rfl rfl (qc5 rfl) rfl rfl) rfl ?_ | (refine yf tabs rfl ?_; try dsimp only [len, List.nil_append, List.cons_append]) | refine yae rfl (ybe tabs rfl rfl rfl rfl rfl) rfl ?_ | refine yae rfl (yas 0 (ie := ti3) tabs rfl rfl rfl rfl rfl (by decide) rfl rfl rfl (rows2 := [cI x]) (by simp) (SrcA.own tabs rfl rfl rfl (b := ⟨3, 1, [cI x]⟩) rfl (by simp) rfl (by simp [cI, ti3]) (by simp [cI, iav, AV.cell])) (by simp [ti3]) (by simp)) rfl ?_ | refine yn ?_ | (refine AL.op rfl (yj rfl rfl rfl rfl rfl (by omega) (by omega)) ?_)) | ((with_reducible show DQ _ _ _ _ _ _); first | refine DQ.stepc (LS.val tabs rfl rfl rfl) rfl rfl rfl rfl rfl ?_ | refine DQ.stepc (yu rfl rfl) rfl rfl rfl rfl rfl ?_ | refine DQ.nilM (by kernel_rfl) ?_ | refine DQ.stepc (yad rfl rfl rfl rfl rfl rfl (by omega) (by omega)) rfl rfl rfl rfl rfl ?_) | refine ym ?_ | refine ya ?_ | refine yb ?_ | refine yg ?_ | refine yi rfl ?_ | refine yh rfl ?_ | (refine yk rfl (fun hc => ?_) (fun hc => ?_) <;> (try simp only [hsx] at hc) <;> (try first | omega | contradiction | (simp [qa] at hc; done))) | refine yo ?_ | refine yc ?_ | refine yr mixed (by kernel_rfl) ?_))
  refine yal 2 rfl rfl rfl rfl ?_ (by simp [cxG])
  exact (by simp only [List.all_cons, List.all_nil, List.all_map, Function.comp_def, cI, cB, iav, bav, AV.sc1, AV.sc0, Bool.and_true, Bool.and_self, qh]; try rfl)
theorem qga (f : List Node) (R : List (List AV)) (K : List Int) (c : Change) (hR : R.length = f.length) (hl : f.length ≤ 1000000000) (hsc : R.all (fun r => r.all (AV.sc1 3)) = true) (h1 : 1 ≤ c.node) (h2 : c.node ≤ f.length) (h3 : 1 ≤ c.parent) (h4 : c.parent ≤ f.length) : GenC Tryz.prog 149 [⟨24, 1, [[.os 1 f.length]]⟩, ⟨44, 16, R⟩, ⟨3, 1, K.map cI⟩] [.ptr 0 1 0 0, c.av] (.tup [.ptr 1 f.length (c.node - 1).toNat 0, .ptr 1 f.length (c.parent - 1).toNat 0]) [⟨24, 1, [[.os 1 f.length]]⟩, ⟨44, 16, R⟩, ⟨3, 1, K.map cI⟩] := by
  refine yah tabs Tryz.func149 50 [.tmp 4, .tmp 5] rfl rfl rfl rfl rfl ?_; intro w0 X γ κ
  (repeat' (first | ((with_reducible show AL _ _ _ _ _); first | (refine yf tabs rfl ?_; try dsimp only [len, List.nil_append, List.cons_append]) | refine yn ?_ | (refine yq rfl rfl rfl (fun hc => ?_) (fun hc => ?_) <;> (fail_if_success (exact absurd hc (by decide))) <;> (try simp only [hsx] at hc) <;> (try first | omega | contradiction | (simp [qa] at hc; done))) | (refine AL.op rfl (yj rfl rfl rfl rfl rfl (by omega) (by omega)) ?_) | (refine AL.op rfl (ye tabs rfl rfl rfl rfl rfl rfl rfl (fun _ => rfl) (by decide) (by omega) (by omega)) ?_)) | ((with_reducible show DQ _ _ _ _ _ _); first | refine DQ.stepc (ybx (b := ⟨44, 16, R⟩) tabs rfl rfl rfl rfl rfl rfl rfl hR.symm) rfl rfl rfl rfl rfl ?_ | refine DQ.stepc (yar (b := ⟨44, 16, R⟩) tabs rfl rfl rfl rfl rfl rfl rfl rfl rfl hR.symm rfl (by omega) (by omega)) rfl rfl rfl rfl rfl ?_ | refine DQ.stepc (LS.val tabs rfl rfl rfl) rfl rfl rfl rfl rfl ?_ | refine DQ.stepc (yu rfl rfl) rfl rfl rfl rfl rfl ?_ | refine DQ.nilM (by kernel_rfl) ?_ | refine DQ.stepc (yad rfl rfl rfl rfl rfl rfl (by omega) (by omega)) rfl rfl rfl rfl rfl ?_ | refine DQ.stepc (yw tabs rfl rfl rfl rfl rfl rfl rfl rfl (fun _ => rfl) (by decide) (by omega) (by omega)) rfl rfl rfl rfl rfl ?_ | (refine DQ.gsplitE rfl rfl rfl (fun hc => ?_) (fun hc => ?_) <;> (fail_if_success (exact absurd hc (by decide))) <;> (try simp only [hsx] at hc) <;> (try first | omega | contradiction | (simp [qa] at hc; done)))) | refine ym ?_ | refine ya ?_ | refine yb ?_ | refine yg ?_ | refine yi rfl ?_ | refine yh rfl ?_ | (refine yk rfl (fun hc => ?_) (fun hc => ?_) <;> (try simp only [hsx] at hc) <;> (try first | omega | contradiction | (simp [qa] at hc; done))) | refine yo ?_ | refine yc ?_ | refine yr mixed (by kernel_rfl) ?_))
  refine yal 3 rfl rfl rfl rfl ?_ (by simp [cxG])
  simp only [qax]
  exact ⟨rfl, hsc, (by simp only [List.all_cons, List.all_nil, List.all_map, Function.comp_def, cI, cB, iav, bav, AV.sc1, AV.sc0, Bool.and_true, Bool.and_self, qh]; try rfl)⟩
theorem u153 : Tryz.prog.underlying 153 = some (.pointer (Tryz.prog.pointee 153)) := by kernel_rfl
theorem qcw {k : Nat} {ρ : Nat → Nat} (h : ∀ i, i < k → ρ i = i) {v : AV} (hv : v.sc0 k = true) : ren0 ρ v = v := by
  cases v <;> first
    | rfl
    | (simp only [AV.sc0, Nat.blt_eq] at hv; simp only [ren0, h _ hv])
theorem map_id' {α : Type} {g : α → α} : ∀ {l : List α}, (∀ x ∈ l, g x = x) → l.map g = l
  | [], _ => rfl
  | x :: l, h => by rw [List.map_cons, h x (by simp), map_id' fun y hy => h y (by simp [hy])]
theorem qmz {k : Nat} {ρ : Nat → Nat} (h : ∀ i, i < k → ρ i = i) {v : AV} (hv : v.sc1 k = true) : ren1 ρ v = v := by
  cases v with
  | fn f l => simp only [ren1]; rw [map_id' fun x hx => qcw h (List.all_eq_true.1 hv x hx)]
  | agg l => simp only [ren1]; rw [map_id' fun x hx => qcw h (List.all_eq_true.1 hv x hx)]
  | tup l => simp only [ren1]; rw [map_id' fun x hx => qcw h (List.all_eq_true.1 hv x hx)]
  | ptr a b c d => exact qcw (v := .ptr a b c d) h hv
  | os a b => exact qcw (v := .os a b) h hv
  | sub a b c d => exact qcw (v := .sub a b c d) h hv
  | _ => rfl
theorem qf {k : Nat} {ρ : Nat → Nat} (h : ∀ i, i < k → ρ i = i) {ty sz : Nat} {R : List (List AV)} (hR : R.all (fun r => r.all (AV.sc1 k)) = true) : renB ρ ⟨ty, sz, R⟩ = ⟨ty, sz, R⟩ := by
  unfold renB
  congr 1
  exact map_id' fun r hr => map_id' fun v hv => qmz h (List.all_eq_true.1 (List.all_eq_true.1 hR r hr) v hv)
theorem rho3 (n : Nat) : ∀ i, i < 3 → rho [0, 1, 2] n i = i := by
  intro i hi
  match i, hi with
  | 0, _ => rfl
  | 1, _ => rfl
  | 2, _ => rfl
theorem qbk (l : List Int) (k : Nat) : (l.map cI).all (fun r => r.all (AV.sc1 k)) = true := (by simp only [List.all_cons, List.all_nil, List.all_map, Function.comp_def, cI, cB, iav, bav, AV.sc1, AV.sc0, Bool.and_true, Bool.and_self, qh]; try rfl)
def updAt (f : List Node) (i : Int) (n : Node) : List Node := f.set i.toNat n
def insF (f : List Node) (node parent : Int) : List Node :=
  updAt (updAt f (parent - 1) { atI f (parent - 1) with kids := (atI f (parent - 1)).kids ++ [node] }) (node - 1)
    { atI (updAt f (parent - 1) { atI f (parent - 1) with kids := (atI f (parent - 1)).kids ++ [node] }) (node - 1) with parent := parent }
theorem qc7 (f : List Node) (node parent : Int) : (insF f node parent).length = f.length := by unfold insF updAt; simp
theorem qeu {α : Type} [Inhabited α] {a b : List α} (h : a.length = b.length) (h2 : ∀ i : Int, 0 ≤ i → i < a.length → atI a i = atI b i) : a = b := by
  apply List.ext_getElem?
  intro j
  rcases Nat.lt_or_ge j a.length with hj | hj
  · have e1 := qat (xs := a) (j := (j : Int)) (by omega) (by omega)
    have e2 := qat (xs := b) (j := (j : Int)) (by omega) (by omega)
    simp only [Int.toNat_natCast] at e1 e2
    rw [e1, e2, h2 j (by omega) (by omega)]
  · rw [List.getElem?_eq_none hj, List.getElem?_eq_none (by omega)]
theorem qak {α : Type} [Inhabited α] {xs : List α} {j : Int} (h0 : 0 ≤ j) (h1 : j < xs.length) {x : α} (h : atI xs j = x) : xs[j.toNat]? = some x := by rw [qat h0 h1, h]
theorem qn (ρ : Nat → Nat) (ty sz : Nat) (l : List Int) : renB ρ ⟨ty, sz, l.map cI⟩ = ⟨ty, sz, l.map cI⟩ := by
  unfold renB
  congr 1
  simp [cI, iav, ren1, ren0]
theorem qis (f : List Node) (c : Change) (hf : Fit f) (h1 : 1 ≤ c.node) (h2 : c.node ≤ f.length) (h3 : 1 ≤ c.parent) (h4 : c.parent ≤ f.length) (hidx : c.index = (atI f (c.parent - 1)).kids.length) (hk : (atI f (c.parent - 1)).kids ≠ []) (hp0 : (atI f (c.node - 1)).parent = 0) : GenC Tryz.prog 113 [⟨24, 1, [[.os 1 f.length]]⟩, ⟨44, 16, rowsK f (c.parent - 1) (.os 2 (atI f (c.parent - 1)).kids.length)⟩, ⟨3, 1, (atI f (c.parent - 1)).kids.map cI⟩] [.ptr 0 1 0 0, c.av] (bav true) [⟨24, 1, [[.os 1 f.length]]⟩, ⟨44, 16, rowsK (insF f c.node c.parent) (c.parent - 1) (.os 2 ((atI f (c.parent - 1)).kids ++ [c.node]).length)⟩, ⟨3, 1, ((atI f (c.parent - 1)).kids ++ [c.node]).map cI⟩] := by
  have hl := hf.len
  have hR := qag f (c.parent - 1) (.os 2 (atI f (c.parent - 1)).kids.length)
  have hsc : (rowsK f (c.parent - 1) (.os 2 (atI f (c.parent - 1)).kids.length)).all (fun r => r.all (AV.sc1 3)) = true := q6 f _ _ 3 rfl
  have eN : ∀ n, renB (rho [0, 1, 2] n) ⟨44, 16, rowsK f (c.parent - 1) (.os 2 (atI f (c.parent - 1)).kids.length)⟩ = ⟨44, 16, rowsK f (c.parent - 1) (.os 2 (atI f (c.parent - 1)).kids.length)⟩ := fun n => qf (rho3 n) hsc
  have eK : ∀ n, renB (rho [0, 1, 2] n) ⟨3, 1, (atI f (c.parent - 1)).kids.map cI⟩ = ⟨3, 1, (atI f (c.parent - 1)).kids.map cI⟩ := fun n => qn _ _ _ _
  obtain ⟨nd, hnd⟩ : ∃ nd, nd = atI f (c.node - 1) := ⟨_, rfl⟩
  rw [← hnd] at hp0
  obtain ⟨kk, hkk, hnode⟩ : ∃ kk : AV, kk = (if c.node - 1 = c.parent - 1 then (.os 2 (atI f (c.parent - 1)).kids.length) else .imm (.sl (nd.kids.map i64))) ∧ atI (rowsK f (c.parent - 1) (.os 2 (atI f (c.parent - 1)).kids.length)) (c.node - 1) = nodeRow nd kk := by
    refine ⟨_, rfl, ?_⟩
    rw [qz f _ _ (by omega) (by omega) _ (by omega) (by omega), hnd]
    split
    · rename_i e; rw [e]
    · rfl
  have hpar : atI (rowsK f (c.parent - 1) (.os 2 (atI f (c.parent - 1)).kids.length)) (c.parent - 1) = nodeRow (atI f (c.parent - 1)) (.os 2 (atI f (c.parent - 1)).kids.length) := by
    rw [qz f _ _ (by omega) (by omega) _ (by omega) (by omega), if_pos rfl]
  obtain ⟨R1, hR1⟩ : ∃ R1, R1 = (rowsK f (c.parent - 1) (.os 2 (atI f (c.parent - 1)).kids.length)).set (c.parent - 1).toNat (nodeRow (atI f (c.parent - 1)) (.os 2 ((atI f (c.parent - 1)).kids ++ [c.node]).length)) := ⟨_, rfl⟩
  have hR1l : R1.length = f.length := by rw [hR1, List.length_set, hR]
  obtain ⟨kk2, hkk2, hnode2⟩ : ∃ kk2 : AV, kk2 = (if c.node - 1 = c.parent - 1 then (.os 2 ((atI f (c.parent - 1)).kids ++ [c.node]).length) else .imm (.sl (nd.kids.map i64))) ∧ atI R1 (c.node - 1) = nodeRow nd kk2 := by
    refine ⟨_, rfl, ?_⟩
    rw [hR1, qt _ _ _ _ (by omega) (by omega) (by omega), hnd]
    split
    · rename_i e; rw [e]
    · rename_i e
      rw [qz f _ _ (by omega) (by omega) _ (by omega) (by omega), if_neg e]; rfl
  have hfin : R1.set (c.node - 1).toNat (nodeRow { nd with parent := c.parent } kk2) = rowsK (insF f c.node c.parent) (c.parent - 1) (.os 2 ((atI f (c.parent - 1)).kids ++ [c.node]).length) := by
    have hil := qc7 f c.node c.parent
    have hul : ∀ n, (updAt f (c.parent - 1) n).length = f.length := fun n => by unfold updAt; simp
    refine qeu (by rw [List.length_set, qag, hil, hR1l]) fun i g0 g1 => ?_
    rw [List.length_set] at g1
    rw [qt _ _ _ _ (by omega) (by omega) g0, qz _ _ _ (by omega) (by omega) _ g0 (by omega)]
    have hat : ∀ j : Int, 0 ≤ j → j < f.length → atI (insF f c.node c.parent) j = if j = c.node - 1 then { (if c.node - 1 = c.parent - 1 then { atI f (c.parent - 1) with kids := (atI f (c.parent - 1)).kids ++ [c.node] } else atI f (c.node - 1)) with parent := c.parent } else if j = c.parent - 1 then { atI f (c.parent - 1) with kids := (atI f (c.parent - 1)).kids ++ [c.node] } else atI f j := by
      intro j j0 j1
      unfold insF
      rw [show updAt (updAt f (c.parent - 1) { atI f (c.parent - 1) with kids := (atI f (c.parent - 1)).kids ++ [c.node] }) (c.node - 1) { atI (updAt f (c.parent - 1) { atI f (c.parent - 1) with kids := (atI f (c.parent - 1)).kids ++ [c.node] }) (c.node - 1) with parent := c.parent } = (updAt f (c.parent - 1) { atI f (c.parent - 1) with kids := (atI f (c.parent - 1)).kids ++ [c.node] }).set (c.node - 1).toNat { atI (updAt f (c.parent - 1) { atI f (c.parent - 1) with kids := (atI f (c.parent - 1)).kids ++ [c.node] }) (c.node - 1) with parent := c.parent } from rfl]
      rw [qt _ _ _ _ (by omega) (by rw [hul]; omega) j0]
      unfold updAt
      rw [qt _ _ _ _ (by omega) (by omega) (by omega), qt _ _ _ _ (by omega) (by omega) j0]
    by_cases e1 : i = c.node - 1
    · rw [if_pos e1]
      by_cases e2 : c.node - 1 = c.parent - 1
      · rw [if_pos (by omega), hat _ (by omega) (by omega), if_pos (by omega), if_pos e2, hkk2, if_pos e2, hnd, e2]; rfl
      · rw [if_neg (by omega), hat _ g0 (by omega), if_pos e1, if_neg e2, hkk2, if_neg e2, hnd]; rfl
    · rw [if_neg e1, hR1, qt _ _ _ _ (by omega) (by omega) g0]
      by_cases e2 : i = c.parent - 1
      · rw [if_pos e2, if_pos e2, hat _ (by omega) (by omega), if_neg (by omega), if_pos rfl]; rfl
      · rw [if_neg e2, if_neg e2, qz f _ _ (by omega) (by omega) _ g0 (by omega), if_neg e2, hat _ g0 (by omega), if_neg e1, if_neg e2]
  have hscF : (rowsK (insF f c.node c.parent) (c.parent - 1) (.os 2 ((atI f (c.parent - 1)).kids ++ [c.node]).length)).all (fun r => r.all (AV.sc1 3)) = true := q6 _ _ _ 3 rfl
  have gnode := qak (by omega) (by omega) hnode
  have gpar := qak (by omega) (by omega) hpar
  have gnode2 := qak (by omega) (by omega) hnode2
  refine yah tabs Tryz.func113 55 [.tmp 4] rfl rfl rfl rfl rfl ?_; intro w0 X γ κ
  refine AW.reserve 3 1 rfl ?_
  (repeat' (first | ((with_reducible show AL _ _ _ _ _); first | (refine yf tabs rfl ?_; try dsimp only [len, List.nil_append, List.cons_append]) | refine yz [0, 1, 2] 5 rfl rfl rfl rfl rfl (caps := []) rfl (qga f (rowsK f (c.parent - 1) (.os 2 (atI f (c.parent - 1)).kids.length)) (atI f (c.parent - 1)).kids c hR hl hsc h1 h2 h3 h4) rfl (by simp only [List.map_cons, List.map_nil, eN, eK]; rfl) rfl rfl (by simp only [qax]; exact ⟨rfl, hsc, (by simp only [List.all_cons, List.all_nil, List.all_map, Function.comp_def, cI, cB, iav, bav, AV.sc1, AV.sc0, Bool.and_true, Bool.and_self, qh]; try rfl)⟩) rfl (by simp only [qax]; exact ⟨rfl, hsc, (by simp only [List.all_cons, List.all_nil, List.all_map, Function.comp_def, cI, cB, iav, bav, AV.sc1, AV.sc0, Bool.and_true, Bool.and_self, qh]; try rfl)⟩) rfl (hpA := [⟨24, 1, [[.os 1 f.length]]⟩, ⟨44, 16, rowsK f (c.parent - 1) (.os 2 (atI f (c.parent - 1)).kids.length)⟩, ⟨3, 1, (atI f (c.parent - 1)).kids.map cI⟩]) (by simp only [List.map_cons, List.map_nil, eN, eK]; rfl) (r' := .tup [.ptr 1 f.length (c.node - 1).toNat 0, .ptr 1 f.length (c.parent - 1).toNat 0]) rfl rfl ?_ | refine yae rfl (ybl (b := ⟨44, 16, R1⟩) rfl rfl rfl (by rw [hR1]; rfl) hR1l.symm) rfl ?_ | refine yae rfl (ya1 (b := ⟨44, 16, R1⟩) tabs rfl rfl rfl rfl rfl rfl rfl (by rw [hR1]; rfl) hR1l.symm) rfl ?_ | refine yae rfl (ya2 (i := ti3) (v := iav c.parent) (b := ⟨44, 16, R1⟩) (r := nodeRow nd kk2) tabs rfl rfl rfl rfl rfl (by rw [← qm, hR1]; rfl) hR1l.symm rfl rfl (Nat.le_of_ble_eq_true rfl) gnode2) rfl ?_ | refine yn ?_ | (refine yq rfl rfl rfl (fun hc => ?_) (fun hc => ?_) <;> (fail_if_success (exact absurd hc (by decide))) <;> (try simp only [hsx] at hc) <;> (try first | omega | contradiction | (simp [qa] at hc; done)))) | ((with_reducible show DQ _ _ _ _ _ _); first | refine DQ.stepc (yca (b := ⟨44, 16, rowsK f (c.parent - 1) (.os 2 (atI f (c.parent - 1)).kids.length)⟩) tabs rfl rfl rfl u153 rfl rfl hR.symm rfl) rfl rfl rfl rfl rfl ?_ | refine DQ.stepc (ybt (b := ⟨44, 16, rowsK f (c.parent - 1) (.os 2 (atI f (c.parent - 1)).kids.length)⟩) rfl rfl rfl rfl rfl hR.symm) rfl rfl rfl rfl rfl ?_ | refine DQ.stepc (yay (b := ⟨44, 16, rowsK f (c.parent - 1) (.os 2 (atI f (c.parent - 1)).kids.length)⟩) tabs rfl rfl rfl rfl rfl rfl rfl rfl rfl hR.symm) rfl rfl rfl rfl rfl ?_ | refine DQ.stepc (ybd (i := ti3) (r := nodeRow nd kk) (b := ⟨44, 16, rowsK f (c.parent - 1) (.os 2 (atI f (c.parent - 1)).kids.length)⟩) (row := (c.node - 1).toNat) tabs rfl rfl rfl rfl rfl rfl hR.symm gnode rfl) rfl rfl rfl rfl rfl ?_ | refine DQ.stepc (ybd (i := ti41) (r := nodeRow (atI f (c.parent - 1)) (.os 2 (atI f (c.parent - 1)).kids.length)) (b := ⟨44, 16, rowsK f (c.parent - 1) (.os 2 (atI f (c.parent - 1)).kids.length)⟩) (row := (c.parent - 1).toNat) tabs rfl rfl rfl rfl rfl rfl hR.symm gpar rfl) rfl rfl rfl rfl rfl ?_ | refine DQ.stepc (ybx (b := ⟨3, 1, (atI f (c.parent - 1)).kids.map cI⟩) tabs rfl rfl rfl rfl rfl rfl rfl (by simp)) rfl rfl rfl rfl rfl ?_ | refine DQ.stepc (ya9 3 tabs rfl rfl rfl rfl rfl rfl rfl rfl rfl rfl rfl rfl) rfl rfl rfl rfl rfl ?_ | refine DQ.stepc (yb8 2 3 (r' := .os 2 ((atI f (c.parent - 1)).kids ++ [c.node]).length) (bA := ⟨3, 1, ((atI f (c.parent - 1)).kids ++ [c.node]).map cI⟩) rfl rfl rfl rfl rfl (qmc (atI f (c.parent - 1)).kids c.node (hf.atI (c.parent - 1) (by omega) (by omega)).kids) (fun _ => by rw [← hidx]; rfl) rfl rfl rfl (fun _ => (qn _ _ _ _).symm) (fun _ => rfl) rfl (by simp only [List.all_cons, List.all_nil, List.all_map, Function.comp_def, cI, cB, iav, bav, AV.sc1, AV.sc0, Bool.and_true, Bool.and_self, qh]; try rfl) rfl (by simp only [List.all_cons, List.all_nil, List.all_map, Function.comp_def, cI, cB, iav, bav, AV.sc1, AV.sc0, Bool.and_true, Bool.and_self, qh]; try rfl) (fun _ => qn _ _ _ _) (fun _ => rfl)) rfl rfl rfl rfl rfl ?_ | refine DQ.stepc (LS.store (i := ti41) (v := (.os 2 ((atI f (c.parent - 1)).kids ++ [c.node]).length)) (ty := 44) (sz := 16) (rows := rowsK f (c.parent - 1) (.os 2 (atI f (c.parent - 1)).kids.length)) (r := nodeRow (atI f (c.parent - 1)) (.os 2 (atI f (c.parent - 1)).kids.length)) tabs rfl rfl rfl rfl rfl rfl rfl hR.symm rfl rfl (by decide) gpar) rfl rfl rfl rfl rfl ?_ | refine DQ.stepc (LS.val tabs rfl rfl rfl) rfl rfl rfl rfl rfl ?_ | refine DQ.stepc (yu rfl rfl) rfl rfl rfl rfl rfl ?_ | refine DQ.nilM (by kernel_rfl) ?_ | (refine DQ.gsplitE rfl rfl rfl (fun hc => ?_) (fun hc => ?_) <;> (fail_if_success (exact absurd hc (by decide))) <;> (try simp only [hsx] at hc) <;> (try first | omega | contradiction | (simp [qa] at hc; done)))) | refine ym ?_ | refine ya ?_ | refine yb ?_ | refine yg ?_ | refine yi rfl ?_ | refine yh rfl ?_ | (refine yk rfl (fun hc => ?_) (fun hc => ?_) <;> (try simp only [hsx] at hc) <;> (try first | omega | contradiction | (simp [qa] at hc; done))) | refine yo ?_ | refine yc ?_ | refine yr mixed (by kernel_rfl) ?_))
  all_goals first
    | (exfalso; omega)
    | (refine yal 3 rfl rfl (by rw [← hfin]; rfl) rfl ?_ (by simp [cxG])
       simp only [qax]
       exact ⟨rfl, hscF, (by simp only [List.all_cons, List.all_nil, List.all_map, Function.comp_def, cI, cB, iav, bav, AV.sc1, AV.sc0, Bool.and_true, Bool.and_self, qh]; try rfl)⟩)
theorem qit (f : List Node) (c : Change) (hf : Fit f) (h1 : 1 ≤ c.node) (h2 : c.node ≤ f.length) (h3 : 1 ≤ c.parent) (h4 : c.parent ≤ f.length) (hidx : c.index = (atI f (c.parent - 1)).kids.length) (hk : (atI f (c.parent - 1)).kids = []) (hp0 : (atI f (c.node - 1)).parent = 0) : GenC Tryz.prog 113 [⟨24, 1, [[.os 1 f.length]]⟩, ⟨44, 16, rowsK f (c.parent - 1) .nocap⟩, ⟨3, 1, []⟩] [.ptr 0 1 0 0, c.av] (bav true) [⟨24, 1, [[.os 1 f.length]]⟩, ⟨44, 16, rowsK (insF f c.node c.parent) (c.parent - 1) (.os 2 1)⟩, ⟨3, 1, [cI c.node]⟩] := by
  have hl := hf.len
  have hidx' : c.index = 0 := by rw [hidx, hk]; rfl
  have hR := qag f (c.parent - 1) .nocap
  have hsc : (rowsK f (c.parent - 1) .nocap).all (fun r => r.all (AV.sc1 3)) = true := q6 f _ _ 3 rfl
  have eN : ∀ n, renB (rho [0, 1, 2] n) ⟨44, 16, rowsK f (c.parent - 1) .nocap⟩ = ⟨44, 16, rowsK f (c.parent - 1) .nocap⟩ := fun n => qf (rho3 n) hsc
  have eK : ∀ n, renB (rho [0, 1, 2] n) ⟨3, 1, []⟩ = ⟨3, 1, []⟩ := fun n => rfl
  obtain ⟨nd, hnd⟩ : ∃ nd, nd = atI f (c.node - 1) := ⟨_, rfl⟩
  rw [← hnd] at hp0
  obtain ⟨kk, hkk, hnode⟩ : ∃ kk : AV, kk = (if c.node - 1 = c.parent - 1 then .nocap else .imm (.sl (nd.kids.map i64))) ∧ atI (rowsK f (c.parent - 1) .nocap) (c.node - 1) = nodeRow nd kk := by
    refine ⟨_, rfl, ?_⟩
    rw [qz f _ _ (by omega) (by omega) _ (by omega) (by omega), hnd]
    split
    · rename_i e; rw [e]
    · rfl
  have hpar : atI (rowsK f (c.parent - 1) .nocap) (c.parent - 1) = nodeRow (atI f (c.parent - 1)) .nocap := by
    rw [qz f _ _ (by omega) (by omega) _ (by omega) (by omega), if_pos rfl]
  obtain ⟨R1, hR1⟩ : ∃ R1, R1 = (rowsK f (c.parent - 1) .nocap).set (c.parent - 1).toNat (nodeRow (atI f (c.parent - 1)) (.os 2 1)) := ⟨_, rfl⟩
  have hR1l : R1.length = f.length := by rw [hR1, List.length_set, hR]
  obtain ⟨kk2, hkk2, hnode2⟩ : ∃ kk2 : AV, kk2 = (if c.node - 1 = c.parent - 1 then (.os 2 1) else .imm (.sl (nd.kids.map i64))) ∧ atI R1 (c.node - 1) = nodeRow nd kk2 := by
    refine ⟨_, rfl, ?_⟩
    rw [hR1, qt _ _ _ _ (by omega) (by omega) (by omega), hnd]
    split
    · rename_i e; rw [e]
    · rename_i e
      rw [qz f _ _ (by omega) (by omega) _ (by omega) (by omega), if_neg e]; rfl
  have hfin : R1.set (c.node - 1).toNat (nodeRow { nd with parent := c.parent } kk2) = rowsK (insF f c.node c.parent) (c.parent - 1) (.os 2 1) := by
    have hil := qc7 f c.node c.parent
    have hul : ∀ n, (updAt f (c.parent - 1) n).length = f.length := fun n => by unfold updAt; simp
    refine qeu (by rw [List.length_set, qag, hil, hR1l]) fun i g0 g1 => ?_
    rw [List.length_set] at g1
    rw [qt _ _ _ _ (by omega) (by omega) g0, qz _ _ _ (by omega) (by omega) _ g0 (by omega)]
    have hat : ∀ j : Int, 0 ≤ j → j < f.length → atI (insF f c.node c.parent) j = if j = c.node - 1 then { (if c.node - 1 = c.parent - 1 then { atI f (c.parent - 1) with kids := (atI f (c.parent - 1)).kids ++ [c.node] } else atI f (c.node - 1)) with parent := c.parent } else if j = c.parent - 1 then { atI f (c.parent - 1) with kids := (atI f (c.parent - 1)).kids ++ [c.node] } else atI f j := by
      intro j j0 j1
      unfold insF
      rw [show updAt (updAt f (c.parent - 1) { atI f (c.parent - 1) with kids := (atI f (c.parent - 1)).kids ++ [c.node] }) (c.node - 1) { atI (updAt f (c.parent - 1) { atI f (c.parent - 1) with kids := (atI f (c.parent - 1)).kids ++ [c.node] }) (c.node - 1) with parent := c.parent } = (updAt f (c.parent - 1) { atI f (c.parent - 1) with kids := (atI f (c.parent - 1)).kids ++ [c.node] }).set (c.node - 1).toNat { atI (updAt f (c.parent - 1) { atI f (c.parent - 1) with kids := (atI f (c.parent - 1)).kids ++ [c.node] }) (c.node - 1) with parent := c.parent } from rfl]
      rw [qt _ _ _ _ (by omega) (by rw [hul]; omega) j0]
      unfold updAt
      rw [qt _ _ _ _ (by omega) (by omega) (by omega), qt _ _ _ _ (by omega) (by omega) j0]
    by_cases e1 : i = c.node - 1
    · rw [if_pos e1]
      by_cases e2 : c.node - 1 = c.parent - 1
      · rw [if_pos (by omega), hat _ (by omega) (by omega), if_pos (by omega), if_pos e2, hkk2, if_pos e2, hnd, e2]; rfl
      · rw [if_neg (by omega), hat _ g0 (by omega), if_pos e1, if_neg e2, hkk2, if_neg e2, hnd]; rfl
    · rw [if_neg e1, hR1, qt _ _ _ _ (by omega) (by omega) g0]
      by_cases e2 : i = c.parent - 1
      · rw [if_pos e2, if_pos e2, hat _ (by omega) (by omega), if_neg (by omega), if_pos rfl]; rfl
      · rw [if_neg e2, if_neg e2, qz f _ _ (by omega) (by omega) _ g0 (by omega), if_neg e2, hat _ g0 (by omega), if_neg e1, if_neg e2]
  have hscF : (rowsK (insF f c.node c.parent) (c.parent - 1) (.os 2 1)).all (fun r => r.all (AV.sc1 3)) = true := q6 _ _ _ 3 rfl
  have gnode := qak (by omega) (by omega) hnode
  have gpar := qak (by omega) (by omega) hpar
  have gnode2 := qak (by omega) (by omega) hnode2
  refine yah tabs Tryz.func113 55 [.tmp 4] rfl rfl rfl rfl rfl ?_; intro w0 X γ κ
  refine AW.reserve 3 1 rfl ?_
  (repeat' (first | ((with_reducible show AL _ _ _ _ _); first | (refine yf tabs rfl ?_; try dsimp only [len, List.nil_append, List.cons_append]) | refine yz [0, 1, 2] 5 rfl rfl rfl rfl rfl (caps := []) rfl (qga f (rowsK f (c.parent - 1) .nocap) [] c hR hl hsc h1 h2 h3 h4) rfl (by simp only [List.map_cons, List.map_nil, eN, eK]; rfl) rfl rfl (by simp only [qax]; exact ⟨rfl, hsc, (by simp only [List.all_cons, List.all_nil, List.all_map, Function.comp_def, cI, cB, iav, bav, AV.sc1, AV.sc0, Bool.and_true, Bool.and_self, qh]; try rfl)⟩) rfl (by simp only [qax]; exact ⟨rfl, hsc, (by simp only [List.all_cons, List.all_nil, List.all_map, Function.comp_def, cI, cB, iav, bav, AV.sc1, AV.sc0, Bool.and_true, Bool.and_self, qh]; try rfl)⟩) rfl (hpA := [⟨24, 1, [[.os 1 f.length]]⟩, ⟨44, 16, rowsK f (c.parent - 1) .nocap⟩, ⟨3, 1, []⟩]) (by simp only [List.map_cons, List.map_nil, eN, eK]; rfl) (r' := .tup [.ptr 1 f.length (c.node - 1).toNat 0, .ptr 1 f.length (c.parent - 1).toNat 0]) rfl rfl ?_ | refine yae rfl (ybl (b := ⟨44, 16, R1⟩) rfl rfl rfl (by rw [hR1]; rfl) hR1l.symm) rfl ?_ | refine yae rfl (ya1 (b := ⟨44, 16, R1⟩) tabs rfl rfl rfl rfl rfl rfl rfl (by rw [hR1]; rfl) hR1l.symm) rfl ?_ | refine yae rfl (ya2 (i := ti3) (v := iav c.parent) (b := ⟨44, 16, R1⟩) (r := nodeRow nd kk2) tabs rfl rfl rfl rfl rfl (by rw [← qm, hR1]; rfl) hR1l.symm rfl rfl (Nat.le_of_ble_eq_true rfl) gnode2) rfl ?_ | refine yn ?_ | (refine yq rfl rfl rfl (fun hc => ?_) (fun hc => ?_) <;> (fail_if_success (exact absurd hc (by decide))) <;> (try simp only [hsx] at hc) <;> (try first | omega | contradiction | (simp [qa] at hc; done)))) | ((with_reducible show DQ _ _ _ _ _ _); first | refine DQ.stepc (yca (b := ⟨44, 16, rowsK f (c.parent - 1) .nocap⟩) tabs rfl rfl rfl u153 rfl rfl hR.symm rfl) rfl rfl rfl rfl rfl ?_ | refine DQ.stepc (ybt (b := ⟨44, 16, rowsK f (c.parent - 1) .nocap⟩) rfl rfl rfl rfl rfl hR.symm) rfl rfl rfl rfl rfl ?_ | refine DQ.stepc (yay (b := ⟨44, 16, rowsK f (c.parent - 1) .nocap⟩) tabs rfl rfl rfl rfl rfl rfl rfl rfl rfl hR.symm) rfl rfl rfl rfl rfl ?_ | refine DQ.stepc (ybd (i := ti3) (r := nodeRow nd kk) (b := ⟨44, 16, rowsK f (c.parent - 1) .nocap⟩) (row := (c.node - 1).toNat) tabs rfl rfl rfl rfl rfl rfl hR.symm gnode rfl) rfl rfl rfl rfl rfl ?_ | refine DQ.stepc (ybd (i := ti41) (r := nodeRow (atI f (c.parent - 1)) .nocap) (b := ⟨44, 16, rowsK f (c.parent - 1) .nocap⟩) (row := (c.parent - 1).toNat) tabs rfl rfl rfl rfl rfl rfl hR.symm gpar rfl) rfl rfl rfl rfl rfl ?_ | refine DQ.stepc (LS.len_nocap tabs rfl rfl rfl rfl rfl rfl) rfl rfl rfl rfl rfl ?_ | refine DQ.stepc (ya9 3 tabs rfl rfl rfl rfl rfl rfl rfl rfl rfl rfl rfl rfl) rfl rfl rfl rfl rfl ?_ | refine DQ.stepc (yb8 2 3 (r' := .os 2 1) (bA := ⟨3, 1, [cI c.node]⟩) rfl rfl rfl rfl rfl (qn1 c.node) (fun _ => by rw [hidx']; rfl) rfl rfl rfl (fun _ => rfl) (fun _ => rfl) rfl (by simp only [List.all_cons, List.all_nil, List.all_map, Function.comp_def, cI, cB, iav, bav, AV.sc1, AV.sc0, Bool.and_true, Bool.and_self, qh]; try rfl) rfl (by simp only [List.all_cons, List.all_nil, List.all_map, Function.comp_def, cI, cB, iav, bav, AV.sc1, AV.sc0, Bool.and_true, Bool.and_self, qh]; try rfl) (fun _ => rfl) (fun _ => rfl)) rfl rfl rfl rfl rfl ?_ | refine DQ.stepc (LS.store (i := ti41) (v := (.os 2 1)) (ty := 44) (sz := 16) (rows := rowsK f (c.parent - 1) .nocap) (r := nodeRow (atI f (c.parent - 1)) .nocap) tabs rfl rfl rfl rfl rfl rfl rfl hR.symm rfl rfl (by decide) gpar) rfl rfl rfl rfl rfl ?_ | refine DQ.stepc (LS.val tabs rfl rfl rfl) rfl rfl rfl rfl rfl ?_ | refine DQ.stepc (yu rfl rfl) rfl rfl rfl rfl rfl ?_ | refine DQ.nilM (by kernel_rfl) ?_ | (refine DQ.gsplitE rfl rfl rfl (fun hc => ?_) (fun hc => ?_) <;> (fail_if_success (exact absurd hc (by decide))) <;> (try simp only [hsx] at hc) <;> (try first | omega | contradiction | (simp [qa] at hc; done)))) | refine ym ?_ | refine ya ?_ | refine yb ?_ | refine yg ?_ | refine yi rfl ?_ | refine yh rfl ?_ | (refine yk rfl (fun hc => ?_) (fun hc => ?_) <;> (try simp only [hsx] at hc) <;> (try first | omega | contradiction | (simp [qa] at hc; done))) | refine yo ?_ | refine yc ?_ | refine yr mixed (by kernel_rfl) ?_))
  all_goals first
    | (exfalso; omega)
    | (refine yal 3 rfl rfl (by rw [← hfin]; rfl) rfl ?_ (by simp [cxG])
       simp only [qax]
       exact ⟨rfl, hscF, (by simp only [List.all_cons, List.all_nil, List.all_map, Function.comp_def, cI, cB, iav, bav, AV.sc1, AV.sc0, Bool.and_true, Bool.and_self, qh]; try rfl)⟩)
theorem qb (f : List Node) (k : Nat) : (f.map rowS).all (fun r => r.all (AV.sc1 k)) = true := by
  rw [List.all_map, List.all_eq_true]
  exact fun n _ => qba n k
theorem qho (f : List Node) (c : Change) (hf : Fit f) (hm : FitN c.made) (h1 : c.node = f.length + 1) (h2 : c.made.kind ≠ 12) : GenC Tryz.prog 111 [⟨24, 1, [[.os 1 f.length]]⟩, ⟨44, 16, f.map rowS⟩] [.ptr 0 1 0 0, c.av] (bav true) [⟨24, 1, [[.os 1 (f.length + 1)]]⟩, ⟨44, 16, (f ++ [c.made]).map rowS⟩] := by
  have hl := hf.len
  have hR : (f.map rowS).length = f.length := List.length_map _
  refine yah tabs Tryz.func111 32 [.tmp 4] rfl rfl rfl rfl rfl ?_; intro w0 X γ κ
  refine AW.reserve 44 16 rfl ?_
  (repeat' (first | ((with_reducible show AL _ _ _ _ _); first | (refine yf tabs rfl ?_; try dsimp only [len, List.nil_append, List.cons_append]) | refine yn ?_ | (refine yq rfl rfl rfl (fun hc => ?_) (fun hc => ?_) <;> (fail_if_success (exact absurd hc (by decide))) <;> (try simp only [hsx] at hc) <;> (try first | omega | contradiction | (simp [qa] at hc; done))) | (refine AL.op rfl (yj rfl rfl rfl rfl rfl (by omega) (by omega)) ?_)) | ((with_reducible show DQ _ _ _ _ _ _); first | refine DQ.stepc (ybx (b := ⟨44, 16, f.map rowS⟩) tabs rfl rfl rfl rfl rfl rfl rfl hR.symm) rfl rfl rfl rfl rfl ?_ | refine DQ.stepc (yai rfl rfl rfl rfl rfl (qa0 c.made hm) rfl) rfl rfl rfl rfl rfl ?_ | refine DQ.stepc (ya9 2 tabs rfl rfl rfl rfl rfl rfl rfl rfl rfl rfl rfl rfl) rfl rfl rfl rfl rfl ?_ | refine DQ.stepc (yaw (ie := ti44) (ty := 44) (sz := 16) (rows := f.map rowS) (rows2 := [rowS c.made]) tabs rfl rfl rfl rfl rfl rfl rfl rfl hR.symm rfl rfl (fun s' hl => hl.srcOwn (by simp [Op.operands, Call.operands]) tabs rfl rfl (b := ⟨44, 16, [rowS c.made]⟩) rfl rfl rfl rfl (by simp [rowS, Node.iv, ti44]) (by simp [rowS, Node.iv, AV.cell])) (by simp [ti44]; omega) (by simp; omega)) rfl rfl rfl rfl rfl ?_ | refine DQ.stepc (LS.store (i := ti22) (v := .os 1 (f.length + 1)) (ty := 24) (sz := 1) (rows := [[.os 1 f.length]]) (r := [.os 1 f.length]) tabs rfl rfl rfl rfl rfl rfl rfl rfl rfl rfl (Nat.le_of_ble_eq_true rfl) rfl) rfl rfl rfl rfl rfl ?_ | refine DQ.stepc (LS.val tabs rfl rfl rfl) rfl rfl rfl rfl rfl ?_ | refine DQ.stepc (yu rfl rfl) rfl rfl rfl rfl rfl ?_ | refine DQ.nilM (by kernel_rfl) ?_ | refine DQ.stepc (yad rfl rfl rfl rfl rfl rfl (by omega) (by omega)) rfl rfl rfl rfl rfl ?_ | (refine DQ.gsplitE rfl rfl rfl (fun hc => ?_) (fun hc => ?_) <;> (fail_if_success (exact absurd hc (by decide))) <;> (try simp only [hsx] at hc) <;> (try first | omega | contradiction | (simp [qa] at hc; done)))) | refine ym ?_ | refine ya ?_ | refine yb ?_ | refine yg ?_ | refine yi rfl ?_ | refine yh rfl ?_ | (refine yk rfl (fun hc => ?_) (fun hc => ?_) <;> (try simp only [hsx] at hc) <;> (try first | omega | contradiction | (simp [qa] at hc; done))) | refine yo ?_ | refine yc ?_ | refine yr mixed (by kernel_rfl) ?_))
  all_goals first
    | (exfalso; exact h2 hc)
    | (exfalso; omega)
    | (refine yal 2 rfl rfl (by rw [List.map_append]; rfl) rfl ?_ (by simp [cxG])
       simp only [qax]
       first | exact ⟨rfl, qb _ 2⟩ | exact qb _ 2)
theorem ycl {C : Cx} {s : St} {o : Oper} {d : Nat} (hd : o.dst = some d) {x : Operand} (ho : o.op = .assign x) (hg : get s.env d = none) : OpOK C s o s := by
  intro γ κ a W hC K Q hK
  have hrun : (execOp a.eval o).run C.P W = .ok (.value (a.eval x)) W := by unfold execOp; rw [ho]; rfl
  unfold Oper.wp
  rw [hrun]
  refine hK γ κ (a.put o.dst (a.eval x)) W ?_
  rw [hd]
  refine ⟨by simp [Act.put, hC.size], hC.defers, ?_, hC.blk, hC.inj, hC.own, hC.xlt, hC.old, hC.hos, hC.htape, hC.hout, hC.hsize, hC.lent⟩
  intro t v h
  obtain ⟨y, h1, h2⟩ := hC.env t v h
  refine ⟨y, ?_, h2⟩
  simp only [Act.put]
  rw [Array.getElem?_setIfInBounds_ne (fun e => by subst e; rw [hg] at h; cases h)]
  exact h1
def k8 (k : Int) : List IV := [.int .u8 k]
theorem Fz.any {C : Cx} {s : St} {v : AV} (hc : v.cell = true) : Fz C s v (.imm .any) := fun γ κ a W x hC hr => .imm _ _ (.any _ (hr.one hc) (hr.single hc) (hr.notMap hc))
theorem Fz.mp {C : Cx} {s : St} {g : Nat} {ks vs : List (List IV)} : Fz C s (.mp g ks vs) (.mpi ks vs) := fun γ κ a W x hC hr => by
  cases hr with
  | mp _ _ _ h => exact .mpi g _ _ (h.keep fun b hb _ => ⟨rfl, fun hx => hb (.inl hx)⟩)
theorem qg4 (k : Int) : PureC Tryz.prog 114 [kav k] (.imm .any) := by
  refine yp tabs Tryz.func114 4 [.tmp 2] rfl rfl rfl rfl rfl ?_; intro w0 X
  (repeat' (first | ((with_reducible show AL _ _ _ _ _); first | (refine yf tabs rfl ?_; try dsimp only [len, List.nil_append, List.cons_append]) | refine yn ?_) | refine ym ?_ | refine ya ?_ | refine yb ?_ | refine yg ?_ | refine yo ?_ | refine yc ?_))
  exact yap rfl (Fz.any rfl)
def stepKeys : List Int := [1, 2, 3, 4, 5, 6, 7, 8, 9, 10]
def stepVals : List (List IV) := [[.fn 110, .fn 111, .bool true, .nilf], [.fn 112, .fn 113, .bool false, .any], [.fn 112, .fn 115, .bool false, .any], [.fn 116, .fn 117, .bool false, .fn 118], [.fn 119, .fn 120, .bool false, .fn 121], [.fn 122, .fn 123, .bool false, .fn 124], [.fn 125, .fn 126, .bool true, .nilf], [.fn 127, .fn 128, .bool false, .fn 109], [.fn 127, .fn 128, .bool false, .fn 109], [.fn 129, .fn 130, .bool false, .fn 109]]
theorem qbr : PureC Tryz.prog 95 [] (.mpi (stepKeys.map k8) stepVals) := by
  refine yp tabs Tryz.func95 19 [.tmp 0] rfl rfl rfl rfl rfl ?_; intro w0 X
  (repeat' (first | ((with_reducible show AL _ _ _ _ _); first | (refine yf tabs rfl ?_; try dsimp only [len, List.nil_append, List.cons_append]) | refine yae rfl (ya3 (kf := k8) (xs := ([] : List Int)) key56 Tryz.underlying128 rfl (.inr rfl) hg rfl rfl (q := 1) rfl (v := [.fn 110, .fn 111, .bool true, .nilf]) rfl (fun M z hz => q9 hz) (by decide) (by repeat' (first | exact trivial | refine ⟨rfl, ?_⟩)) rfl) rfl ?_ | refine yae rfl (ya3 (kf := k8) (xs := ([1] : List Int)) key56 Tryz.underlying128 rfl (.inr rfl) hg rfl rfl (q := 2) rfl (v := [.fn 112, .fn 113, .bool false, .any]) rfl (fun M z hz => q9 hz) (by decide) (by repeat' (first | exact trivial | refine ⟨rfl, ?_⟩)) rfl) rfl ?_ | refine yae rfl (ya3 (kf := k8) (xs := ([1, 2] : List Int)) key56 Tryz.underlying128 rfl (.inr rfl) hg rfl rfl (q := 3) rfl (v := [.fn 112, .fn 115, .bool false, .any]) rfl (fun M z hz => q9 hz) (by decide) (by repeat' (first | exact trivial | refine ⟨rfl, ?_⟩)) rfl) rfl ?_ | refine yae rfl (ya3 (kf := k8) (xs := ([1, 2, 3] : List Int)) key56 Tryz.underlying128 rfl (.inr rfl) hg rfl rfl (q := 4) rfl (v := [.fn 116, .fn 117, .bool false, .fn 118]) rfl (fun M z hz => q9 hz) (by decide) (by repeat' (first | exact trivial | refine ⟨rfl, ?_⟩)) rfl) rfl ?_ | refine yae rfl (ya3 (kf := k8) (xs := ([1, 2, 3, 4] : List Int)) key56 Tryz.underlying128 rfl (.inr rfl) hg rfl rfl (q := 5) rfl (v := [.fn 119, .fn 120, .bool false, .fn 121]) rfl (fun M z hz => q9 hz) (by decide) (by repeat' (first | exact trivial | refine ⟨rfl, ?_⟩)) rfl) rfl ?_ | refine yae rfl (ya3 (kf := k8) (xs := ([1, 2, 3, 4, 5] : List Int)) key56 Tryz.underlying128 rfl (.inr rfl) hg rfl rfl (q := 6) rfl (v := [.fn 122, .fn 123, .bool false, .fn 124]) rfl (fun M z hz => q9 hz) (by decide) (by repeat' (first | exact trivial | refine ⟨rfl, ?_⟩)) rfl) rfl ?_ | refine yae rfl (ya3 (kf := k8) (xs := ([1, 2, 3, 4, 5, 6] : List Int)) key56 Tryz.underlying128 rfl (.inr rfl) hg rfl rfl (q := 7) rfl (v := [.fn 125, .fn 126, .bool true, .nilf]) rfl (fun M z hz => q9 hz) (by decide) (by repeat' (first | exact trivial | refine ⟨rfl, ?_⟩)) rfl) rfl ?_ | refine yae rfl (ya3 (kf := k8) (xs := ([1, 2, 3, 4, 5, 6, 7] : List Int)) key56 Tryz.underlying128 rfl (.inr rfl) hg rfl rfl (q := 8) rfl (v := [.fn 127, .fn 128, .bool false, .fn 109]) rfl (fun M z hz => q9 hz) (by decide) (by repeat' (first | exact trivial | refine ⟨rfl, ?_⟩)) rfl) rfl ?_ | refine yae rfl (ya3 (kf := k8) (xs := ([1, 2, 3, 4, 5, 6, 7, 8] : List Int)) key56 Tryz.underlying128 rfl (.inr rfl) hg rfl rfl (q := 9) rfl (v := [.fn 127, .fn 128, .bool false, .fn 109]) rfl (fun M z hz => q9 hz) (by decide) (by repeat' (first | exact trivial | refine ⟨rfl, ?_⟩)) rfl) rfl ?_ | refine yae rfl (ya3 (kf := k8) (xs := ([1, 2, 3, 4, 5, 6, 7, 8, 9] : List Int)) key56 Tryz.underlying128 rfl (.inr rfl) hg rfl rfl (q := 10) rfl (v := [.fn 129, .fn 130, .bool false, .fn 109]) rfl (fun M z hz => q9 hz) (by decide) (by repeat' (first | exact trivial | refine ⟨rfl, ?_⟩)) rfl) rfl ?_ | refine AL.op rfl (yd rfl rfl rfl rfl (qg4 3) rfl) ?_ | refine AL.op rfl (yd rfl rfl rfl rfl (qg4 2) rfl) ?_ | refine AL.op rfl (ycl rfl rfl rfl) ?_ | refine yb2 rfl rfl rfl (fun g hg => ?_) | refine yn ?_) | refine ym ?_ | refine ya ?_ | refine yb ?_ | refine yg ?_ | refine yo ?_ | refine yc ?_))
  exact yap rfl Fz.mp
theorem zero126 (w : World) : (zeroValue 126).run Tryz.prog w = .ok (.agg #[.nilFunc, .nilFunc, .bool false, .nilFunc]) w := rfl
end Go.Proofs.YtmhejcnaanocpaaGreat.A
