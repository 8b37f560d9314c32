/- Contracts: forest.done of a node that is put in anywhere, and of data. -/
import Derived.Test.YtmhejcnaanocpaaGreatXAskGrpAR
import Derived.Test.YtmhejcnaanocpaaGreatXAskGrpAP
namespace Go.Proofs.YtmhejcnaanocpaaGreat.A
set_option linter.unusedVariables false
set_option linter.unusedSimpArgs false
set_option maxRecDepth 100000
set_option maxHeartbeats 4000000
theorem qh7 (f : List Node) (node parent idx : Int) (h1 : 1 ≤ node) (h2 : node ≤ f.length) (h3 : 1 ≤ parent) (h4 : parent ≤ f.length) : (atI (insFM f node parent idx) (parent - 1)).kids = insAt (atI f (parent - 1)).kids idx node := by
  unfold insFM
  rw [qbo _ _ _ (by omega) (by rw [qb4]; omega) _ (by omega)]
  by_cases e : parent - 1 = node - 1
  · rw [if_pos e, ← e, qbo _ _ _ (by omega) (by omega) _ (by omega), if_pos rfl]
  · rw [if_neg e, qbo _ _ _ (by omega) (by omega) _ (by omega), if_pos rfl]
theorem qfy (f : List Node) (c : Change) (hf : Fit f) (h1 : 1 ≤ c.node) (h2 : c.node ≤ f.length) (h3 : 1 ≤ c.parent) (h4 : c.parent ≤ f.length) (hi0 : 0 ≤ c.index) (hi1 : c.index ≤ (atI f (c.parent - 1)).kids.length) (hk : (atI f (c.parent - 1)).kids.length < 1000000000) : Fit (insFM f c.node c.parent c.index) := by
  have e1 : Fit (updAt f (c.parent - 1) { atI f (c.parent - 1) with kids := insAt (atI f (c.parent - 1)).kids c.index c.node }) := by
    have := hf.atI (c.parent - 1) (by omega) (by omega)
    exact qct hf ⟨this.data, this.attrs, by show (insAt _ _ _).length ≤ _; rw [qjg _ _ _ hi0 hi1]; omega⟩
  unfold insFM
  have := e1.atI (c.node - 1) (by omega) (by rw [qb4]; omega)
  exact qct e1 ⟨this.data, this.attrs, this.kids⟩
noncomputable def doneA (f : List Node) (c : Change) : List Node × Int := if dec (rightP (insFM f c.node c.parent c.index)) = true then (insFM f c.node c.parent c.index, 0) else ([], 2)
theorem qlg (f : List Node) (c : Change) (hf : Fit f) (h0 : 0 < f.length) (hck : c.kind = 2) (hcp : plainLn c = c) (hkl : (atI f (c.parent - 1)).kids.length < 1000000000) (h1 : 1 ≤ c.node) (h2 : c.node ≤ f.length) (h3 : 1 ≤ c.parent) (h4 : c.parent ≤ f.length) (hi0 : 0 ≤ c.index) (hi1 : c.index < (atI f (c.parent - 1)).kids.length) (hp0 : (atI f (c.node - 1)).parent = 0) : PureC Tryz.prog 71 [fav f, c.av] (.tup [fav (doneA f c).1, iav (doneA f c).2]) := by
  have hk : (atI f (c.parent - 1)).kids ≠ [] := fun e => by rw [e] at hi1; simp at hi1; omega
  have hsame : PureC Tryz.prog 96 [c.av, (plainLn c).av] (bav true) := by
    rw [hcp]
    exact qan c (by rw [← hcp]; simp [plainLn, c0]) (by rw [← hcp]; exact fit0) (by rw [← hcp]; simp [plainLn, c0]) (by rw [← hcp]; simp [plainLn, c0]) (by omega) (by omega)
  have hins := qjj f c hf h1 h2 h3 h4 hi0 hi1 hp0
  have hfst : ∀ j : Nat, j < 1 → stepKeys[j]? ≠ some c.kind := by
    intro j hj
    have : j = 0 := by omega
    subst this; rw [hck]; decide
  have hil := qbv f c.node c.parent c.index
  have hki : (atI (insFM f c.node c.parent c.index) (c.parent - 1)).kids = insAt (atI f (c.parent - 1)).kids c.index c.node := qh7 f c.node c.parent c.index h1 h2 h3 h4
  have hfi := qfy f c hf h1 h2 h3 h4 hi0 (by omega) hkl
  have fzI_ : ∀ {C : Cx} {s : St}, nth s.hp 0 = some ⟨44, 16, rowsK (insFM f c.node c.parent c.index) (c.parent - 1) (.os 1 (insAt (atI f (c.parent - 1)).kids c.index c.node).length)⟩ → nth s.hp 1 = some ⟨3, 1, (insAt (atI f (c.parent - 1)).kids c.index c.node).map cI⟩ → Fz C s (.agg [.os 0 f.length]) (fav (insFM f c.node c.parent c.index)) := by
    intro C s g1 g2
    have := fzK (C := C) (s := s) (f := insFM f c.node c.parent c.index) (p := c.parent - 1) (id := 0) (kid := 1) (m := (insAt (atI f (c.parent - 1)).kids c.index c.node).length) (by omega) (by omega) (by rw [hki]) g1 (by rw [hki]; exact g2)
    rw [hil] at this
    exact this
  refine yq tabs Tryz.func71 51 [.cell 4 24, .tmp 5] rfl rfl rfl rfl rfl ?_; intro w0 X
  refine AW.reserve 44 16 rfl ?_
  refine AW.reserve 3 1 rfl ?_
  refine AW.reserve 126 4 rfl ?_
  (repeat' (first | ((with_reducible show AL _ _ _ _ _); first | (refine AL.step tabs rfl ?_; try dsimp only [len, List.nil_append, List.cons_append]) | refine yac [0, 1] 6 rfl rfl rfl rfl rfl (caps := []) rfl (qfv f (c.parent - 1) hf (by omega) (by omega) hk) rfl rfl rfl rfl rfl rfl (by simp only [qax]; exact ⟨qad _ _ _ _ rfl, (by simp only [List.all_cons, List.all_nil, List.all_map, Function.comp_def, cI, cB, cU, iav, bav, AV.sc1, AV.sc0, Bool.and_true, Bool.and_self, qf]; try rfl)⟩) rfl (hpA := [⟨44, 16, rowsK f (c.parent - 1) (.os 1 (atI f (c.parent - 1)).kids.length)⟩, ⟨3, 1, (atI f (c.parent - 1)).kids.map cI⟩]) (by simp only [List.map_cons, List.map_nil, qa0, qn]; rfl) (r' := .agg [.os 0 f.length]) rfl rfl ?_ | refine yac [6, 0, 1] 7 rfl rfl rfl rfl rfl (caps := []) rfl hins rfl (by simp only [List.map_cons, List.map_nil, qa0, qn]; rfl) rfl rfl (by simp only [qax]; exact ⟨rfl, qad _ _ _ _ rfl, (by simp only [List.all_cons, List.all_nil, List.all_map, Function.comp_def, cI, cB, cU, iav, bav, AV.sc1, AV.sc0, Bool.and_true, Bool.and_self, qf]; try rfl)⟩) rfl (by simp only [qax]; exact ⟨rfl, qad _ _ _ _ rfl, (by simp only [List.all_cons, List.all_nil, List.all_map, Function.comp_def, cI, cB, cU, iav, bav, AV.sc1, AV.sc0, Bool.and_true, Bool.and_self, qf]; try rfl)⟩) rfl (hpA := [⟨24, 1, [[.os 0 f.length]]⟩, ⟨44, 16, rowsK (insFM f c.node c.parent c.index) (c.parent - 1) (.os 1 (insAt (atI f (c.parent - 1)).kids c.index c.node).length)⟩, ⟨3, 1, (insAt (atI f (c.parent - 1)).kids c.index c.node).map cI⟩]) (by simp only [List.map_cons, List.map_nil, qa0, qn]; rfl) (r' := bav true) rfl rfl ?_ | refine AL.op rfl (yat rfl rfl rfl rfl (.cons (fzI_ rfl rfl) .nil) (qbn (insFM f c.node c.parent c.index) hfi) rfl) ?_ | refine ym ?_ | (refine yj rfl rfl rfl (fun hc => ?_) (fun hc => ?_) <;> (fail_if_success (exact absurd hc (by decide))) <;> (try simp only [hsx] at hc) <;> (try first | omega | contradiction | (simp [qa] at hc; done)))) | ((with_reducible show DQ _ _ _ _ _ _); first | refine DQ.stepc (yai rfl rfl rfl rfl rfl qb3 rfl) rfl rfl rfl rfl rfl ?_ | refine DQ.stepc (ya4 (kf := k8) (q := c.kind) (xs := stepKeys) (i := 1) (v := [.fn 112, .fn 113, .bool false, .any]) key56 Tryz.underlying128 zero126 rfl rfl rfl rfl rfl rfl (by rw [hck]; rfl) hfst rfl) rfl rfl rfl rfl rfl ?_ | refine DQ.stepc (LS.alloc 2 tabs rfl rfl rfl rfl rfl rfl) rfl rfl rfl rfl rfl ?_ | refine DQ.stepc (LS.store (i := ti126) (v := .agg [.imm (.fn 112), .imm (.fn 113), .imm (.bool false), .imm .any]) (ty := 126) (sz := 4) (rows := [ti126.zero]) (r := ti126.zero) tabs rfl rfl rfl rfl rfl rfl rfl rfl rfl rfl (Nat.le_of_ble_eq_true rfl) rfl) rfl rfl rfl rfl rfl ?_ | refine DQ.stepc (yai rfl rfl rfl rfl rfl (qcr c) rfl) rfl rfl rfl rfl rfl ?_ | refine DQ.stepc (yai rfl rfl rfl rfl rfl hsame rfl) rfl rfl rfl rfl rfl ?_ | refine DQ.stepc (LS.val tabs rfl rfl rfl) rfl rfl rfl rfl rfl ?_ | refine DQ.stepc (yab rfl rfl) rfl rfl rfl rfl rfl ?_ | refine DQ.nilM (by kernel_rfl) ?_ | (refine DQ.gsplitE rfl rfl rfl (fun hc => ?_) (fun hc => ?_) <;> (fail_if_success (exact absurd hc (by decide))) <;> (try simp only [hsx] at hc) <;> (try first | omega | contradiction | (simp [qa] at hc; done)))) | refine yn ?_ | refine yc ?_ | refine ya ?_ | refine yf ?_ | refine yh rfl ?_ | refine yg rfl ?_ | (refine yk rfl (fun hc => ?_) (fun hc => ?_) <;> (try simp only [hsx] at hc) <;> (try first | omega | contradiction | (simp [qa] at hc; done))) | refine yo ?_ | refine yd ?_ | refine yx mixed (by kernel_rfl) ?_))
  all_goals first
    | (rw [show doneA f c = ([], 2) by unfold doneA; rw [if_neg (by rw [qb]; exact hc)]]; exact RQ.fin rfl rfl rfl)
    | (rw [show doneA f c = (insFM f c.node c.parent c.index, 0) by unfold doneA; rw [if_pos (by rw [qb]; exact hc)]]; exact yao rfl (ya0 (.cons (fzI_ rfl rfl) (.cons (Fz.im rfl) .nil))))
theorem fzRowD {C : Cx} {s : St} {n : Node} {k : AV} {l : List Int} (hk : FzI C s k (.sl (l.map u16))) : All2 (FzI C s) (nodeRowD n k) { n with data := l }.iv :=
  .cons (.imm _) (.cons (.imm _) (.cons (.imm _) (.cons (.imm _) (.cons (.imm _) (.cons (.imm _) (.cons hk (.cons (.imm _) (.cons (.imm _) (.cons (.imm _) (.cons (.imm _) (.cons (.imm _) (.cons (.imm _) (.cons (.imm _) (.cons (.imm _) (.cons (.imm _) .nil)))))))))))))))
theorem fzD {C : Cx} {s : St} {f : List Node} {p : Int} {id kid m : Nat} {all : List Int} (hp : 0 ≤ p) (hp1 : p < f.length) (hb : nth s.hp id = some ⟨44, 16, rowsD f p (.sub kid all.length 0 m)⟩) (hk : nth s.hp kid = some ⟨55, 1, all.map cU⟩) : Fz C s (.agg [.os id f.length]) (fav (updAt f p { atI f p with data := all.take m })) := by
  have hm : (updAt f p { atI f p with data := all.take m }).map Node.iv = (f.map Node.iv).set p.toNat { atI f p with data := all.take m }.iv := by
    unfold updAt; rw [List.map_set]
  refine yca (.cons (Fz.osN (b := ⟨44, 16, rowsD f p (.sub kid all.length 0 m)⟩) hb (qa7 _ _ _).symm (by simp [qa7, updAt]) (by
    intro r hr
    obtain ⟨n, _, rfl⟩ := List.mem_map.1 hr
    rfl) (qfp ?_)) .nil)
  rw [hm]
  have h1 : All2 (All2 (FzI C s)) (f.map rowS) (f.map Node.iv) := qb0 (fun n => fzRow (FzI.imm _)) f
  have hs := Fz.sub (C := C) (s := s) (id := kid) (ver := all.length) (off := 0) (n := m) (b := ⟨55, 1, all.map cU⟩) hk (by simp) (all := all.map u16) (by rw [List.map_map]; rfl)
  rw [List.drop_zero, ← List.map_take] at hs
  have h2 : All2 (FzI C s) (nodeRowD (atI f p) (.sub kid all.length 0 m)) { atI f p with data := all.take m }.iv := fzRowD (FzI.of hs)
  exact h1.set h2 p.toNat
def plainDa (c : Change) : Change := { c0 with kind := c.kind, node := c.node, offset := c.offset, count := c.count, data := c.data }
theorem qcu (c : Change) : PureC Tryz.prog 119 [c.av] (plainDa c).av := by
  refine yq tabs Tryz.func119 14 [.cell 2 58] rfl rfl rfl rfl rfl ?_; intro w0 X
  (repeat' (first | ((with_reducible show AL _ _ _ _ _); first | (refine AL.step tabs rfl ?_; try dsimp only [len, List.nil_append, List.cons_append]) | refine ym ?_) | refine yn ?_ | refine yc ?_ | refine ya ?_ | refine yf ?_ | refine yo ?_ | refine yd ?_))
  exact RQ.fin rfl rfl rfl
def datF (f : List Node) (node : Int) (d : List Int) : List Node := updAt f (node - 1) { atI f (node - 1) with data := d }
noncomputable def doneW (f : List Node) (node : Int) (d : List Int) : List Node × Int := if dec (rightP (datF f node d)) = true then (datF f node d, 0) else ([], 2)
theorem qnm (f : List Node) (c : Change) (all : List Int) (m : Nat) (hf : Fit f) (hck : c.kind = 5) (hcp : plainDa c = c) (hdl : c.data.length ≤ 1000000000) (h1 : 1 ≤ c.node) (h2 : c.node ≤ f.length) (hd : (traitsOf (atI f (c.node - 1)).kind).data = true)
    (ho0 : 0 ≤ c.offset) (hc0 : 0 ≤ c.count) (hoc : c.offset + c.count ≤ (atI f (c.node - 1)).data.length) (hne : (atI f (c.node - 1)).data ≠ []) (hnl : (all.take m).length ≤ 1000000000)
    (hrep : GenC Tryz.prog 155 [⟨55, 1, (atI f (c.node - 1)).data.map cU⟩] [.os 0 (atI f (c.node - 1)).data.length, iav c.offset, iav (c.offset + c.count), .imm (.sl (c.data.map u16))] (.sub 0 all.length 0 m) [⟨55, 1, all.map cU⟩]) :
    PureC Tryz.prog 71 [fav f, c.av] (.tup [fav (doneW f c.node (all.take m)).1, iav (doneW f c.node (all.take m)).2]) := by
  have hsame : PureC Tryz.prog 96 [c.av, (plainDa c).av] (bav true) := by
    rw [hcp]
    exact qan c hdl (by rw [← hcp]; exact fit0) (by rw [← hcp]; simp [plainDa, c0]) (by rw [← hcp]; simp [plainDa, c0]) (by omega) (by omega)
  have hins := qnl f c all m hf h1 h2 hd ho0 hc0 hoc hrep
  have hfst : ∀ j : Nat, j < 4 → stepKeys[j]? ≠ some c.kind := by
    intro j hj
    rw [hck]
    match j, hj with
    | 0, _ => decide
    | 1, _ => decide
    | 2, _ => decide
    | 3, _ => decide
  have hfi : Fit (datF f c.node (all.take m)) := by
    have := hf.atI (c.node - 1) (by omega) (by omega)
    exact qct hf ⟨hnl, this.attrs, this.kids⟩
  have fzW : ∀ {C : Cx} {s : St}, nth s.hp 0 = some ⟨44, 16, rowsD f (c.node - 1) (.sub 1 all.length 0 m)⟩ → nth s.hp 1 = some ⟨55, 1, all.map cU⟩ → Fz C s (.agg [.os 0 f.length]) (fav (datF f c.node (all.take m))) := by
    intro C s g1 g2
    exact fzD (by omega) (by omega) g1 g2
  refine yq tabs Tryz.func71 51 [.cell 4 24, .tmp 5] rfl rfl rfl rfl rfl ?_; intro w0 X
  refine AW.reserve 44 16 rfl ?_
  refine AW.reserve 55 1 rfl ?_
  refine AW.reserve 126 4 rfl ?_
  (repeat' (first | ((with_reducible show AL _ _ _ _ _); first | (refine AL.step tabs rfl ?_; try dsimp only [len, List.nil_append, List.cons_append]) | refine yac [0, 1] 6 rfl rfl rfl rfl rfl (caps := []) rfl (qjm f (c.node - 1) hf (by omega) (by omega) hne) rfl rfl rfl rfl rfl rfl (by simp only [qax]; exact ⟨qab _ _ _ _ rfl, (by simp only [List.all_cons, List.all_nil, List.all_map, Function.comp_def, cI, cB, cU, iav, bav, AV.sc1, AV.sc0, Bool.and_true, Bool.and_self, qf]; try rfl)⟩) rfl (hpA := [⟨44, 16, rowsD f (c.node - 1) (.os 1 (atI f (c.node - 1)).data.length)⟩, ⟨55, 1, (atI f (c.node - 1)).data.map cU⟩]) (by simp only [List.map_cons, List.map_nil, qar, qbp]; rfl) (r' := .agg [.os 0 f.length]) rfl rfl ?_ | refine yac [6, 0, 1] 7 rfl rfl rfl rfl rfl (caps := []) rfl hins rfl (by simp only [List.map_cons, List.map_nil, qar, qbp]; rfl) rfl rfl (by simp only [qax]; exact ⟨rfl, qab _ _ _ _ rfl, (by simp only [List.all_cons, List.all_nil, List.all_map, Function.comp_def, cI, cB, cU, iav, bav, AV.sc1, AV.sc0, Bool.and_true, Bool.and_self, qf]; try rfl)⟩) rfl (by simp only [qax]; exact ⟨rfl, qab _ _ _ _ rfl, (by simp only [List.all_cons, List.all_nil, List.all_map, Function.comp_def, cI, cB, cU, iav, bav, AV.sc1, AV.sc0, Bool.and_true, Bool.and_self, qf]; try rfl)⟩) rfl (hpA := [⟨24, 1, [[.os 0 f.length]]⟩, ⟨44, 16, rowsD f (c.node - 1) (.sub 1 all.length 0 m)⟩, ⟨55, 1, all.map cU⟩]) (by simp only [List.map_cons, List.map_nil, qar, qbp]; rfl) (r' := bav true) rfl rfl ?_ | refine AL.op rfl (yat rfl rfl rfl rfl (.cons (fzW rfl rfl) .nil) (qbn (datF f c.node (all.take m)) hfi) rfl) ?_ | refine ym ?_ | (refine yj rfl rfl rfl (fun hc => ?_) (fun hc => ?_) <;> (fail_if_success (exact absurd hc (by decide))) <;> (try simp only [hsx] at hc) <;> (try first | omega | contradiction | (simp [qa] at hc; done)))) | ((with_reducible show DQ _ _ _ _ _ _); first | refine DQ.stepc (yai rfl rfl rfl rfl rfl qb3 rfl) rfl rfl rfl rfl rfl ?_ | refine DQ.stepc (ya4 (kf := k8) (q := c.kind) (xs := stepKeys) (i := 4) (v := [.fn 119, .fn 120, .bool false, .fn 121]) key56 Tryz.underlying128 zero126 rfl rfl rfl rfl rfl rfl (by rw [hck]; rfl) hfst rfl) rfl rfl rfl rfl rfl ?_ | refine DQ.stepc (LS.alloc 2 tabs rfl rfl rfl rfl rfl rfl) rfl rfl rfl rfl rfl ?_ | refine DQ.stepc (LS.store (i := ti126) (v := .agg [.imm (.fn 119), .imm (.fn 120), .imm (.bool false), .imm (.fn 121)]) (ty := 126) (sz := 4) (rows := [ti126.zero]) (r := ti126.zero) tabs rfl rfl rfl rfl rfl rfl rfl rfl rfl rfl (Nat.le_of_ble_eq_true rfl) rfl) rfl rfl rfl rfl rfl ?_ | refine DQ.stepc (yai rfl rfl rfl rfl rfl (qcu c) rfl) rfl rfl rfl rfl rfl ?_ | refine DQ.stepc (yai rfl rfl rfl rfl rfl hsame rfl) rfl rfl rfl rfl rfl ?_ | refine DQ.stepc (LS.val tabs rfl rfl rfl) rfl rfl rfl rfl rfl ?_ | refine DQ.stepc (yab rfl rfl) rfl rfl rfl rfl rfl ?_ | refine DQ.nilM (by kernel_rfl) ?_ | (refine DQ.gsplitE rfl rfl rfl (fun hc => ?_) (fun hc => ?_) <;> (fail_if_success (exact absurd hc (by decide))) <;> (try simp only [hsx] at hc) <;> (try first | omega | contradiction | (simp [qa] at hc; done)))) | refine yn ?_ | refine yc ?_ | refine ya ?_ | refine yf ?_ | refine yh rfl ?_ | refine yg rfl ?_ | (refine yk rfl (fun hc => ?_) (fun hc => ?_) <;> (try simp only [hsx] at hc) <;> (try first | omega | contradiction | (simp [qa] at hc; done))) | refine yo ?_ | refine yd ?_ | refine yx mixed (by kernel_rfl) ?_))
  all_goals first
    | (rw [show doneW f c.node (all.take m) = ([], 2) by unfold doneW; rw [if_neg (by rw [qb]; exact hc)]]; exact RQ.fin rfl rfl rfl)
    | (rw [show doneW f c.node (all.take m) = (datF f c.node (all.take m), 0) by unfold doneW; rw [if_pos (by rw [qb]; exact hc)]]; exact yao rfl (ya0 (.cons (fzW rfl rfl) (.cons (Fz.im rfl) .nil))))
theorem qlh (f : List Node) : (f.map rowS).length = f.length := List.length_map _
def outB (f : List Node) (h : Int) : Bool := !inB f h
def ixOut (f : List Node) : List Int → Int → Int
  | [], _ => -1
  | h :: r, i => if outB f h = true then i else ixOut f r (i + 1)
theorem qfz (f : List Node) : ∀ (l : List Int) (i : Int), 0 ≤ i → (0 ≤ ixOut f l i ↔ (l.all fun h => inB f h) = false)
  | [], i, h => by simp [ixOut]
  | y :: r, i, h => by
    rw [ixOut, List.all_cons]
    by_cases e : inB f y = true
    · rw [if_neg (by simp [outB, e]), qfz f r (i + 1) (by omega), e, Bool.true_and]
    · rw [if_pos (by simpa [outB] using e)]
      simp [e, h]
theorem qhp (f : List Node) (h : Int) (hl : f.length ≤ 1000000000) : GenC Tryz.prog 187 [⟨24, 1, [[.os 1 f.length]]⟩, ⟨44, 16, f.map rowS⟩, ⟨130, 1, [[.ptr 0 1 0 0]]⟩] [iav h, .ptr 2 1 0 0] (bav (outB f h)) [⟨24, 1, [[.os 1 f.length]]⟩, ⟨44, 16, f.map rowS⟩, ⟨130, 1, [[.ptr 0 1 0 0]]⟩] := by
  have hR := qlh f
  refine yaj tabs Tryz.func187 15 [.tmp 3] rfl rfl rfl rfl rfl ?_; intro w0 X γ κ
  (repeat' (first | ((with_reducible show AL _ _ _ _ _); first | (refine AL.step tabs rfl ?_; try dsimp only [len, List.nil_append, List.cons_append]) | refine yad rfl (yau (b := ⟨44, 16, f.map rowS⟩) tabs rfl rfl rfl rfl rfl rfl hR.symm) rfl ?_ | refine ym ?_ | (refine yj rfl rfl rfl (fun hc => ?_) (fun hc => ?_) <;> (fail_if_success (exact absurd hc (by decide))) <;> (try simp only [hsx] at hc) <;> (try first | omega | contradiction | (simp [qa] at hc; done)))) | refine yn ?_ | refine yc ?_ | refine ya ?_ | refine yf ?_ | refine yo ?_ | refine yd ?_))
  · exact yam 3 rfl (by rw [show outB f h = true by simp [outB, inB]; omega]; rfl) rfl rfl (by simp only [qax]; exact ⟨rfl, qc _ _, rfl⟩) (by simp [cxG])
  · exact yam 3 rfl (by rw [show outB f h = dec ((f.length : Int) < h) by (rw [Bool.eq_iff_iff, qb]; simp only [outB, inB, Bool.not_eq_true', decide_eq_false_iff_not]; omega)]; rfl) rfl rfl (by simp only [qax]; exact ⟨rfl, qc _ _, rfl⟩) (by simp [cxG])
theorem qli (f : List Node) (l : List Int) (hl : f.length ≤ 1000000000) (hll : l.length ≤ 1000000000) : GenC Tryz.prog 194 [⟨24, 1, [[.os 1 f.length]]⟩, ⟨44, 16, f.map rowS⟩, ⟨130, 1, [[.ptr 0 1 0 0]]⟩] [.imm (.sl (l.map i64)), .fn 187 [.ptr 2 1 0 0]] (iav (ixOut f l 0)) [⟨24, 1, [[.os 1 f.length]]⟩, ⟨44, 16, f.map rowS⟩, ⟨130, 1, [[.ptr 0 1 0 0]]⟩] := by
  have hcl : (l.map cI).length = l.length := List.length_map _
  have hil : (l.map i64).length = l.length := List.length_map _
  refine yaj tabs Tryz.func194 19 [.tmp 4] rfl rfl rfl rfl rfl ?_; intro w0 X γ κ
  (repeat' (first | ((with_reducible show AL _ _ _ _ _); first | (refine AL.step tabs rfl ?_; try dsimp only [len, List.nil_append, List.cons_append]) | refine ym ?_ | (refine AL.op rfl (yi rfl rfl rfl rfl rfl (by omega) (by omega)) ?_) | (refine AL.op rfl (ye tabs rfl rfl rfl rfl rfl rfl rfl (fun _ => rfl) (by decide) (by omega) (by omega)) ?_)) | fail | refine yn ?_ | refine yc ?_ | refine ya ?_ | refine yf ?_ | refine AW.block ?_ | refine yt ?_ | refine yh rfl ?_ | refine yg rfl ?_ | (refine yk rfl (fun hc => ?_) (fun hc => ?_) <;> (try simp only [hsx] at hc) <;> (try first | omega | contradiction | (simp [qa] at hc; done))) | refine yo ?_ | refine yy ?_ | refine yd ?_ | refine yp ?_ | refine yw ?_ | refine yr ?_ | refine InB.off rfl ?_ | refine yz ?_ | refine yu ?_))
  refine yak (α := Int) (fun i => ⟨[(0, .imm (.sl (l.map i64))), (1, .fn 187 [.ptr 2 1 0 0]), (7, iav l.length), (8, iav i)], [⟨24, 1, [[.os 1 f.length]]⟩, ⟨44, 16, f.map rowS⟩, ⟨130, 1, [[.ptr 0 1 0 0]]⟩]⟩) (fun i => 0 ≤ i ∧ i ≤ l.length ∧ ixOut f (l.drop i.toNat) i = ixOut f l 0) (fun i => (l.length - i).toNat) 0 (yae 3 rfl (by repeat' (first | exact trivial | refine ⟨rfl, ?_⟩ | refine ⟨by rw [hil]; rfl, ?_⟩)) rfl (by simp only [qax]; exact ⟨rfl, qc _ _, rfl⟩) (by simp [cxG])) ⟨by omega, by omega, rfl⟩ ?_
  intro i ⟨h0, h1, h2⟩
  (repeat' (first | ((with_reducible show AL _ _ _ _ _); first | (refine AL.step tabs rfl ?_; try dsimp only [len, List.nil_append, List.cons_append]) | refine yac [0, 1, 2] 3 rfl rfl rfl rfl (caps := [.ptr 2 1 0 0]) rfl rfl (qhp f (atI l i) hl) rfl (by simp only [List.map_cons, List.map_nil, qk (k := 0) (rho0 rfl) (qc f 0), qn]; rfl) rfl rfl (by simp only [qax]; exact ⟨rfl, qc _ _, rfl⟩) rfl (by simp only [qax]; exact ⟨rfl, qc _ _, rfl⟩) rfl (hpA := [⟨24, 1, [[.os 1 f.length]]⟩, ⟨44, 16, f.map rowS⟩, ⟨130, 1, [[.ptr 0 1 0 0]]⟩]) (by simp only [List.map_cons, List.map_nil, qk (k := 0) (rho0 rfl) (qc f 0), qn]; rfl) (r' := bav (outB f (atI l i))) rfl rfl ?_ | refine ym ?_ | (refine AL.op rfl (yi rfl rfl rfl rfl rfl (by omega) (by omega)) ?_) | (refine AL.op rfl (ye tabs rfl rfl rfl rfl rfl rfl rfl (fun _ => rfl) (by decide) (by omega) (by omega)) ?_)) | refine yn ?_ | refine yc ?_ | refine ya ?_ | refine yf ?_ | refine AW.block ?_ | refine yt ?_ | refine yh rfl ?_ | refine yg rfl ?_ | (refine yk rfl (fun hc => ?_) (fun hc => ?_) <;> (try simp only [hsx] at hc) <;> (try first | omega | contradiction | (simp [qa] at hc; done))) | refine yo ?_ | refine yy ?_ | refine yd ?_ | refine yp ?_ | refine yw ?_ | refine yr ?_ | refine InB.off rfl ?_ | refine yz ?_ | refine yu ?_))
  · rw [← h2, qd h0 (by assumption), ixOut, if_pos hc]
    exact yam 3 rfl rfl rfl rfl (by simp only [qax]; exact ⟨rfl, qc _ _, rfl⟩) (by simp [cxG])
  · refine yag (i + 1) (yae 3 rfl (by repeat' (first | exact trivial | refine ⟨rfl, ?_⟩ | refine ⟨by rw [hil]; rfl, ?_⟩)) rfl (by simp only [qax]; exact ⟨rfl, qc _ _, rfl⟩) (by simp [cxG])) ⟨by omega, by omega, ?_⟩ (by omega)
    rw [← h2, qd h0 (by assumption), ixOut, if_neg (by rw [hc]; simp)]
  · rw [← h2, qat (by assumption)]
    exact yam 3 rfl rfl rfl rfl (by simp only [qax]; exact ⟨rfl, qc _ _, rfl⟩) (by simp [cxG])
theorem qlj (f : List Node) (l : List Int) (hl : f.length ≤ 1000000000) (hll : l.length ≤ 1000000000) : GenC Tryz.prog 194 [⟨24, 1, [[.os 1 f.length]]⟩, ⟨44, 16, f.map rowS⟩, ⟨130, 1, [[.ptr 0 1 0 0]]⟩, ⟨3, 1, l.map cI⟩] [.os 3 l.length, .fn 187 [.ptr 2 1 0 0]] (iav (ixOut f l 0)) [⟨24, 1, [[.os 1 f.length]]⟩, ⟨44, 16, f.map rowS⟩, ⟨130, 1, [[.ptr 0 1 0 0]]⟩, ⟨3, 1, l.map cI⟩] := by
  have hcl : (l.map cI).length = l.length := List.length_map _
  have hil : (l.map i64).length = l.length := List.length_map _
  refine yaj tabs Tryz.func194 19 [.tmp 4] rfl rfl rfl rfl rfl ?_; intro w0 X γ κ
  (repeat' (first | ((with_reducible show AL _ _ _ _ _); first | (refine AL.step tabs rfl ?_; try dsimp only [len, List.nil_append, List.cons_append]) | refine yad rfl (yau (b := ⟨3, 1, l.map cI⟩) tabs rfl rfl rfl rfl rfl rfl hcl.symm) rfl ?_ | refine ym ?_ | (refine AL.op rfl (yi rfl rfl rfl rfl rfl (by omega) (by omega)) ?_) | (refine AL.op rfl (ye tabs rfl rfl rfl rfl rfl rfl rfl (fun _ => rfl) (by decide) (by omega) (by omega)) ?_)) | refine yn ?_ | refine yc ?_ | refine ya ?_ | refine yf ?_ | refine AW.block ?_ | refine yt ?_ | refine yh rfl ?_ | refine yg rfl ?_ | (refine yk rfl (fun hc => ?_) (fun hc => ?_) <;> (try simp only [hsx] at hc) <;> (try first | omega | contradiction | (simp [qa] at hc; done))) | refine yo ?_ | refine yy ?_ | refine yd ?_ | refine yp ?_ | refine yw ?_ | refine yr ?_ | refine InB.off rfl ?_ | refine yz ?_ | refine yu ?_))
  refine yak (α := Int) (fun i => ⟨[(0, .os 3 l.length), (1, .fn 187 [.ptr 2 1 0 0]), (7, iav l.length), (8, iav i)], [⟨24, 1, [[.os 1 f.length]]⟩, ⟨44, 16, f.map rowS⟩, ⟨130, 1, [[.ptr 0 1 0 0]]⟩, ⟨3, 1, l.map cI⟩]⟩) (fun i => 0 ≤ i ∧ i ≤ l.length ∧ ixOut f (l.drop i.toNat) i = ixOut f l 0) (fun i => (l.length - i).toNat) 0 (yae 4 rfl (by repeat' (first | exact trivial | refine ⟨rfl, ?_⟩ | refine ⟨by rw [hil]; rfl, ?_⟩)) rfl (by simp only [qax]; exact ⟨rfl, qc _ _, rfl, qbu _ _⟩) (by simp [cxG])) ⟨by omega, by omega, rfl⟩ ?_
  intro i ⟨h0, h1, h2⟩
  (repeat' (first | ((with_reducible show AL _ _ _ _ _); first | (refine AL.step tabs rfl ?_; try dsimp only [len, List.nil_append, List.cons_append]) | refine yac [0, 1, 2] 4 rfl rfl rfl rfl (caps := [.ptr 2 1 0 0]) rfl rfl (qhp f (atI l i) hl) rfl (by simp only [List.map_cons, List.map_nil, qk (k := 0) (rho0 rfl) (qc f 0), qn]; rfl) rfl rfl (by simp only [qax]; exact ⟨rfl, qc _ _, rfl⟩) rfl (by simp only [qax]; exact ⟨rfl, qc _ _, rfl⟩) rfl (hpA := [⟨24, 1, [[.os 1 f.length]]⟩, ⟨44, 16, f.map rowS⟩, ⟨130, 1, [[.ptr 0 1 0 0]]⟩]) (by simp only [List.map_cons, List.map_nil, qk (k := 0) (rho0 rfl) (qc f 0), qn]; rfl) (r' := bav (outB f (atI l i))) rfl rfl ?_ | refine yad rfl (yan (b := ⟨3, 1, l.map cI⟩) tabs rfl rfl rfl rfl rfl rfl rfl rfl hcl.symm rfl (by omega) (by omega)) rfl ?_ | refine yad rfl (ya8 (i := ti3) (g := cI) (xs := l) (v := iav (atI l i)) tabs rfl rfl rfl rfl rfl rfl (by omega) (by omega) rfl) rfl ?_ | refine ym ?_ | (refine AL.op rfl (yi rfl rfl rfl rfl rfl (by omega) (by omega)) ?_) | (refine AL.op rfl (ye tabs rfl rfl rfl rfl rfl rfl rfl (fun _ => rfl) (by decide) (by omega) (by omega)) ?_)) | refine yn ?_ | refine yc ?_ | refine ya ?_ | refine yf ?_ | refine AW.block ?_ | refine yt ?_ | refine yh rfl ?_ | refine yg rfl ?_ | (refine yk rfl (fun hc => ?_) (fun hc => ?_) <;> (try simp only [hsx] at hc) <;> (try first | omega | contradiction | (simp [qa] at hc; done))) | refine yo ?_ | refine yy ?_ | refine yd ?_ | refine yp ?_ | refine yw ?_ | refine yr ?_ | refine InB.off rfl ?_ | refine yz ?_ | refine yu ?_))
  · rw [← h2, qd h0 (by assumption), ixOut, if_pos hc]
    exact yam 4 rfl rfl rfl rfl (by simp only [qax]; exact ⟨rfl, qc _ _, rfl, qbu _ _⟩) (by simp [cxG])
  · refine yag (i + 1) (yae 4 rfl (by repeat' (first | exact trivial | refine ⟨rfl, ?_⟩ | refine ⟨by rw [hil]; rfl, ?_⟩)) rfl (by simp only [qax]; exact ⟨rfl, qc _ _, rfl, qbu _ _⟩) (by simp [cxG])) ⟨by omega, by omega, ?_⟩ (by omega)
    rw [← h2, qd h0 (by assumption), ixOut, if_neg (by rw [hc]; simp)]
  · rw [← h2, qat (by assumption)]
    exact yam 4 rfl rfl rfl rfl (by simp only [qax]; exact ⟨rfl, qc _ _, rfl, qbu _ _⟩) (by simp [cxG])
theorem qgy (f : List Node) (l : List Int) (hl : f.length ≤ 1000000000) (hll : l.length ≤ 1000000000) : GenC Tryz.prog 186 [⟨24, 1, [[.os 1 f.length]]⟩, ⟨44, 16, f.map rowS⟩, ⟨130, 1, [[.ptr 0 1 0 0]]⟩] [.imm (.sl (l.map i64)), .fn 187 [.ptr 2 1 0 0]] (bav (dec (0 ≤ ixOut f l 0))) [⟨24, 1, [[.os 1 f.length]]⟩, ⟨44, 16, f.map rowS⟩, ⟨130, 1, [[.ptr 0 1 0 0]]⟩] := by
  refine yaj tabs Tryz.func186 9 [.tmp 4] rfl rfl rfl rfl rfl ?_; intro w0 X γ κ
  (repeat' (first | ((with_reducible show AL _ _ _ _ _); first | (refine AL.step tabs rfl ?_; try dsimp only [len, List.nil_append, List.cons_append]) | refine yac [0, 1, 2] 3 rfl rfl rfl rfl rfl (caps := []) rfl (qli f l hl hll) rfl (by simp only [List.map_cons, List.map_nil, qk (k := 0) (rho0 rfl) (qc f 0), qn]; rfl) rfl rfl (by simp only [qax]; exact ⟨rfl, qc _ _, rfl⟩) rfl (by simp only [qax]; exact ⟨rfl, qc _ _, rfl⟩) rfl (hpA := [⟨24, 1, [[.os 1 f.length]]⟩, ⟨44, 16, f.map rowS⟩, ⟨130, 1, [[.ptr 0 1 0 0]]⟩]) (by simp only [List.map_cons, List.map_nil, qk (k := 0) (rho0 rfl) (qc f 0), qn]; rfl) (r' := iav (ixOut f l 0)) rfl rfl ?_ | refine ym ?_) | refine yn ?_ | refine yc ?_ | refine ya ?_ | refine yf ?_ | refine yo ?_ | refine yd ?_))
  exact yam 3 rfl rfl rfl rfl (by simp only [qax]; exact ⟨rfl, qc _ _, rfl⟩) (by simp [cxG])
theorem qgz (f : List Node) (l : List Int) (hl : f.length ≤ 1000000000) (hll : l.length ≤ 1000000000) : GenC Tryz.prog 186 [⟨24, 1, [[.os 1 f.length]]⟩, ⟨44, 16, f.map rowS⟩, ⟨130, 1, [[.ptr 0 1 0 0]]⟩, ⟨3, 1, l.map cI⟩] [.os 3 l.length, .fn 187 [.ptr 2 1 0 0]] (bav (dec (0 ≤ ixOut f l 0))) [⟨24, 1, [[.os 1 f.length]]⟩, ⟨44, 16, f.map rowS⟩, ⟨130, 1, [[.ptr 0 1 0 0]]⟩, ⟨3, 1, l.map cI⟩] := by
  refine yaj tabs Tryz.func186 9 [.tmp 4] rfl rfl rfl rfl rfl ?_; intro w0 X γ κ
  (repeat' (first | ((with_reducible show AL _ _ _ _ _); first | (refine AL.step tabs rfl ?_; try dsimp only [len, List.nil_append, List.cons_append]) | refine yac [0, 1, 2, 3] 4 rfl rfl rfl rfl rfl (caps := []) rfl (qlj f l hl hll) rfl (by simp only [List.map_cons, List.map_nil, qk (k := 0) (rho0 rfl) (qc f 0), qn]; rfl) rfl rfl (by simp only [qax]; exact ⟨rfl, qc _ _, rfl, qbu _ _⟩) rfl (by simp only [qax]; exact ⟨rfl, qc _ _, rfl, qbu _ _⟩) rfl (hpA := [⟨24, 1, [[.os 1 f.length]]⟩, ⟨44, 16, f.map rowS⟩, ⟨130, 1, [[.ptr 0 1 0 0]]⟩, ⟨3, 1, l.map cI⟩]) (by simp only [List.map_cons, List.map_nil, qk (k := 0) (rho0 rfl) (qc f 0), qn]; rfl) (r' := iav (ixOut f l 0)) rfl rfl ?_ | refine ym ?_) | refine yn ?_ | refine yc ?_ | refine ya ?_ | refine yf ?_ | refine yo ?_ | refine yd ?_))
  exact yam 4 rfl rfl rfl rfl (by simp only [qax]; exact ⟨rfl, qc _ _, rfl, qbu _ _⟩) (by simp [cxG])
theorem notix (f : List Node) (l : List Int) : (!dec (0 ≤ ixOut f l 0)) = l.all fun h => inB f h := by
  rw [show (0 ≤ ixOut f l 0) = ((l.all fun h => inB f h) = false) from propext (qfz f l 0 (Int.le_refl _))]
  cases h : l.all fun h => inB f h
  · rw [qaw rfl]; rfl
  · rw [qw (by simp)]; rfl
theorem thereI (f : List Node) (l : List Int) (hl : f.length ≤ 1000000000) (hll : l.length ≤ 1000000000) : GenC Tryz.prog 158 [⟨24, 1, [[.os 1 f.length]]⟩, ⟨44, 16, f.map rowS⟩] [.ptr 0 1 0 0, .imm (.sl (l.map i64))] (bav (l.all fun h => inB f h)) [⟨24, 1, [[.os 1 f.length]]⟩, ⟨44, 16, f.map rowS⟩] := by
  rw [← notix]
  refine yaj tabs Tryz.func158 9 [.tmp 4] rfl rfl rfl rfl rfl ?_; intro w0 X γ κ
  (repeat' (first | ((with_reducible show AL _ _ _ _ _); first | (refine AL.step tabs rfl ?_; try dsimp only [len, List.nil_append, List.cons_append]) | refine yac [0, 1, 2] 3 rfl rfl rfl rfl rfl (caps := []) rfl (qgy f l hl hll) rfl (by simp only [List.map_cons, List.map_nil, qk (k := 0) (rho0 rfl) (qc f 0), qn]; rfl) rfl rfl (by simp only [qax]; exact ⟨rfl, qc _ _, rfl⟩) rfl (by simp only [qax]; exact ⟨rfl, qc _ _, rfl⟩) rfl (hpA := [⟨24, 1, [[.os 1 f.length]]⟩, ⟨44, 16, f.map rowS⟩, ⟨130, 1, [[.ptr 0 1 0 0]]⟩]) (by simp only [List.map_cons, List.map_nil, qk (k := 0) (rho0 rfl) (qc f 0), qn]; rfl) (r' := bav (dec (0 ≤ ixOut f l 0))) rfl rfl ?_ | refine ym ?_) | refine yn ?_ | refine yc ?_ | refine ya ?_ | refine yf ?_ | refine yo ?_ | refine yd ?_))
  exact yam 2 rfl rfl rfl rfl (by simp only [qax]; exact ⟨rfl, qc _ _⟩) (by simp [cxG])
theorem thereO (f : List Node) (l : List Int) (hl : f.length ≤ 1000000000) (hll : l.length ≤ 1000000000) : GenC Tryz.prog 158 [⟨24, 1, [[.os 1 f.length]]⟩, ⟨44, 16, f.map rowS⟩, ⟨3, 1, l.map cI⟩] [.ptr 0 1 0 0, .os 2 l.length] (bav (l.all fun h => inB f h)) [⟨24, 1, [[.os 1 f.length]]⟩, ⟨44, 16, f.map rowS⟩, ⟨3, 1, l.map cI⟩] := by
  rw [← notix]
  refine yaj tabs Tryz.func158 9 [.tmp 4] rfl rfl rfl rfl rfl ?_; intro w0 X γ κ
  (repeat' (first | ((with_reducible show AL _ _ _ _ _); first | (refine AL.step tabs rfl ?_; try dsimp only [len, List.nil_append, List.cons_append]) | refine yac [0, 1, 3, 2] 4 rfl rfl rfl rfl rfl (caps := []) rfl (qgz f l hl hll) rfl (by simp only [List.map_cons, List.map_nil, qk (k := 0) (rho0 rfl) (qc f 0), qn]; rfl) rfl rfl (by simp only [qax]; exact ⟨rfl, qc _ _, rfl, qbu _ _⟩) rfl (by simp only [qax]; exact ⟨rfl, qc _ _, rfl, qbu _ _⟩) rfl (hpA := [⟨24, 1, [[.os 1 f.length]]⟩, ⟨44, 16, f.map rowS⟩, ⟨130, 1, [[.ptr 0 1 0 0]]⟩, ⟨3, 1, l.map cI⟩]) (by simp only [List.map_cons, List.map_nil, qk (k := 0) (rho0 rfl) (qc f 0), qn]; rfl) (r' := bav (dec (0 ≤ ixOut f l 0))) rfl rfl ?_ | refine ym ?_) | refine yn ?_ | refine yc ?_ | refine ya ?_ | refine yf ?_ | refine yo ?_ | refine yd ?_))
  exact yam 3 rfl rfl rfl rfl (by simp only [qax]; exact ⟨rfl, qc _ _, qbu _ _⟩) (by simp [cxG])
theorem qon (f : List Node) (c : Change) (hl : f.length ≤ 1000000000) : GenC Tryz.prog 128 [⟨24, 1, [[.os 1 f.length]]⟩, ⟨44, 16, f.map rowS⟩] [.ptr 0 1 0 0, c.av] (bav ([c.node, c.other].all fun h => inB f h)) [⟨24, 1, [[.os 1 f.length]]⟩, ⟨44, 16, f.map rowS⟩] := by
  refine yaj tabs Tryz.func128 12 [.tmp 4] rfl rfl rfl rfl rfl ?_; intro w0 X γ κ
  (repeat' (first | ((with_reducible show AL _ _ _ _ _); first | (refine AL.step tabs rfl ?_; try dsimp only [len, List.nil_append, List.cons_append]) | refine yac [0, 1, 3] 4 rfl rfl rfl rfl rfl (caps := []) rfl (thereO f [c.node, c.other] hl (by simp)) rfl (by simp only [List.map_cons, List.map_nil, qk (k := 0) (rho0 rfl) (qc f 0), qn]; rfl) rfl rfl (by simp only [qax]; exact ⟨rfl, qc _ _, qbu _ _⟩) rfl (by simp only [qax]; exact ⟨rfl, qc _ _, qbu _ _⟩) rfl (hpA := [⟨24, 1, [[.os 1 f.length]]⟩, ⟨44, 16, f.map rowS⟩, ⟨3, 1, [c.node, c.other].map cI⟩]) (by simp only [List.map_cons, List.map_nil, qk (k := 0) (rho0 rfl) (qc f 0), qn]; rfl) (r' := bav ([c.node, c.other].all fun h => inB f h)) rfl rfl ?_ | refine ym ?_) | refine yn ?_ | refine yc ?_ | refine ya ?_ | refine yf ?_ | refine yo ?_ | refine yd ?_))
  exact yam 2 rfl rfl rfl rfl (by simp only [qax]; exact ⟨rfl, qc _ _⟩) (by simp [cxG])
def treeP (f : List Node) (c : Change) : Prop := inB f c.parent = true ∧ (c.added.all fun h => inB f h) = true ∧ (c.removed.all fun h => inB f h) = true ∧ (c.prev = 0 ∨ inB f c.prev = true) ∧ (c.next = 0 ∨ inB f c.next = true)
theorem qnn (l : List Int) (i : Int) (h0 : 0 ≤ i) (h1 : i ≤ l.length) (hl : l.length ≤ 1000000000) : PureC Tryz.prog 180 [.imm (.sl (l.map u16)), iav i, .imm (.sl (([] : List Int).map u16))] (.imm (.sl (l.map u16))) := by
  refine yq tabs Tryz.func180 95 [.tmp 6] rfl rfl rfl rfl rfl ?_; intro w0 X
  (repeat' (first | ((with_reducible show AL _ _ _ _ _); first | (refine AL.step tabs rfl ?_; try dsimp only [len, List.nil_append, List.cons_append]) | refine AL.op rfl (yay (i := ti36) (ie := ti55) (e := 55) (f := u16) (xs := l) (l := i) (h := l.length) tabs rfl rfl rfl rfl rfl rfl rfl rfl (fun _ => rfl) (by omega) (by omega) (by omega)) ?_ | refine ym ?_ | (refine AL.op rfl (yi rfl rfl rfl rfl rfl (by omega) (by omega)) ?_)) | ((with_reducible show DQ _ _ _ _ _ _); first | refine DQ.stepc (LS.val tabs rfl rfl rfl) rfl rfl rfl rfl rfl ?_ | refine DQ.stepc (yab rfl rfl) rfl rfl rfl rfl rfl ?_ | refine DQ.nilM (by kernel_rfl) ?_ | refine DQ.stepc (yaf rfl rfl rfl rfl rfl rfl (by omega) (by omega)) rfl rfl rfl rfl rfl ?_) | (exfalso; omega) | refine yn ?_ | refine yc ?_ | refine ya ?_ | refine yf ?_ | refine yh rfl ?_ | refine yg rfl ?_ | (refine yk rfl (fun hc => ?_) (fun hc => ?_) <;> (try simp only [hsx] at hc) <;> (try first | omega | contradiction | (simp [qa] at hc; done))) | refine yo ?_ | refine yd ?_ | refine yx mixed (by kernel_rfl) ?_))
  all_goals first
    | exact RQ.fin rfl rfl rfl
    | (exfalso; simp at *; done)
theorem qoo (l : List Int) (i : Int) (h0 : 0 ≤ i) (h1 : i ≤ l.length) (hl : l.length ≤ 1000000000) : PureC Tryz.prog 155 [.imm (.sl (l.map u16)), iav i, iav i, .imm (.sl (([] : List Int).map u16))] (.imm (.sl (l.map u16))) := by
  refine yq tabs Tryz.func155 224 [.tmp 8] rfl rfl rfl rfl rfl ?_; intro w0 X
  (repeat' (first | ((with_reducible show AL _ _ _ _ _); first | (refine AL.step tabs rfl ?_; try dsimp only [len, List.nil_append, List.cons_append]) | refine AL.op rfl (yay (i := ti36) (ie := ti55) (e := 55) (f := u16) (xs := l) (l := i) (h := i) tabs rfl rfl rfl rfl rfl rfl rfl rfl (fun _ => rfl) (by omega) (by omega) (by omega)) ?_ | refine AL.op rfl (yb rfl rfl rfl rfl (qnn l i h0 h1 hl) rfl) ?_ | refine ym ?_ | (refine AL.op rfl (yi rfl rfl rfl rfl rfl (by omega) (by omega)) ?_)) | ((with_reducible show DQ _ _ _ _ _ _); first | refine DQ.stepc (LS.val tabs rfl rfl rfl) rfl rfl rfl rfl rfl ?_ | refine DQ.stepc (yab rfl rfl) rfl rfl rfl rfl rfl ?_ | refine DQ.nilM (by kernel_rfl) ?_ | refine DQ.stepc (yaf rfl rfl rfl rfl rfl rfl (by omega) (by omega)) rfl rfl rfl rfl rfl ?_) | (exfalso; omega) | refine yn ?_ | refine yc ?_ | refine ya ?_ | refine yf ?_ | refine yh rfl ?_ | refine yg rfl ?_ | (refine yk rfl (fun hc => ?_) (fun hc => ?_) <;> (try simp only [hsx] at hc) <;> (try first | omega | contradiction | (simp [qa] at hc; done))) | refine yo ?_ | refine yd ?_ | refine yx mixed (by kernel_rfl) ?_))
  all_goals first
    | exact RQ.fin rfl rfl rfl
    | (exfalso; omega)
theorem at_s (f : List Node) (h : Int) (hf : Fit f) (h1 : 1 ≤ h) (h2 : h ≤ f.length) : GenC Tryz.prog 145 [⟨44, 16, f.map rowS⟩] [.agg [.os 0 f.length], iav h] (.tup [(atI f (h - 1)).av, bav true]) [⟨44, 16, f.map rowS⟩] := by
  have hl := hf.len
  have hR : (f.map rowS).length = f.length := List.length_map _
  have gat : (f.map rowS)[(h - 1).toNat]? = some (rowS (atI f (h - 1))) := qav (by omega) (by omega) (qcs _ _ _ (by omega) (by omega))
  refine yaj tabs Tryz.func145 22 [.cell 4 44, .tmp 5] rfl rfl rfl rfl rfl ?_; intro w0 X γ κ
  (repeat' (first | ((with_reducible show AL _ _ _ _ _); first | (refine AL.step tabs rfl ?_; try dsimp only [len, List.nil_append, List.cons_append]) | refine yad rfl (yau (b := ⟨44, 16, f.map rowS⟩) tabs rfl rfl rfl rfl rfl rfl hR.symm) rfl ?_ | (refine AL.op rfl (yi rfl rfl rfl rfl rfl (by omega) (by omega)) ?_) | refine yad rfl (yan (b := ⟨44, 16, f.map rowS⟩) tabs rfl rfl rfl rfl rfl rfl rfl rfl hR.symm rfl (by omega) (by omega)) rfl ?_ | refine yad rfl (ya2 (i := ti44) (r := rowS (atI f (h - 1))) (b := ⟨44, 16, f.map rowS⟩) (row := (h - 1).toNat) tabs rfl rfl rfl rfl rfl hR.symm gat rfl) rfl ?_ | refine ym ?_ | (refine yj rfl rfl rfl (fun hc => ?_) (fun hc => ?_) <;> (fail_if_success (exact absurd hc (by decide))) <;> (try simp only [hsx] at hc) <;> (try first | omega | contradiction | (simp [qa] at hc; done))) | (refine AL.op rfl (yi rfl rfl rfl rfl rfl (by omega) (by omega)) ?_) | (refine AL.op rfl (ye tabs rfl rfl rfl rfl rfl rfl rfl (fun _ => rfl) (by decide) (by omega) (by omega)) ?_)) | refine yn ?_ | refine yc ?_ | refine ya ?_ | refine yf ?_ | refine yh rfl ?_ | refine yg rfl ?_ | (refine yk rfl (fun hc => ?_) (fun hc => ?_) <;> (try simp only [hsx] at hc) <;> (try first | omega | contradiction | (simp [qa] at hc; done))) | refine yo ?_ | refine yd ?_))
  all_goals first
    | (exfalso; omega)
    | (refine yam 1 rfl rfl rfl rfl ?_ (by simp [cxG])
       simp only [qax]
       exact qc _ _)
theorem qlk (f : List Node) (c : Change) (hf : Fit f) (h1 : 1 ≤ c.node) (h2 : c.node ≤ f.length) (hd : (traitsOf (atI f (c.node - 1)).kind).data = true)
    (ho0 : 0 ≤ c.offset) (hc0 : c.count = 0) (hoc : c.offset ≤ (atI f (c.node - 1)).data.length) (hcd : c.data = []) :
    GenC Tryz.prog 120 [⟨24, 1, [[.os 1 f.length]]⟩, ⟨44, 16, f.map rowS⟩] [.ptr 0 1 0 0, c.av] (bav true) [⟨24, 1, [[.os 1 f.length]]⟩, ⟨44, 16, f.map rowS⟩] := by
  have hl := hf.len
  obtain ⟨nd, hnd⟩ : ∃ nd, nd = atI f (c.node - 1) := ⟨_, rfl⟩
  have hfn : nd.data.length ≤ 1000000000 := by rw [hnd]; exact (hf.atI (c.node - 1) (by omega) (by omega)).data
  have hR : (f.map rowS).length = f.length := List.length_map _
  have hml : (List.map u16 nd.data).length = nd.data.length := List.length_map _
  have hat := at_s f c.node hf h1 h2
  rw [← hnd] at hat hd hoc
  have gpar : (f.map rowS)[(c.node - 1).toNat]? = some (rowS nd) := qav (by omega) (by omega) (by rw [qcs _ _ _ (by omega) (by omega), hnd])
  have hset : (f.map rowS).set (c.node - 1).toNat (rowS nd) = f.map rowS := by
    have := qe9 (f.map rowS) (c.node - 1) (by omega) (by rw [hR]; omega)
    rw [qcs _ _ _ (by omega) (by omega), ← hnd] at this
    exact this
  have hrep : PureC Tryz.prog 155 [.imm (.sl (nd.data.map u16)), iav c.offset, iav (c.offset + c.count), .imm (.sl (c.data.map u16))] (.imm (.sl (nd.data.map u16))) := by
    rw [hc0, Int.add_zero, hcd]
    exact qoo nd.data c.offset ho0 hoc hfn
  refine yaj tabs Tryz.func120 75 [.tmp 4] rfl rfl rfl rfl rfl ?_; intro w0 X γ κ
  refine AW.reserve 44 16 rfl ?_
  (repeat' (first | ((with_reducible show AL _ _ _ _ _); first | (refine AL.step tabs rfl ?_; try dsimp only [len, List.nil_append, List.cons_append]) | refine AL.op rfl (yb rfl rfl rfl rfl (qdi nd.kind) rfl) ?_ | refine ym ?_ | (refine yj rfl rfl rfl (fun hc => ?_) (fun hc => ?_) <;> (fail_if_success (exact absurd hc (by decide))) <;> (try simp only [hsx] at hc) <;> (try first | omega | contradiction | (simp [qa] at hc; done))) | (refine AL.op rfl (yi rfl rfl rfl rfl rfl (by omega) (by omega)) ?_) | (refine AL.op rfl (ye tabs rfl rfl rfl rfl rfl rfl rfl (fun _ => rfl) (by decide) (by omega) (by omega)) ?_)) | ((with_reducible show DQ _ _ _ _ _ _); first | refine DQ.stepc (LS.alloc 2 tabs rfl rfl rfl rfl rfl rfl) rfl rfl rfl rfl rfl ?_ | refine DQ.stepc (LS.store (i := ti44) (v := nd.av) (ty := 44) (sz := 16) (rows := [ti44.zero]) (r := ti44.zero) tabs rfl rfl rfl rfl rfl rfl rfl rfl rfl rfl (Nat.le_of_ble_eq_true rfl) rfl) rfl rfl rfl rfl rfl ?_ | refine DQ.stepc (yai rfl rfl rfl rfl rfl hrep rfl) rfl rfl rfl rfl rfl ?_ | refine DQ.stepc (yaq (b := ⟨44, 16, f.map rowS⟩) tabs rfl rfl rfl rfl rfl rfl rfl rfl rfl hR.symm rfl (by omega) (by omega)) rfl rfl rfl rfl rfl ?_ | refine DQ.stepc (yaw (b := ⟨44, 16, f.map rowS⟩) tabs rfl rfl rfl rfl rfl rfl rfl rfl rfl hR.symm) rfl rfl rfl rfl rfl ?_ | refine DQ.stepc (LS.store (i := ti36) (v := .imm (.sl (nd.data.map u16))) (ty := 44) (sz := 16) (rows := f.map rowS) (r := rowS nd) tabs rfl rfl rfl rfl rfl rfl rfl hR.symm rfl rfl (by decide) gpar) rfl rfl rfl rfl rfl ?_ | refine DQ.stepc (LS.val tabs rfl rfl rfl) rfl rfl rfl rfl rfl ?_ | refine DQ.stepc (yab rfl rfl) rfl rfl rfl rfl rfl ?_ | refine DQ.nilM (by kernel_rfl) ?_ | refine DQ.stepc (yaf rfl rfl rfl rfl rfl rfl (by omega) (by omega)) rfl rfl rfl rfl rfl ?_ | refine DQ.stepc (yaa tabs rfl rfl rfl rfl rfl rfl rfl rfl (fun _ => rfl) (by decide) (by omega) (by omega)) rfl rfl rfl rfl rfl ?_ | (refine DQ.gsplitE rfl rfl rfl (fun hc => ?_) (fun hc => ?_) <;> (fail_if_success (exact absurd hc (by decide))) <;> (try simp only [hsx] at hc) <;> (try first | omega | contradiction | (simp [qa] at hc; done)))) | ((with_reducible show M2.DQ _ _ _ _ _ _); first | refine M2.DQ.step2 (M2.LS.callG [1] (caps := []) rfl rfl rfl rfl rfl hat (fun _ => rfl) (bs := [⟨44, 16, f.map rowS⟩]) rfl (fun n => by simp only [List.map_cons, List.map_nil, qk (k := 0) (rho0 rfl) (qc f 0)]) rfl rfl (by simp only [List.all_cons, List.all_nil, Bool.and_true]; exact qc f _) rfl (by simp only [List.all_cons, List.all_nil, Bool.and_true]; exact qc f _) rfl (hpA := [⟨44, 16, f.map rowS⟩]) (fun n => by simp only [List.map_cons, List.map_nil, qk (k := 0) (rho0 rfl) (qc f 0)]) (r' := .tup [nd.av, bav true]) (fun _ => rfl)) rfl rfl rfl rfl rfl ?_ | refine M2.DQ.stepc (LS.alloc 2 tabs rfl rfl rfl rfl rfl rfl) rfl rfl rfl rfl rfl ?_ | refine M2.DQ.stepc (LS.store (i := ti44) (v := nd.av) (ty := 44) (sz := 16) (rows := [ti44.zero]) (r := ti44.zero) tabs rfl rfl rfl rfl rfl rfl rfl rfl rfl rfl (Nat.le_of_ble_eq_true rfl) rfl) rfl rfl rfl rfl rfl ?_ | refine M2.DQ.stepc (yai rfl rfl rfl rfl rfl hrep rfl) rfl rfl rfl rfl rfl ?_ | refine M2.DQ.stepc (yaq (b := ⟨44, 16, f.map rowS⟩) tabs rfl rfl rfl rfl rfl rfl rfl rfl rfl hR.symm rfl (by omega) (by omega)) rfl rfl rfl rfl rfl ?_ | refine M2.DQ.stepc (yaw (b := ⟨44, 16, f.map rowS⟩) tabs rfl rfl rfl rfl rfl rfl rfl rfl rfl hR.symm) rfl rfl rfl rfl rfl ?_ | refine M2.DQ.stepc (LS.store (i := ti36) (v := .imm (.sl (nd.data.map u16))) (ty := 44) (sz := 16) (rows := f.map rowS) (r := rowS nd) tabs rfl rfl rfl rfl rfl rfl rfl hR.symm rfl rfl (by decide) gpar) rfl rfl rfl rfl rfl ?_ | refine M2.DQ.stepc (LS.val tabs rfl rfl rfl) rfl rfl rfl rfl rfl ?_ | refine M2.DQ.stepc (yab rfl rfl) rfl rfl rfl rfl rfl ?_ | refine M2.DQ.nilM (by kernel_rfl) ?_ | refine M2.DQ.stepc (yaf rfl rfl rfl rfl rfl rfl (by omega) (by omega)) rfl rfl rfl rfl rfl ?_ | refine M2.DQ.stepc (yaa tabs rfl rfl rfl rfl rfl rfl rfl rfl (fun _ => rfl) (by decide) (by omega) (by omega)) rfl rfl rfl rfl rfl ?_ | (refine M2.DQ.gsplitE rfl rfl rfl (fun hc => ?_) (fun hc => ?_) <;> (fail_if_success (exact absurd hc (by decide))) <;> (try simp only [hsx] at hc) <;> (try first | omega | contradiction | (simp [qa] at hc; done)))) | (exfalso; omega) | refine M2.drawW (id := 1) mixed (by kernel_rfl) ?_ | refine M2.drawW (id := 4) mixed (by kernel_rfl) ?_ | refine yn ?_ | refine yc ?_ | refine ya ?_ | refine yf ?_ | refine yh rfl ?_ | refine yg rfl ?_ | (refine yk rfl (fun hc => ?_) (fun hc => ?_) <;> (try simp only [hsx] at hc) <;> (try first | omega | contradiction | (simp [qa] at hc; done))) | refine yo ?_ | refine yd ?_ | refine yx mixed (by kernel_rfl) ?_))
  all_goals first
    | (exfalso; omega)
    | (refine yam 2 rfl rfl (by rw [show ([⟨24, 1, [[.os 1 f.length]]⟩, ⟨44, 16, f.map rowS⟩] : List Blk) = [⟨24, 1, [[.os 1 f.length]]⟩, ⟨44, 16, (f.map rowS).set (c.node - 1).toNat (rowS nd)⟩] by rw [hset]]; rfl) rfl ?_ (by simp [cxG])
       simp only [qax]
       exact ⟨rfl, qc _ _⟩)
    | (exfalso; rw [hd] at hc; cases hc)
theorem doneSame (f : List Node) (c : Change) (hf : Fit f) (h0 : 0 < f.length) (hr : rightP f) (hck : c.kind = 5) (hcp : plainDa c = c) (h1 : 1 ≤ c.node) (h2 : c.node ≤ f.length) (hd : (traitsOf (atI f (c.node - 1)).kind).data = true)
    (ho0 : 0 ≤ c.offset) (hc0 : c.count = 0) (hoc : c.offset ≤ (atI f (c.node - 1)).data.length) (hcd : c.data = []) : PureC Tryz.prog 71 [fav f, c.av] (.tup [fav f, iav 0]) := by
  have hsame : PureC Tryz.prog 96 [c.av, (plainDa c).av] (bav true) := by
    rw [hcp]
    exact qan c (by rw [hcd]; simp) (by rw [← hcp]; exact fit0) (by rw [← hcp]; simp [plainDa, c0]) (by rw [← hcp]; simp [plainDa, c0]) (by omega) (by omega)
  have hins := qlk f c hf h1 h2 hd ho0 hc0 hoc hcd
  have hfst : ∀ j : Nat, j < 4 → stepKeys[j]? ≠ some c.kind := by
    intro j hj
    rw [hck]
    match j, hj with
    | 0, _ => decide
    | 1, _ => decide
    | 2, _ => decide
    | 3, _ => decide
  refine yq tabs Tryz.func71 51 [.cell 4 24, .tmp 5] rfl rfl rfl rfl rfl ?_; intro w0 X
  refine AW.reserve 44 16 rfl ?_
  refine AW.reserve 55 1 rfl ?_
  refine AW.reserve 126 4 rfl ?_
  (repeat' (first | ((with_reducible show AL _ _ _ _ _); first | (refine AL.step tabs rfl ?_; try dsimp only [len, List.nil_append, List.cons_append]) | refine yac [0] 6 rfl rfl rfl rfl rfl (caps := []) rfl (qfa f hf h0) rfl rfl rfl rfl rfl rfl (by simp only [List.all_cons, List.all_nil, Bool.and_true]; exact qc f _) rfl (hpA := [⟨44, 16, f.map rowS⟩]) (by simp only [List.map_cons, List.map_nil, qk (k := 0) (rho0 rfl) (qc f 0)]) (r' := .agg [.os 0 f.length]) rfl rfl ?_ | refine yac [6, 0] 7 rfl rfl rfl rfl rfl (caps := []) rfl hins rfl (by simp only [List.map_cons, List.map_nil, qk (k := 0) (rho0 rfl) (qc f 0)]; rfl) rfl rfl (by simp only [qax]; exact ⟨rfl, qc f _⟩) rfl (by simp only [qax]; exact ⟨rfl, qc f _⟩) rfl (hpA := [⟨24, 1, [[.os 0 f.length]]⟩, ⟨44, 16, f.map rowS⟩]) (by simp only [List.map_cons, List.map_nil, qk (k := 0) (rho0 rfl) (qc f 0)]; rfl) (r' := bav true) rfl rfl ?_ | refine AL.op rfl (yat rfl rfl rfl rfl (.cons (fzS rfl) .nil) (qbn f hf) rfl) ?_ | refine ym ?_ | (refine yj rfl rfl rfl (fun hc => ?_) (fun hc => ?_) <;> (fail_if_success (exact absurd hc (by decide))) <;> (try simp only [hsx] at hc) <;> (try first | omega | contradiction | (simp [qa] at hc; done)))) | ((with_reducible show DQ _ _ _ _ _ _); first | refine DQ.stepc (yai rfl rfl rfl rfl rfl qb3 rfl) rfl rfl rfl rfl rfl ?_ | refine DQ.stepc (ya4 (kf := k8) (q := c.kind) (xs := stepKeys) (i := 4) (v := [.fn 119, .fn 120, .bool false, .fn 121]) key56 Tryz.underlying128 zero126 rfl rfl rfl rfl rfl rfl (by rw [hck]; rfl) hfst rfl) rfl rfl rfl rfl rfl ?_ | refine DQ.stepc (LS.alloc 2 tabs rfl rfl rfl rfl rfl rfl) rfl rfl rfl rfl rfl ?_ | refine DQ.stepc (LS.store (i := ti126) (v := .agg [.imm (.fn 119), .imm (.fn 120), .imm (.bool false), .imm (.fn 121)]) (ty := 126) (sz := 4) (rows := [ti126.zero]) (r := ti126.zero) tabs rfl rfl rfl rfl rfl rfl rfl rfl rfl rfl (Nat.le_of_ble_eq_true rfl) rfl) rfl rfl rfl rfl rfl ?_ | refine DQ.stepc (yai rfl rfl rfl rfl rfl (qcu c) rfl) rfl rfl rfl rfl rfl ?_ | refine DQ.stepc (yai rfl rfl rfl rfl rfl hsame rfl) rfl rfl rfl rfl rfl ?_ | refine DQ.stepc (LS.val tabs rfl rfl rfl) rfl rfl rfl rfl rfl ?_ | refine DQ.stepc (yab rfl rfl) rfl rfl rfl rfl rfl ?_ | refine DQ.nilM (by kernel_rfl) ?_ | (refine DQ.gsplitE rfl rfl rfl (fun hc => ?_) (fun hc => ?_) <;> (fail_if_success (exact absurd hc (by decide))) <;> (try simp only [hsx] at hc) <;> (try first | omega | contradiction | (simp [qa] at hc; done)))) | refine yn ?_ | refine yc ?_ | refine ya ?_ | refine yf ?_ | refine yh rfl ?_ | refine yg rfl ?_ | (refine yk rfl (fun hc => ?_) (fun hc => ?_) <;> (try simp only [hsx] at hc) <;> (try first | omega | contradiction | (simp [qa] at hc; done))) | refine yo ?_ | refine yd ?_ | refine yx mixed (by kernel_rfl) ?_))
  all_goals first
    | (exfalso; exact hc hr)
    | exact yao rfl (ya0 (.cons (fzS rfl) (.cons (Fz.im rfl) .nil)))
end Go.Proofs.YtmhejcnaanocpaaGreat.A
