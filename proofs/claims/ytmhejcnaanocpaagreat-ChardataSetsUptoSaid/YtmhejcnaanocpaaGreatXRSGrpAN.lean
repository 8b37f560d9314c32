/- Contracts: forest.done, forest.Apply, of a node that is made and of one that is put in at the end. -/
import Derived.Test.YtmhejcnaanocpaaGreatXRSGrpAM
namespace Go.Proofs.YtmhejcnaanocpaaGreat.A
set_option linter.unusedVariables false
set_option linter.unusedSimpArgs false
set_option maxRecDepth 100000
set_option maxHeartbeats 4000000
section
variable {C : Cx} {s : St}
theorem fzS {f : List Node} {id : Nat} (hb : nth s.hp id = some ⟨44, 16, f.map rowS⟩) : Fz C s (.agg [.os id f.length]) (fav f) :=
  ybs (.cons (Fz.os (b := ⟨44, 16, f.map rowS⟩) hb (List.length_map _).symm (by rw [List.map_map]; rfl)) .nil)
theorem fzSn {f : List Node} {n : Node} {id : Nat} (hb : nth s.hp id = some ⟨44, 16, (f ++ [n]).map rowS⟩) : Fz C s (.agg [.os id (f.length + 1)]) (fav (f ++ [n])) := by
  have := fzS (C := C) hb
  rw [List.length_append] at this
  exact this
theorem fzRow {n : Node} {k : AV} (hk : FzI C s k (.sl (n.kids.map i64))) : All2 (FzI C s) (nodeRow n k) n.iv :=
  .cons (.imm _) (.cons (.imm _) (.cons (.imm _) (.cons (.imm _) (.cons (.imm _) (.cons (.imm _) (.cons (.imm _) (.cons (.imm _) (.cons (.imm _) (.cons hk (.cons (.imm _) (.cons (.imm _) (.cons (.imm _) (.cons (.imm _) (.cons (.imm _) (.cons (.imm _) .nil)))))))))))))))
theorem qev {α : Type} [Inhabited α] (l : List α) (p : Int) (hp : 0 ≤ p) (hp1 : p < l.length) : l.set p.toNat (atI l p) = l := by
  refine qeu (by simp) fun i h0 h1 => ?_
  rw [qt _ _ _ _ hp hp1 h0]
  split
  · rename_i e; rw [e]
  · rfl
theorem fzK {f : List Node} {p : Int} {id kid m : Nat} (hp : 0 ≤ p) (hp1 : p < f.length) (hm : m = (atI f p).kids.length) (hb : nth s.hp id = some ⟨44, 16, rowsK f p (.os kid m)⟩) (hk : nth s.hp kid = some ⟨3, 1, (atI f p).kids.map cI⟩) : Fz C s (.agg [.os id f.length]) (fav f) := by
  refine ybs (.cons (Fz.osN (b := ⟨44, 16, rowsK f p (.os kid m)⟩) hb (qag _ _ _).symm (by simp [qag]) (by
    intro r hr
    obtain ⟨n, _, rfl⟩ := List.mem_map.1 hr
    rfl) (qfc ?_)) .nil)
  have h1 : All2 (All2 (FzI C s)) (f.map rowS) (f.map Node.iv) := qbp (fun n => fzRow (FzI.imm _)) f
  have h2 : All2 (FzI C s) (nodeRow (atI f p) (.os kid m)) (atI f p).iv := fzRow (FzI.of (Fz.os (b := ⟨3, 1, (atI f p).kids.map cI⟩) hk (by rw [hm]; simp) (by rw [List.map_map]; rfl)))
  have h3 := h1.set h2 p.toNat
  have e : (f.map Node.iv).set p.toNat (atI f p).iv = f.map Node.iv := by
    have := qev (f.map Node.iv) p hp (by simpa using hp1)
    rw [qch _ _ _ hp hp1] at this
    exact this
  rw [e] at h3
  exact h3
end
theorem qam (ρ : Nat → Nat) (f : List Node) (p : Int) (k : AV) : renB ρ ⟨44, 16, rowsK f p k⟩ = ⟨44, 16, rowsK f p (ren1 ρ k)⟩ := by
  unfold renB rowsK
  congr 1
  simp only [List.map_set, List.map_map]
  congr 1
theorem qku (f : List Node) : (f.map rowS).all (fun r => r.all AV.dat) = true := by
  rw [List.all_map, List.all_eq_true]
  exact fun n _ => rfl
theorem qm0 (f : List Node) : ∀ r ∈ f.map rowS, r.length = 16 := by
  intro r hr
  obtain ⟨n, _, rfl⟩ := List.mem_map.1 hr
  rfl
theorem qiu (f : List Node) (p : Int) : (rowsK f p .nocap).all (fun r => r.all AV.dat) = true := by
  rw [List.all_eq_true]
  intro r hr
  rcases qds hr with rfl | ⟨n, _, rfl⟩ <;> rfl
theorem qkv (f : List Node) (p : Int) (k : AV) : ∀ r ∈ rowsK f p k, r.length = 16 := by
  intro r hr
  rcases qds hr with rfl | ⟨n, _, rfl⟩ <;> rfl
theorem qkw (f : List Node) (hf : Fit f) (i : Int) (h0 : 0 ≤ i) (h1 : i < f.length) : PureC Tryz.prog 94 [(atI f i).av] (.agg (atI (f.map rowS) i)) := by
  rw [qch _ _ _ h0 h1]
  exact qa0 _ (hf.atI i h0 h1)
theorem qiv (f : List Node) (p : Int) (hf : Fit f) (hp : 0 ≤ p) (hp1 : p < f.length) (hk : (atI f p).kids = []) (i : Int) (h0 : 0 ≤ i) (h1 : i < f.length) : PureC Tryz.prog 94 [(atI f i).av] (.agg (atI (rowsK f p .nocap) i)) := by
  rw [qz f p _ hp hp1 i h0 h1]
  split
  · rename_i e
    subst e
    exact qf8 _ (hf.atI i h0 h1) hk
  · exact qa0 _ (hf.atI i h0 h1)
theorem qew (f : List Node) (hf : Fit f) (h1 : 0 < f.length) : GenC Tryz.prog 70 [⟨44, 16, []⟩] [fav f] (.agg [.os 0 f.length]) [⟨44, 16, f.map rowS⟩] := qet f (f.map rowS) hf h1 (List.length_map _) (qku f) (qm0 f) (qkw f hf)
theorem qkx (f : List Node) (p : Int) (hf : Fit f) (hp : 0 ≤ p) (hp1 : p < f.length) (hk : (atI f p).kids = []) : GenC Tryz.prog 70 [⟨44, 16, []⟩] [fav f] (.agg [.os 0 f.length]) [⟨44, 16, rowsK f p .nocap⟩] := qet f (rowsK f p .nocap) hf (by omega) (qag _ _ _) (qiu f p) (qkv f p _) (qiv f p hf hp hp1 hk)
theorem Fit.snoc {f : List Node} {n : Node} (hf : Fit f) (h : f.length < 4096) (hn : FitN n) : Fit (f ++ [n]) := ⟨by simp; omega, fun m hm => by
  simp only [List.mem_append, List.mem_singleton] at hm
  rcases hm with h | rfl
  · exact hf.node m h
  · exact hn⟩
theorem rho0 {k : Nat} {ρ : Nat → Nat} : k = 0 → ∀ i, i < k → ρ i = i := fun h i hi => by omega
noncomputable def doneM (f : List Node) (n : Node) : List Node × Int := if 4096 ≤ f.length then ([], 3) else if dec (rightP (f ++ [n])) = true then (f ++ [n], 0) else ([], 2)
def mkCh (node : Int) (n : Node) : Change := { c0 with kind := 1, node := node, made := n }
def inCh (node parent index : Int) : Change := { c0 with kind := 2, node := node, parent := parent, index := index }
theorem qm1 (f : List Node) (n : Node) (hf : Fit f) (hn : FitN n) (h0 : 0 < f.length) (h12 : n.kind ≠ 12) : PureC Tryz.prog 71 [fav f, (mkCh (f.length + 1) n).av] (.tup [fav (doneM f n).1, iav (doneM f n).2]) := by
  obtain ⟨c, hc⟩ : ∃ c, c = mkCh (f.length + 1) n := ⟨_, rfl⟩
  rw [← hc]
  have hck : c.kind = 1 := by rw [hc]; rfl
  have hcp : plainMk c = c := by rw [hc]; rfl
  have hcn : c.node = f.length + 1 := by rw [hc]; rfl
  have hcm : c.made = n := by rw [hc]; rfl
  have hsame : PureC Tryz.prog 96 [c.av, (plainMk c).av] (bav true) := by
    rw [hcp]
    exact qad c (by rw [hc]; simp [mkCh, c0]) (by rw [hcm]; exact hn) (by rw [hc]; simp [mkCh, c0]) (by rw [hc]; simp [mkCh, c0]) (by omega) (by omega)
  have hmk := qho f c hf (by rw [hcm]; exact hn) hcn (by rw [hcm]; exact h12)
  rw [hcm] at hmk
  clear hc
  refine yp tabs Tryz.func71 51 [.cell 4 24, .tmp 5] rfl rfl rfl rfl rfl ?_; intro w0 X
  refine AW.reserve 44 16 rfl ?_
  refine AW.reserve 126 4 rfl ?_
  (repeat' (first | ((with_reducible show AL _ _ _ _ _); first | (refine yf tabs rfl ?_; try dsimp only [len, List.nil_append, List.cons_append]) | refine yz [0] 5 rfl rfl rfl rfl rfl (caps := []) rfl (qew f hf h0) rfl rfl rfl rfl rfl rfl (by simp only [List.all_cons, List.all_nil, Bool.and_true]; exact qb f _) rfl (hpA := [⟨44, 16, f.map rowS⟩]) (by simp only [List.map_cons, List.map_nil, qf (k := 0) (rho0 rfl) (qb f 0)]) (r' := .agg [.os 0 f.length]) rfl rfl ?_ | refine yz [5, 0] 6 rfl rfl rfl rfl rfl (caps := []) rfl hmk rfl (by simp only [List.map_cons, List.map_nil, qf (k := 0) (rho0 rfl) (qb f 0)]; rfl) rfl rfl (by simp only [qax]; exact ⟨rfl, qb f _⟩) rfl (by simp only [qax]; exact ⟨rfl, qb _ _⟩) rfl (hpA := [⟨24, 1, [[.os 0 (f.length + 1)]]⟩, ⟨44, 16, (f ++ [n]).map rowS⟩]) (by simp only [List.map_cons, List.map_nil, qf (k := 0) (rho0 rfl) (qb (f ++ [n]) 0)]; rfl) (r' := bav true) rfl rfl ?_ | refine AL.op rfl (yat rfl rfl rfl rfl (.cons (fzSn (f := f) (n := n) (id := 0) rfl) .nil) (qbc (f ++ [n]) (hf.snoc (by omega) hn)) rfl) ?_ | refine yn ?_ | (refine yq rfl rfl rfl (fun hc => ?_) (fun hc => ?_) <;> (fail_if_success (exact absurd hc (by decide))) <;> (try simp only [hsx] at hc) <;> (try first | omega | contradiction | (simp [qa] at hc; done)))) | ((with_reducible show DQ _ _ _ _ _ _); first | refine DQ.stepc (yai rfl rfl rfl rfl rfl qbr rfl) rfl rfl rfl rfl rfl ?_ | refine DQ.stepc (yba (kf := k8) (q := c.kind) (xs := stepKeys) (i := 0) (v := [.fn 110, .fn 111, .bool true, .nilf]) key56 Tryz.underlying128 zero126 rfl rfl rfl rfl rfl rfl (by rw [hck]; rfl) (by intro j hj; omega) rfl) rfl rfl rfl rfl rfl ?_ | refine DQ.stepc (LS.alloc 1 tabs rfl rfl rfl rfl rfl rfl) rfl rfl rfl rfl rfl ?_ | refine DQ.stepc (LS.store (i := ti126) (v := .agg [.imm (.fn 110), .imm (.fn 111), .imm (.bool true), .imm .nilf]) (ty := 126) (sz := 4) (rows := [ti126.zero]) (r := ti126.zero) tabs rfl rfl rfl rfl rfl rfl rfl rfl rfl rfl (Nat.le_of_ble_eq_true rfl) rfl) rfl rfl rfl rfl rfl ?_ | refine DQ.stepc (yai rfl rfl rfl rfl rfl (qf6 c) rfl) rfl rfl rfl rfl rfl ?_ | refine DQ.stepc (yai rfl rfl rfl rfl rfl hsame rfl) rfl rfl rfl rfl rfl ?_ | refine DQ.stepc (LS.val tabs rfl rfl rfl) rfl rfl rfl rfl rfl ?_ | refine DQ.stepc (yu rfl rfl) rfl rfl rfl rfl rfl ?_ | refine DQ.nilM (by kernel_rfl) ?_ | (refine DQ.gsplitE rfl rfl rfl (fun hc => ?_) (fun hc => ?_) <;> (fail_if_success (exact absurd hc (by decide))) <;> (try simp only [hsx] at hc) <;> (try first | omega | contradiction | (simp [qa] at hc; done)))) | refine ym ?_ | refine ya ?_ | refine yb ?_ | refine yg ?_ | refine yi rfl ?_ | refine yh rfl ?_ | (refine yk rfl (fun hc => ?_) (fun hc => ?_) <;> (try simp only [hsx] at hc) <;> (try first | omega | contradiction | (simp [qa] at hc; done))) | refine yo ?_ | refine yc ?_ | refine yr mixed (by kernel_rfl) ?_))
  all_goals first
    | (rw [show doneM f n = ([], 3) by unfold doneM; rw [if_pos (by omega)]]; exact RQ.fin rfl rfl rfl)
    | (rw [show doneM f n = ([], 2) by unfold doneM; rw [if_neg (by omega), if_neg (by rw [qc]; exact hc)]]; exact RQ.fin rfl rfl rfl)
    | (rw [show doneM f n = (f ++ [n], 0) by unfold doneM; rw [if_neg (by omega), if_pos (by rw [qc]; exact hc)]]; exact yap rfl (ya5 (.cons (fzSn (f := f) (n := n) (id := 0) rfl) (.cons (Fz.im rfl) .nil))))
theorem qbd (f : List Node) (p : Int) (n : Node) (hp : 0 ≤ p) (hp1 : p < f.length) (i : Int) (h0 : 0 ≤ i) : atI (updAt f p n) i = if i = p then n else atI f i := by
  unfold updAt
  exact qt _ _ _ _ hp hp1 h0
theorem qa4 (f : List Node) (p : Int) (n : Node) : (updAt f p n).length = f.length := by unfold updAt; simp
theorem qfj (f : List Node) (node parent : Int) (h1 : 1 ≤ node) (h2 : node ≤ f.length) (h3 : 1 ≤ parent) (h4 : parent ≤ f.length) : (atI (insF f node parent) (parent - 1)).kids = (atI f (parent - 1)).kids ++ [node] := by
  unfold insF
  rw [qbd _ _ _ (by omega) (by rw [qa4]; omega) _ (by omega)]
  by_cases e : parent - 1 = node - 1
  · rw [if_pos e, ← e, qbd _ _ _ (by omega) (by omega) _ (by omega), if_pos rfl]
  · rw [if_neg e, qbd _ _ _ (by omega) (by omega) _ (by omega), if_pos rfl]
theorem qby {f : List Node} {p : Int} {n : Node} (hf : Fit f) (hn : FitN n) : Fit (updAt f p n) := ⟨by rw [qa4]; exact hf.len, fun m hm => by
  rcases List.mem_or_eq_of_mem_set hm with h | rfl
  · exact hf.node m h
  · exact hn⟩
theorem qg5 (f : List Node) (c : Change) (hf : Fit f) (h1 : 1 ≤ c.node) (h2 : c.node ≤ f.length) (h3 : 1 ≤ c.parent) (h4 : c.parent ≤ f.length) (hk : (atI f (c.parent - 1)).kids.length < 1000000000) : Fit (insF f c.node c.parent) := by
  have e1 : Fit (updAt f (c.parent - 1) { atI f (c.parent - 1) with kids := (atI f (c.parent - 1)).kids ++ [c.node] }) := by
    have := hf.atI (c.parent - 1) (by omega) (by omega)
    exact qby hf ⟨this.data, this.attrs, by simp; omega⟩
  unfold insF
  have := e1.atI (c.node - 1) (by omega) (by rw [qa4]; omega)
  exact qby e1 ⟨this.data, this.attrs, this.kids⟩
noncomputable def doneI (f : List Node) (c : Change) : List Node × Int := if dec (rightP (insF f c.node c.parent)) = true then (insF f c.node c.parent, 0) else ([], 2)
theorem qky (f : List Node) (c : Change) (hf : Fit f) (h0 : 0 < f.length) (hck : c.kind = 2) (hcp : plainLn c = c) (hkl : (atI f (c.parent - 1)).kids.length < 1000000000) (h1 : 1 ≤ c.node) (h2 : c.node ≤ f.length) (h3 : 1 ≤ c.parent) (h4 : c.parent ≤ f.length) (hidx : c.index = (atI f (c.parent - 1)).kids.length) (hk : (atI f (c.parent - 1)).kids ≠ []) (hp0 : (atI f (c.node - 1)).parent = 0) : PureC Tryz.prog 71 [fav f, c.av] (.tup [fav (doneI f c).1, iav (doneI f c).2]) := by
  have hsame : PureC Tryz.prog 96 [c.av, (plainLn c).av] (bav true) := by
    rw [hcp]
    exact qad c (by rw [← hcp]; simp [plainLn, c0]) (by rw [← hcp]; exact fit0) (by rw [← hcp]; simp [plainLn, c0]) (by rw [← hcp]; simp [plainLn, c0]) (by omega) (by omega)
  have hins := qis f c hf h1 h2 h3 h4 hidx hk hp0
  have hfst : ∀ j : Nat, j < 1 → stepKeys[j]? ≠ some c.kind := by
    intro j hj
    have : j = 0 := by omega
    subst this; rw [hck]; decide
  have hil := qc7 f c.node c.parent
  have hki : (atI (insF f c.node c.parent) (c.parent - 1)).kids = (atI f (c.parent - 1)).kids ++ [c.node] := qfj f c.node c.parent h1 h2 h3 h4
  have hfi := qg5 f c hf h1 h2 h3 h4 hkl
  have fzI_ : ∀ {C : Cx} {s : St}, nth s.hp 0 = some ⟨44, 16, rowsK (insF f c.node c.parent) (c.parent - 1) (.os 1 ((atI f (c.parent - 1)).kids ++ [c.node]).length)⟩ → nth s.hp 1 = some ⟨3, 1, ((atI f (c.parent - 1)).kids ++ [c.node]).map cI⟩ → Fz C s (.agg [.os 0 f.length]) (fav (insF f c.node c.parent)) := by
    intro C s g1 g2
    have := fzK (C := C) (s := s) (f := insF f c.node c.parent) (p := c.parent - 1) (id := 0) (kid := 1) (m := ((atI f (c.parent - 1)).kids ++ [c.node]).length) (by omega) (by omega) (by rw [hki]) g1 (by rw [hki]; exact g2)
    rw [hil] at this
    exact this
  refine yp tabs Tryz.func71 51 [.cell 4 24, .tmp 5] rfl rfl rfl rfl rfl ?_; intro w0 X
  refine AW.reserve 44 16 rfl ?_
  refine AW.reserve 3 1 rfl ?_
  refine AW.reserve 126 4 rfl ?_
  (repeat' (first | ((with_reducible show AL _ _ _ _ _); first | (refine yf tabs rfl ?_; try dsimp only [len, List.nil_append, List.cons_append]) | refine yz [0, 1] 6 rfl rfl rfl rfl rfl (caps := []) rfl (qfi f (c.parent - 1) hf (by omega) (by omega) hk) rfl rfl rfl rfl rfl rfl (by simp only [qax]; exact ⟨q6 _ _ _ _ rfl, (by simp only [List.all_cons, List.all_nil, List.all_map, Function.comp_def, cI, cB, iav, bav, AV.sc1, AV.sc0, Bool.and_true, Bool.and_self, qh]; try rfl)⟩) rfl (hpA := [⟨44, 16, rowsK f (c.parent - 1) (.os 1 (atI f (c.parent - 1)).kids.length)⟩, ⟨3, 1, (atI f (c.parent - 1)).kids.map cI⟩]) (by simp only [List.map_cons, List.map_nil, qam, qn]; rfl) (r' := .agg [.os 0 f.length]) rfl rfl ?_ | refine yz [6, 0, 1] 7 rfl rfl rfl rfl rfl (caps := []) rfl hins rfl (by simp only [List.map_cons, List.map_nil, qam, qn]; rfl) rfl rfl (by simp only [qax]; exact ⟨rfl, q6 _ _ _ _ rfl, (by simp only [List.all_cons, List.all_nil, List.all_map, Function.comp_def, cI, cB, iav, bav, AV.sc1, AV.sc0, Bool.and_true, Bool.and_self, qh]; try rfl)⟩) rfl (by simp only [qax]; exact ⟨rfl, q6 _ _ _ _ rfl, (by simp only [List.all_cons, List.all_nil, List.all_map, Function.comp_def, cI, cB, iav, bav, AV.sc1, AV.sc0, Bool.and_true, Bool.and_self, qh]; try rfl)⟩) rfl (hpA := [⟨24, 1, [[.os 0 f.length]]⟩, ⟨44, 16, rowsK (insF f c.node c.parent) (c.parent - 1) (.os 1 ((atI f (c.parent - 1)).kids ++ [c.node]).length)⟩, ⟨3, 1, ((atI f (c.parent - 1)).kids ++ [c.node]).map cI⟩]) (by simp only [List.map_cons, List.map_nil, qam, qn]; rfl) (r' := bav true) rfl rfl ?_ | refine AL.op rfl (yat rfl rfl rfl rfl (.cons (fzI_ rfl rfl) .nil) (qbc (insF f c.node c.parent) hfi) rfl) ?_ | refine yn ?_ | (refine yq rfl rfl rfl (fun hc => ?_) (fun hc => ?_) <;> (fail_if_success (exact absurd hc (by decide))) <;> (try simp only [hsx] at hc) <;> (try first | omega | contradiction | (simp [qa] at hc; done)))) | ((with_reducible show DQ _ _ _ _ _ _); first | refine DQ.stepc (yai rfl rfl rfl rfl rfl qbr rfl) rfl rfl rfl rfl rfl ?_ | refine DQ.stepc (yba (kf := k8) (q := c.kind) (xs := stepKeys) (i := 1) (v := [.fn 112, .fn 113, .bool false, .any]) key56 Tryz.underlying128 zero126 rfl rfl rfl rfl rfl rfl (by rw [hck]; rfl) hfst rfl) rfl rfl rfl rfl rfl ?_ | refine DQ.stepc (LS.alloc 2 tabs rfl rfl rfl rfl rfl rfl) rfl rfl rfl rfl rfl ?_ | refine DQ.stepc (LS.store (i := ti126) (v := .agg [.imm (.fn 112), .imm (.fn 113), .imm (.bool false), .imm .any]) (ty := 126) (sz := 4) (rows := [ti126.zero]) (r := ti126.zero) tabs rfl rfl rfl rfl rfl rfl rfl rfl rfl rfl (Nat.le_of_ble_eq_true rfl) rfl) rfl rfl rfl rfl rfl ?_ | refine DQ.stepc (yai rfl rfl rfl rfl rfl (qcg c) rfl) rfl rfl rfl rfl rfl ?_ | refine DQ.stepc (yai rfl rfl rfl rfl rfl hsame rfl) rfl rfl rfl rfl rfl ?_ | refine DQ.stepc (LS.val tabs rfl rfl rfl) rfl rfl rfl rfl rfl ?_ | refine DQ.stepc (yu rfl rfl) rfl rfl rfl rfl rfl ?_ | refine DQ.nilM (by kernel_rfl) ?_ | (refine DQ.gsplitE rfl rfl rfl (fun hc => ?_) (fun hc => ?_) <;> (fail_if_success (exact absurd hc (by decide))) <;> (try simp only [hsx] at hc) <;> (try first | omega | contradiction | (simp [qa] at hc; done)))) | refine ym ?_ | refine ya ?_ | refine yb ?_ | refine yg ?_ | refine yi rfl ?_ | refine yh rfl ?_ | (refine yk rfl (fun hc => ?_) (fun hc => ?_) <;> (try simp only [hsx] at hc) <;> (try first | omega | contradiction | (simp [qa] at hc; done))) | refine yo ?_ | refine yc ?_ | refine yr mixed (by kernel_rfl) ?_))
  all_goals first
    | (rw [show doneI f c = ([], 2) by unfold doneI; rw [if_neg (by rw [qc]; exact hc)]]; exact RQ.fin rfl rfl rfl)
    | (rw [show doneI f c = (insF f c.node c.parent, 0) by unfold doneI; rw [if_pos (by rw [qc]; exact hc)]]; exact yap rfl (ya5 (.cons (fzI_ rfl rfl) (.cons (Fz.im rfl) .nil))))
theorem qkz (f : List Node) (c : Change) (hf : Fit f) (h0 : 0 < f.length) (hck : c.kind = 2) (hcp : plainLn c = c) (hkl : (atI f (c.parent - 1)).kids.length < 1000000000) (h1 : 1 ≤ c.node) (h2 : c.node ≤ f.length) (h3 : 1 ≤ c.parent) (h4 : c.parent ≤ f.length) (hidx : c.index = (atI f (c.parent - 1)).kids.length) (hk : (atI f (c.parent - 1)).kids = []) (hp0 : (atI f (c.node - 1)).parent = 0) : PureC Tryz.prog 71 [fav f, c.av] (.tup [fav (doneI f c).1, iav (doneI f c).2]) := by
  have hsame : PureC Tryz.prog 96 [c.av, (plainLn c).av] (bav true) := by
    rw [hcp]
    exact qad c (by rw [← hcp]; simp [plainLn, c0]) (by rw [← hcp]; exact fit0) (by rw [← hcp]; simp [plainLn, c0]) (by rw [← hcp]; simp [plainLn, c0]) (by omega) (by omega)
  have hins := qit f c hf h1 h2 h3 h4 hidx hk hp0
  have hfst : ∀ j : Nat, j < 1 → stepKeys[j]? ≠ some c.kind := by
    intro j hj
    have : j = 0 := by omega
    subst this; rw [hck]; decide
  have hil := qc7 f c.node c.parent
  have hki : (atI (insF f c.node c.parent) (c.parent - 1)).kids = (atI f (c.parent - 1)).kids ++ [c.node] := qfj f c.node c.parent h1 h2 h3 h4
  have hfi := qg5 f c hf h1 h2 h3 h4 hkl
  have fzI_ : ∀ {C : Cx} {s : St}, nth s.hp 0 = some ⟨44, 16, rowsK (insF f c.node c.parent) (c.parent - 1) (.os 1 1)⟩ → nth s.hp 1 = some ⟨3, 1, [cI c.node]⟩ → Fz C s (.agg [.os 0 f.length]) (fav (insF f c.node c.parent)) := by
    intro C s g1 g2
    have := fzK (C := C) (s := s) (f := insF f c.node c.parent) (p := c.parent - 1) (id := 0) (kid := 1) (m := 1) (by omega) (by omega) (by rw [hki, hk]; rfl) g1 (by rw [hki, hk]; exact g2)
    rw [hil] at this
    exact this
  refine yp tabs Tryz.func71 51 [.cell 4 24, .tmp 5] rfl rfl rfl rfl rfl ?_; intro w0 X
  refine AW.reserve 44 16 rfl ?_
  refine AW.reserve 3 1 rfl ?_
  refine AW.reserve 126 4 rfl ?_
  (repeat' (first | ((with_reducible show AL _ _ _ _ _); first | (refine yf tabs rfl ?_; try dsimp only [len, List.nil_append, List.cons_append]) | refine yz [0] 6 rfl rfl rfl rfl rfl (caps := []) rfl (qkx f (c.parent - 1) hf (by omega) (by omega) hk) rfl rfl rfl rfl rfl rfl (by simp only [List.all_cons, List.all_nil, Bool.and_true]; exact q6 _ _ _ _ rfl) rfl (hpA := [⟨44, 16, rowsK f (c.parent - 1) .nocap⟩]) (by simp only [List.map_cons, List.map_nil, qam]; rfl) (r' := .agg [.os 0 f.length]) rfl rfl ?_ | refine yz [6, 0, 1] 7 rfl rfl rfl rfl rfl (caps := []) rfl hins rfl (by simp only [List.map_cons, List.map_nil, qam]; rfl) rfl rfl (by simp only [qax]; exact ⟨rfl, q6 _ _ _ _ rfl⟩) rfl (by simp only [qax]; exact ⟨rfl, q6 _ _ _ _ rfl, (by simp only [List.all_cons, List.all_nil, List.all_map, Function.comp_def, cI, cB, iav, bav, AV.sc1, AV.sc0, Bool.and_true, Bool.and_self, qh]; try rfl)⟩) rfl (hpA := [⟨24, 1, [[.os 0 f.length]]⟩, ⟨44, 16, rowsK (insF f c.node c.parent) (c.parent - 1) (.os 1 1)⟩, ⟨3, 1, [cI c.node]⟩]) (by simp only [List.map_cons, List.map_nil, qam]; rfl) (r' := bav true) rfl rfl ?_ | refine AL.op rfl (yat rfl rfl rfl rfl (.cons (fzI_ rfl rfl) .nil) (qbc (insF f c.node c.parent) hfi) rfl) ?_ | refine yn ?_ | (refine yq rfl rfl rfl (fun hc => ?_) (fun hc => ?_) <;> (fail_if_success (exact absurd hc (by decide))) <;> (try simp only [hsx] at hc) <;> (try first | omega | contradiction | (simp [qa] at hc; done)))) | ((with_reducible show DQ _ _ _ _ _ _); first | refine DQ.stepc (yai rfl rfl rfl rfl rfl qbr rfl) rfl rfl rfl rfl rfl ?_ | refine DQ.stepc (yba (kf := k8) (q := c.kind) (xs := stepKeys) (i := 1) (v := [.fn 112, .fn 113, .bool false, .any]) key56 Tryz.underlying128 zero126 rfl rfl rfl rfl rfl rfl (by rw [hck]; rfl) hfst rfl) rfl rfl rfl rfl rfl ?_ | refine DQ.stepc (LS.alloc 2 tabs rfl rfl rfl rfl rfl rfl) rfl rfl rfl rfl rfl ?_ | refine DQ.stepc (LS.store (i := ti126) (v := .agg [.imm (.fn 112), .imm (.fn 113), .imm (.bool false), .imm .any]) (ty := 126) (sz := 4) (rows := [ti126.zero]) (r := ti126.zero) tabs rfl rfl rfl rfl rfl rfl rfl rfl rfl rfl (Nat.le_of_ble_eq_true rfl) rfl) rfl rfl rfl rfl rfl ?_ | refine DQ.stepc (yai rfl rfl rfl rfl rfl (qcg c) rfl) rfl rfl rfl rfl rfl ?_ | refine DQ.stepc (yai rfl rfl rfl rfl rfl hsame rfl) rfl rfl rfl rfl rfl ?_ | refine DQ.stepc (LS.val tabs rfl rfl rfl) rfl rfl rfl rfl rfl ?_ | refine DQ.stepc (yu rfl rfl) rfl rfl rfl rfl rfl ?_ | refine DQ.nilM (by kernel_rfl) ?_ | (refine DQ.gsplitE rfl rfl rfl (fun hc => ?_) (fun hc => ?_) <;> (fail_if_success (exact absurd hc (by decide))) <;> (try simp only [hsx] at hc) <;> (try first | omega | contradiction | (simp [qa] at hc; done)))) | refine ym ?_ | refine ya ?_ | refine yb ?_ | refine yg ?_ | refine yi rfl ?_ | refine yh rfl ?_ | (refine yk rfl (fun hc => ?_) (fun hc => ?_) <;> (try simp only [hsx] at hc) <;> (try first | omega | contradiction | (simp [qa] at hc; done))) | refine yo ?_ | refine yc ?_ | refine yr mixed (by kernel_rfl) ?_))
  all_goals first
    | (rw [show doneI f c = ([], 2) by unfold doneI; rw [if_neg (by rw [qc]; exact hc)]]; exact RQ.fin rfl rfl rfl)
    | (rw [show doneI f c = (insF f c.node c.parent, 0) by unfold doneI; rw [if_pos (by rw [qc]; exact hc)]]; exact yap rfl (ya5 (.cons (fzI_ rfl rfl) (.cons (Fz.im rfl) .nil))))
end Go.Proofs.YtmhejcnaanocpaaGreat.A
