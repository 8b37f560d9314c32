/- Contracts: forest.steps. -/
import Derived.Test.YtmhejcnaanocpaaGreatXAskGrpAO
import Derived.Test.YtmhejcnaanocpaaGreatXAskGrpAK
import Derived.Test.YtmhejcnaanocpaaGreatProg
namespace Go.Proofs.YtmhejcnaanocpaaGreat.A
set_option linter.unusedVariables false
set_option linter.unusedSimpArgs false
set_option maxRecDepth 100000
set_option maxHeartbeats 4000000
theorem yco {C : Cx} {s : St} {o : Oper} {d : Nat} (hd : o.dst = some d) {x : Operand} (ho : o.op = .assign x) (hg : get s.env d = none) : OpOK C s o s := by
  intro γ κ a W hC K Q hK
  have hrun : (execOp a.eval o).run C.P W = .ok (.value (a.eval x)) W := by unfold execOp; rw [ho]; rfl
  unfold Oper.wp
  rw [hrun]
  refine hK γ κ (a.put o.dst (a.eval x)) W ?_
  rw [hd]
  refine ⟨by simp [Act.put, hC.size], hC.defers, ?_, hC.blk, hC.inj, hC.own, hC.xlt, hC.old, hC.hos, hC.htape, hC.hout, hC.hsize, hC.lent⟩
  intro t v h
  obtain ⟨y, h1, h2⟩ := hC.env t v h
  refine ⟨y, ?_, h2⟩
  simp only [Act.put]
  rw [Array.getElem?_setIfInBounds_ne (fun e => by subst e; rw [hg] at h; cases h)]
  exact h1
def k8 (k : Int) : List IV := [.int .u8 k]
theorem Fz.any {C : Cx} {s : St} {v : AV} (hc : v.cell = true) : Fz C s v (.imm .any) := fun γ κ a W x hC hr => .imm _ _ (.any _ (hr.one hc) (hr.single hc) (hr.notMap hc))
theorem Fz.mp {C : Cx} {s : St} {g : Nat} {ks vs : List (List IV)} : Fz C s (.mp g ks vs) (.mpi ks vs) := fun γ κ a W x hC hr => by
  cases hr with
  | mp _ _ _ h => exact .mpi g _ _ (h.keep fun b hb _ => ⟨rfl, fun hx => hb (.inl hx)⟩)
theorem qhn (k : Int) : PureC Tryz.prog 114 [kav k] (.imm .any) := by
  refine yq tabs Tryz.func114 4 [.tmp 2] rfl rfl rfl rfl rfl ?_; intro w0 X
  (repeat' (first | ((with_reducible show AL _ _ _ _ _); first | (refine AL.step tabs rfl ?_; try dsimp only [len, List.nil_append, List.cons_append]) | refine ym ?_) | refine yn ?_ | refine yc ?_ | refine ya ?_ | refine yf ?_ | refine yo ?_ | refine yd ?_))
  exact yao rfl (Fz.any rfl)
def stepKeys : List Int := [1, 2, 3, 4, 5, 6, 7, 8, 9, 10]
def stepVals : List (List IV) := [[.fn 110, .fn 111, .bool true, .nilf], [.fn 112, .fn 113, .bool false, .any], [.fn 112, .fn 115, .bool false, .any], [.fn 116, .fn 117, .bool false, .fn 118], [.fn 119, .fn 120, .bool false, .fn 121], [.fn 122, .fn 123, .bool false, .fn 124], [.fn 125, .fn 126, .bool true, .nilf], [.fn 127, .fn 128, .bool false, .fn 109], [.fn 127, .fn 128, .bool false, .fn 109], [.fn 129, .fn 130, .bool false, .fn 109]]
theorem qb3 : PureC Tryz.prog 95 [] (.mpi (stepKeys.map k8) stepVals) := by
  refine yq tabs Tryz.func95 19 [.tmp 0] rfl rfl rfl rfl rfl ?_; intro w0 X
  (repeat' (first | ((with_reducible show AL _ _ _ _ _); first | (refine AL.step tabs rfl ?_; try dsimp only [len, List.nil_append, List.cons_append]) | refine yad rfl (ya1 (kf := k8) (xs := ([] : List Int)) key56 Tryz.underlying128 rfl (.inr rfl) hg rfl rfl (q := 1) rfl (v := [.fn 110, .fn 111, .bool true, .nilf]) rfl (fun M z hz => qah hz) (by decide) (by repeat' (first | exact trivial | refine ⟨rfl, ?_⟩)) rfl) rfl ?_ | refine yad rfl (ya1 (kf := k8) (xs := ([1] : List Int)) key56 Tryz.underlying128 rfl (.inr rfl) hg rfl rfl (q := 2) rfl (v := [.fn 112, .fn 113, .bool false, .any]) rfl (fun M z hz => qah hz) (by decide) (by repeat' (first | exact trivial | refine ⟨rfl, ?_⟩)) rfl) rfl ?_ | refine yad rfl (ya1 (kf := k8) (xs := ([1, 2] : List Int)) key56 Tryz.underlying128 rfl (.inr rfl) hg rfl rfl (q := 3) rfl (v := [.fn 112, .fn 115, .bool false, .any]) rfl (fun M z hz => qah hz) (by decide) (by repeat' (first | exact trivial | refine ⟨rfl, ?_⟩)) rfl) rfl ?_ | refine yad rfl (ya1 (kf := k8) (xs := ([1, 2, 3] : List Int)) key56 Tryz.underlying128 rfl (.inr rfl) hg rfl rfl (q := 4) rfl (v := [.fn 116, .fn 117, .bool false, .fn 118]) rfl (fun M z hz => qah hz) (by decide) (by repeat' (first | exact trivial | refine ⟨rfl, ?_⟩)) rfl) rfl ?_ | refine yad rfl (ya1 (kf := k8) (xs := ([1, 2, 3, 4] : List Int)) key56 Tryz.underlying128 rfl (.inr rfl) hg rfl rfl (q := 5) rfl (v := [.fn 119, .fn 120, .bool false, .fn 121]) rfl (fun M z hz => qah hz) (by decide) (by repeat' (first | exact trivial | refine ⟨rfl, ?_⟩)) rfl) rfl ?_ | refine yad rfl (ya1 (kf := k8) (xs := ([1, 2, 3, 4, 5] : List Int)) key56 Tryz.underlying128 rfl (.inr rfl) hg rfl rfl (q := 6) rfl (v := [.fn 122, .fn 123, .bool false, .fn 124]) rfl (fun M z hz => qah hz) (by decide) (by repeat' (first | exact trivial | refine ⟨rfl, ?_⟩)) rfl) rfl ?_ | refine yad rfl (ya1 (kf := k8) (xs := ([1, 2, 3, 4, 5, 6] : List Int)) key56 Tryz.underlying128 rfl (.inr rfl) hg rfl rfl (q := 7) rfl (v := [.fn 125, .fn 126, .bool true, .nilf]) rfl (fun M z hz => qah hz) (by decide) (by repeat' (first | exact trivial | refine ⟨rfl, ?_⟩)) rfl) rfl ?_ | refine yad rfl (ya1 (kf := k8) (xs := ([1, 2, 3, 4, 5, 6, 7] : List Int)) key56 Tryz.underlying128 rfl (.inr rfl) hg rfl rfl (q := 8) rfl (v := [.fn 127, .fn 128, .bool false, .fn 109]) rfl (fun M z hz => qah hz) (by decide) (by repeat' (first | exact trivial | refine ⟨rfl, ?_⟩)) rfl) rfl ?_ | refine yad rfl (ya1 (kf := k8) (xs := ([1, 2, 3, 4, 5, 6, 7, 8] : List Int)) key56 Tryz.underlying128 rfl (.inr rfl) hg rfl rfl (q := 9) rfl (v := [.fn 127, .fn 128, .bool false, .fn 109]) rfl (fun M z hz => qah hz) (by decide) (by repeat' (first | exact trivial | refine ⟨rfl, ?_⟩)) rfl) rfl ?_ | refine yad rfl (ya1 (kf := k8) (xs := ([1, 2, 3, 4, 5, 6, 7, 8, 9] : List Int)) key56 Tryz.underlying128 rfl (.inr rfl) hg rfl rfl (q := 10) rfl (v := [.fn 129, .fn 130, .bool false, .fn 109]) rfl (fun M z hz => qah hz) (by decide) (by repeat' (first | exact trivial | refine ⟨rfl, ?_⟩)) rfl) rfl ?_ | refine AL.op rfl (yb rfl rfl rfl rfl (qhn 3) rfl) ?_ | refine AL.op rfl (yb rfl rfl rfl rfl (qhn 2) rfl) ?_ | refine AL.op rfl (yco rfl rfl rfl) ?_ | refine yb6 rfl rfl rfl (fun g hg => ?_) | refine ym ?_) | refine yn ?_ | refine yc ?_ | refine ya ?_ | refine yf ?_ | refine yo ?_ | refine yd ?_))
  exact yao rfl Fz.mp
theorem zero126 (w : World) : (zeroValue 126).run Tryz.prog w = .ok (.agg #[.nilFunc, .nilFunc, .bool false, .nilFunc]) w := rfl
section
variable {C : Cx} {s : St}
theorem fzS {f : List Node} {id : Nat} (hb : nth s.hp id = some ⟨44, 16, f.map rowS⟩) : Fz C s (.agg [.os id f.length]) (fav f) :=
  yca (.cons (Fz.os (b := ⟨44, 16, f.map rowS⟩) hb (List.length_map _).symm (by rw [List.map_map]; rfl)) .nil)
theorem fzSn {f : List Node} {n : Node} {id : Nat} (hb : nth s.hp id = some ⟨44, 16, (f ++ [n]).map rowS⟩) : Fz C s (.agg [.os id (f.length + 1)]) (fav (f ++ [n])) := by
  have := fzS (C := C) hb
  rw [List.length_append] at this
  exact this
theorem fzRow {n : Node} {k : AV} (hk : FzI C s k (.sl (n.kids.map i64))) : All2 (FzI C s) (nodeRow n k) n.iv :=
  .cons (.imm _) (.cons (.imm _) (.cons (.imm _) (.cons (.imm _) (.cons (.imm _) (.cons (.imm _) (.cons (.imm _) (.cons (.imm _) (.cons (.imm _) (.cons hk (.cons (.imm _) (.cons (.imm _) (.cons (.imm _) (.cons (.imm _) (.cons (.imm _) (.cons (.imm _) .nil)))))))))))))))
theorem qe9 {α : Type} [Inhabited α] (l : List α) (p : Int) (hp : 0 ≤ p) (hp1 : p < l.length) : l.set p.toNat (atI l p) = l := by
  refine qe8 (by simp) fun i h0 h1 => ?_
  rw [qt _ _ _ _ hp hp1 h0]
  split
  · rename_i e; rw [e]
  · rfl
theorem fzK {f : List Node} {p : Int} {id kid m : Nat} (hp : 0 ≤ p) (hp1 : p < f.length) (hm : m = (atI f p).kids.length) (hb : nth s.hp id = some ⟨44, 16, rowsK f p (.os kid m)⟩) (hk : nth s.hp kid = some ⟨3, 1, (atI f p).kids.map cI⟩) : Fz C s (.agg [.os id f.length]) (fav f) := by
  refine yca (.cons (Fz.osN (b := ⟨44, 16, rowsK f p (.os kid m)⟩) hb (qaq _ _ _).symm (by simp [qaq]) (by
    intro r hr
    obtain ⟨n, _, rfl⟩ := List.mem_map.1 hr
    rfl) (qfp ?_)) .nil)
  have h1 : All2 (All2 (FzI C s)) (f.map rowS) (f.map Node.iv) := qb0 (fun n => fzRow (FzI.imm _)) f
  have h2 : All2 (FzI C s) (nodeRow (atI f p) (.os kid m)) (atI f p).iv := fzRow (FzI.of (Fz.os (b := ⟨3, 1, (atI f p).kids.map cI⟩) hk (by rw [hm]; simp) (by rw [List.map_map]; rfl)))
  have h3 := h1.set h2 p.toNat
  have e : (f.map Node.iv).set p.toNat (atI f p).iv = f.map Node.iv := by
    have := qe9 (f.map Node.iv) p hp (by simpa using hp1)
    rw [qcs _ _ _ hp hp1] at this
    exact this
  rw [e] at h3
  exact h3
end
theorem qa0 (ρ : Nat → Nat) (f : List Node) (p : Int) (k : AV) : renB ρ ⟨44, 16, rowsK f p k⟩ = ⟨44, 16, rowsK f p (ren1 ρ k)⟩ := by
  unfold renB rowsK
  congr 1
  simp only [List.map_set, List.map_map]
  congr 1
theorem qla (f : List Node) : (f.map rowS).all (fun r => r.all AV.dat) = true := by
  rw [List.all_map, List.all_eq_true]
  exact fun n _ => rfl
theorem qnj (f : List Node) : ∀ r ∈ f.map rowS, r.length = 16 := by
  intro r hr
  obtain ⟨n, _, rfl⟩ := List.mem_map.1 hr
  rfl
theorem qje (f : List Node) (p : Int) : (rowsK f p .nocap).all (fun r => r.all AV.dat) = true := by
  rw [List.all_eq_true]
  intro r hr
  rcases qd4 hr with rfl | ⟨n, _, rfl⟩ <;> rfl
theorem qlb (f : List Node) (p : Int) (k : AV) : ∀ r ∈ rowsK f p k, r.length = 16 := by
  intro r hr
  rcases qd4 hr with rfl | ⟨n, _, rfl⟩ <;> rfl
theorem qlc (f : List Node) (hf : Fit f) (i : Int) (h0 : 0 ≤ i) (h1 : i < f.length) : PureC Tryz.prog 94 [(atI f i).av] (.agg (atI (f.map rowS) i)) := by
  rw [qcs _ _ _ h0 h1]
  exact qbf _ (hf.atI i h0 h1)
theorem qjf (f : List Node) (p : Int) (hf : Fit f) (hp : 0 ≤ p) (hp1 : p < f.length) (hk : (atI f p).kids = []) (i : Int) (h0 : 0 ≤ i) (h1 : i < f.length) : PureC Tryz.prog 94 [(atI f i).av] (.agg (atI (rowsK f p .nocap) i)) := by
  rw [qaa f p _ hp hp1 i h0 h1]
  split
  · rename_i e
    subst e
    exact qgs _ (hf.atI i h0 h1) hk
  · exact qbf _ (hf.atI i h0 h1)
theorem qfa (f : List Node) (hf : Fit f) (h1 : 0 < f.length) : GenC Tryz.prog 70 [⟨44, 16, []⟩] [fav f] (.agg [.os 0 f.length]) [⟨44, 16, f.map rowS⟩] := qe7 f (f.map rowS) hf h1 (List.length_map _) (qla f) (qnj f) (qlc f hf)
theorem qld (f : List Node) (p : Int) (hf : Fit f) (hp : 0 ≤ p) (hp1 : p < f.length) (hk : (atI f p).kids = []) : GenC Tryz.prog 70 [⟨44, 16, []⟩] [fav f] (.agg [.os 0 f.length]) [⟨44, 16, rowsK f p .nocap⟩] := qe7 f (rowsK f p .nocap) hf (by omega) (qaq _ _ _) (qje f p) (qlb f p _) (qjf f p hf hp hp1 hk)
theorem Fit.snoc {f : List Node} {n : Node} (hf : Fit f) (h : f.length < 4096) (hn : FitN n) : Fit (f ++ [n]) := ⟨by simp; omega, fun m hm => by
  simp only [List.mem_append, List.mem_singleton] at hm
  rcases hm with h | rfl
  · exact hf.node m h
  · exact hn⟩
theorem rho0 {k : Nat} {ρ : Nat → Nat} : k = 0 → ∀ i, i < k → ρ i = i := fun h i hi => by omega
noncomputable def doneM (f : List Node) (n : Node) : List Node × Int := if 4096 ≤ f.length then ([], 3) else if dec (rightP (f ++ [n])) = true then (f ++ [n], 0) else ([], 2)
def mkCh (node : Int) (n : Node) : Change := { c0 with kind := 1, node := node, made := n }
def inCh (node parent index : Int) : Change := { c0 with kind := 2, node := node, parent := parent, index := index }
theorem qnk (f : List Node) (n : Node) (hf : Fit f) (hn : FitN n) (h0 : 0 < f.length) (h12 : n.kind ≠ 12) : PureC Tryz.prog 71 [fav f, (mkCh (f.length + 1) n).av] (.tup [fav (doneM f n).1, iav (doneM f n).2]) := by
  obtain ⟨c, hc⟩ : ∃ c, c = mkCh (f.length + 1) n := ⟨_, rfl⟩
  rw [← hc]
  have hck : c.kind = 1 := by rw [hc]; rfl
  have hcp : plainMk c = c := by rw [hc]; rfl
  have hcn : c.node = f.length + 1 := by rw [hc]; rfl
  have hcm : c.made = n := by rw [hc]; rfl
  have hsame : PureC Tryz.prog 96 [c.av, (plainMk c).av] (bav true) := by
    rw [hcp]
    exact qan c (by rw [hc]; simp [mkCh, c0]) (by rw [hcm]; exact hn) (by rw [hc]; simp [mkCh, c0]) (by rw [hc]; simp [mkCh, c0]) (by omega) (by omega)
  have hmk := qh4 f c hf (by rw [hcm]; exact hn) hcn (by rw [hcm]; exact h12)
  rw [hcm] at hmk
  clear hc
  refine yq tabs Tryz.func71 51 [.cell 4 24, .tmp 5] rfl rfl rfl rfl rfl ?_; intro w0 X
  refine AW.reserve 44 16 rfl ?_
  refine AW.reserve 126 4 rfl ?_
  (repeat' (first | ((with_reducible show AL _ _ _ _ _); first | (refine AL.step tabs rfl ?_; try dsimp only [len, List.nil_append, List.cons_append]) | refine yac [0] 5 rfl rfl rfl rfl rfl (caps := []) rfl (qfa f hf h0) rfl rfl rfl rfl rfl rfl (by simp only [List.all_cons, List.all_nil, Bool.and_true]; exact qc f _) rfl (hpA := [⟨44, 16, f.map rowS⟩]) (by simp only [List.map_cons, List.map_nil, qk (k := 0) (rho0 rfl) (qc f 0)]) (r' := .agg [.os 0 f.length]) rfl rfl ?_ | refine yac [5, 0] 6 rfl rfl rfl rfl rfl (caps := []) rfl hmk rfl (by simp only [List.map_cons, List.map_nil, qk (k := 0) (rho0 rfl) (qc f 0)]; rfl) rfl rfl (by simp only [qax]; exact ⟨rfl, qc f _⟩) rfl (by simp only [qax]; exact ⟨rfl, qc _ _⟩) rfl (hpA := [⟨24, 1, [[.os 0 (f.length + 1)]]⟩, ⟨44, 16, (f ++ [n]).map rowS⟩]) (by simp only [List.map_cons, List.map_nil, qk (k := 0) (rho0 rfl) (qc (f ++ [n]) 0)]; rfl) (r' := bav true) rfl rfl ?_ | refine AL.op rfl (yat rfl rfl rfl rfl (.cons (fzSn (f := f) (n := n) (id := 0) rfl) .nil) (qbn (f ++ [n]) (hf.snoc (by omega) hn)) rfl) ?_ | refine ym ?_ | (refine yj rfl rfl rfl (fun hc => ?_) (fun hc => ?_) <;> (fail_if_success (exact absurd hc (by decide))) <;> (try simp only [hsx] at hc) <;> (try first | omega | contradiction | (simp [qa] at hc; done)))) | ((with_reducible show DQ _ _ _ _ _ _); first | refine DQ.stepc (yai rfl rfl rfl rfl rfl qb3 rfl) rfl rfl rfl rfl rfl ?_ | refine DQ.stepc (ya4 (kf := k8) (q := c.kind) (xs := stepKeys) (i := 0) (v := [.fn 110, .fn 111, .bool true, .nilf]) key56 Tryz.underlying128 zero126 rfl rfl rfl rfl rfl rfl (by rw [hck]; rfl) (by intro j hj; omega) rfl) rfl rfl rfl rfl rfl ?_ | refine DQ.stepc (LS.alloc 1 tabs rfl rfl rfl rfl rfl rfl) rfl rfl rfl rfl rfl ?_ | refine DQ.stepc (LS.store (i := ti126) (v := .agg [.imm (.fn 110), .imm (.fn 111), .imm (.bool true), .imm .nilf]) (ty := 126) (sz := 4) (rows := [ti126.zero]) (r := ti126.zero) tabs rfl rfl rfl rfl rfl rfl rfl rfl rfl rfl (Nat.le_of_ble_eq_true rfl) rfl) rfl rfl rfl rfl rfl ?_ | refine DQ.stepc (yai rfl rfl rfl rfl rfl (qgq c) rfl) rfl rfl rfl rfl rfl ?_ | refine DQ.stepc (yai rfl rfl rfl rfl rfl hsame rfl) rfl rfl rfl rfl rfl ?_ | refine DQ.stepc (LS.val tabs rfl rfl rfl) rfl rfl rfl rfl rfl ?_ | refine DQ.stepc (yab rfl rfl) rfl rfl rfl rfl rfl ?_ | refine DQ.nilM (by kernel_rfl) ?_ | (refine DQ.gsplitE rfl rfl rfl (fun hc => ?_) (fun hc => ?_) <;> (fail_if_success (exact absurd hc (by decide))) <;> (try simp only [hsx] at hc) <;> (try first | omega | contradiction | (simp [qa] at hc; done)))) | refine yn ?_ | refine yc ?_ | refine ya ?_ | refine yf ?_ | refine yh rfl ?_ | refine yg rfl ?_ | (refine yk rfl (fun hc => ?_) (fun hc => ?_) <;> (try simp only [hsx] at hc) <;> (try first | omega | contradiction | (simp [qa] at hc; done))) | refine yo ?_ | refine yd ?_ | refine yx mixed (by kernel_rfl) ?_))
  all_goals first
    | (rw [show doneM f n = ([], 3) by unfold doneM; rw [if_pos (by omega)]]; exact RQ.fin rfl rfl rfl)
    | (rw [show doneM f n = ([], 2) by unfold doneM; rw [if_neg (by omega), if_neg (by rw [qb]; exact hc)]]; exact RQ.fin rfl rfl rfl)
    | (rw [show doneM f n = (f ++ [n], 0) by unfold doneM; rw [if_neg (by omega), if_pos (by rw [qb]; exact hc)]]; exact yao rfl (ya0 (.cons (fzSn (f := f) (n := n) (id := 0) rfl) (.cons (Fz.im rfl) .nil))))
theorem qbo (f : List Node) (p : Int) (n : Node) (hp : 0 ≤ p) (hp1 : p < f.length) (i : Int) (h0 : 0 ≤ i) : atI (updAt f p n) i = if i = p then n else atI f i := by
  unfold updAt
  exact qt _ _ _ _ hp hp1 h0
theorem qb4 (f : List Node) (p : Int) (n : Node) : (updAt f p n).length = f.length := by unfold updAt; simp
theorem qfw (f : List Node) (node parent : Int) (h1 : 1 ≤ node) (h2 : node ≤ f.length) (h3 : 1 ≤ parent) (h4 : parent ≤ f.length) : (atI (insF f node parent) (parent - 1)).kids = (atI f (parent - 1)).kids ++ [node] := by
  unfold insF
  rw [qbo _ _ _ (by omega) (by rw [qb4]; omega) _ (by omega)]
  by_cases e : parent - 1 = node - 1
  · rw [if_pos e, ← e, qbo _ _ _ (by omega) (by omega) _ (by omega), if_pos rfl]
  · rw [if_neg e, qbo _ _ _ (by omega) (by omega) _ (by omega), if_pos rfl]
theorem qct {f : List Node} {p : Int} {n : Node} (hf : Fit f) (hn : FitN n) : Fit (updAt f p n) := ⟨by rw [qb4]; exact hf.len, fun m hm => by
  rcases List.mem_or_eq_of_mem_set hm with h | rfl
  · exact hf.node m h
  · exact hn⟩
theorem qho (f : List Node) (c : Change) (hf : Fit f) (h1 : 1 ≤ c.node) (h2 : c.node ≤ f.length) (h3 : 1 ≤ c.parent) (h4 : c.parent ≤ f.length) (hk : (atI f (c.parent - 1)).kids.length < 1000000000) : Fit (insF f c.node c.parent) := by
  have e1 : Fit (updAt f (c.parent - 1) { atI f (c.parent - 1) with kids := (atI f (c.parent - 1)).kids ++ [c.node] }) := by
    have := hf.atI (c.parent - 1) (by omega) (by omega)
    exact qct hf ⟨this.data, this.attrs, by simp; omega⟩
  unfold insF
  have := e1.atI (c.node - 1) (by omega) (by rw [qb4]; omega)
  exact qct e1 ⟨this.data, this.attrs, this.kids⟩
noncomputable def doneI (f : List Node) (c : Change) : List Node × Int := if dec (rightP (insF f c.node c.parent)) = true then (insF f c.node c.parent, 0) else ([], 2)
theorem qle (f : List Node) (c : Change) (hf : Fit f) (h0 : 0 < f.length) (hck : c.kind = 2) (hcp : plainLn c = c) (hkl : (atI f (c.parent - 1)).kids.length < 1000000000) (h1 : 1 ≤ c.node) (h2 : c.node ≤ f.length) (h3 : 1 ≤ c.parent) (h4 : c.parent ≤ f.length) (hidx : c.index = (atI f (c.parent - 1)).kids.length) (hk : (atI f (c.parent - 1)).kids ≠ []) (hp0 : (atI f (c.node - 1)).parent = 0) : PureC Tryz.prog 71 [fav f, c.av] (.tup [fav (doneI f c).1, iav (doneI f c).2]) := by
  have hsame : PureC Tryz.prog 96 [c.av, (plainLn c).av] (bav true) := by
    rw [hcp]
    exact qan c (by rw [← hcp]; simp [plainLn, c0]) (by rw [← hcp]; exact fit0) (by rw [← hcp]; simp [plainLn, c0]) (by rw [← hcp]; simp [plainLn, c0]) (by omega) (by omega)
  have hins := qjc f c hf h1 h2 h3 h4 hidx hk hp0
  have hfst : ∀ j : Nat, j < 1 → stepKeys[j]? ≠ some c.kind := by
    intro j hj
    have : j = 0 := by omega
    subst this; rw [hck]; decide
  have hil := qdj f c.node c.parent
  have hki : (atI (insF f c.node c.parent) (c.parent - 1)).kids = (atI f (c.parent - 1)).kids ++ [c.node] := qfw f c.node c.parent h1 h2 h3 h4
  have hfi := qho f c hf h1 h2 h3 h4 hkl
  have fzI_ : ∀ {C : Cx} {s : St}, nth s.hp 0 = some ⟨44, 16, rowsK (insF f c.node c.parent) (c.parent - 1) (.os 1 ((atI f (c.parent - 1)).kids ++ [c.node]).length)⟩ → nth s.hp 1 = some ⟨3, 1, ((atI f (c.parent - 1)).kids ++ [c.node]).map cI⟩ → Fz C s (.agg [.os 0 f.length]) (fav (insF f c.node c.parent)) := by
    intro C s g1 g2
    have := fzK (C := C) (s := s) (f := insF f c.node c.parent) (p := c.parent - 1) (id := 0) (kid := 1) (m := ((atI f (c.parent - 1)).kids ++ [c.node]).length) (by omega) (by omega) (by rw [hki]) g1 (by rw [hki]; exact g2)
    rw [hil] at this
    exact this
  refine yq tabs Tryz.func71 51 [.cell 4 24, .tmp 5] rfl rfl rfl rfl rfl ?_; intro w0 X
  refine AW.reserve 44 16 rfl ?_
  refine AW.reserve 3 1 rfl ?_
  refine AW.reserve 126 4 rfl ?_
  (repeat' (first | ((with_reducible show AL _ _ _ _ _); first | (refine AL.step tabs rfl ?_; try dsimp only [len, List.nil_append, List.cons_append]) | refine yac [0, 1] 6 rfl rfl rfl rfl rfl (caps := []) rfl (qfv f (c.parent - 1) hf (by omega) (by omega) hk) rfl rfl rfl rfl rfl rfl (by simp only [qax]; exact ⟨qad _ _ _ _ rfl, (by simp only [List.all_cons, List.all_nil, List.all_map, Function.comp_def, cI, cB, iav, bav, AV.sc1, AV.sc0, Bool.and_true, Bool.and_self, qf]; try rfl)⟩) rfl (hpA := [⟨44, 16, rowsK f (c.parent - 1) (.os 1 (atI f (c.parent - 1)).kids.length)⟩, ⟨3, 1, (atI f (c.parent - 1)).kids.map cI⟩]) (by simp only [List.map_cons, List.map_nil, qa0, qn]; rfl) (r' := .agg [.os 0 f.length]) rfl rfl ?_ | refine yac [6, 0, 1] 7 rfl rfl rfl rfl rfl (caps := []) rfl hins rfl (by simp only [List.map_cons, List.map_nil, qa0, qn]; rfl) rfl rfl (by simp only [qax]; exact ⟨rfl, qad _ _ _ _ rfl, (by simp only [List.all_cons, List.all_nil, List.all_map, Function.comp_def, cI, cB, iav, bav, AV.sc1, AV.sc0, Bool.and_true, Bool.and_self, qf]; try rfl)⟩) rfl (by simp only [qax]; exact ⟨rfl, qad _ _ _ _ rfl, (by simp only [List.all_cons, List.all_nil, List.all_map, Function.comp_def, cI, cB, iav, bav, AV.sc1, AV.sc0, Bool.and_true, Bool.and_self, qf]; try rfl)⟩) rfl (hpA := [⟨24, 1, [[.os 0 f.length]]⟩, ⟨44, 16, rowsK (insF f c.node c.parent) (c.parent - 1) (.os 1 ((atI f (c.parent - 1)).kids ++ [c.node]).length)⟩, ⟨3, 1, ((atI f (c.parent - 1)).kids ++ [c.node]).map cI⟩]) (by simp only [List.map_cons, List.map_nil, qa0, qn]; rfl) (r' := bav true) rfl rfl ?_ | refine AL.op rfl (yat rfl rfl rfl rfl (.cons (fzI_ rfl rfl) .nil) (qbn (insF f c.node c.parent) hfi) rfl) ?_ | refine ym ?_ | (refine yj rfl rfl rfl (fun hc => ?_) (fun hc => ?_) <;> (fail_if_success (exact absurd hc (by decide))) <;> (try simp only [hsx] at hc) <;> (try first | omega | contradiction | (simp [qa] at hc; done)))) | ((with_reducible show DQ _ _ _ _ _ _); first | refine DQ.stepc (yai rfl rfl rfl rfl rfl qb3 rfl) rfl rfl rfl rfl rfl ?_ | refine DQ.stepc (ya4 (kf := k8) (q := c.kind) (xs := stepKeys) (i := 1) (v := [.fn 112, .fn 113, .bool false, .any]) key56 Tryz.underlying128 zero126 rfl rfl rfl rfl rfl rfl (by rw [hck]; rfl) hfst rfl) rfl rfl rfl rfl rfl ?_ | refine DQ.stepc (LS.alloc 2 tabs rfl rfl rfl rfl rfl rfl) rfl rfl rfl rfl rfl ?_ | refine DQ.stepc (LS.store (i := ti126) (v := .agg [.imm (.fn 112), .imm (.fn 113), .imm (.bool false), .imm .any]) (ty := 126) (sz := 4) (rows := [ti126.zero]) (r := ti126.zero) tabs rfl rfl rfl rfl rfl rfl rfl rfl rfl rfl (Nat.le_of_ble_eq_true rfl) rfl) rfl rfl rfl rfl rfl ?_ | refine DQ.stepc (yai rfl rfl rfl rfl rfl (qcr c) rfl) rfl rfl rfl rfl rfl ?_ | refine DQ.stepc (yai rfl rfl rfl rfl rfl hsame rfl) rfl rfl rfl rfl rfl ?_ | refine DQ.stepc (LS.val tabs rfl rfl rfl) rfl rfl rfl rfl rfl ?_ | refine DQ.stepc (yab rfl rfl) rfl rfl rfl rfl rfl ?_ | refine DQ.nilM (by kernel_rfl) ?_ | (refine DQ.gsplitE rfl rfl rfl (fun hc => ?_) (fun hc => ?_) <;> (fail_if_success (exact absurd hc (by decide))) <;> (try simp only [hsx] at hc) <;> (try first | omega | contradiction | (simp [qa] at hc; done)))) | refine yn ?_ | refine yc ?_ | refine ya ?_ | refine yf ?_ | refine yh rfl ?_ | refine yg rfl ?_ | (refine yk rfl (fun hc => ?_) (fun hc => ?_) <;> (try simp only [hsx] at hc) <;> (try first | omega | contradiction | (simp [qa] at hc; done))) | refine yo ?_ | refine yd ?_ | refine yx mixed (by kernel_rfl) ?_))
  all_goals first
    | (rw [show doneI f c = ([], 2) by unfold doneI; rw [if_neg (by rw [qb]; exact hc)]]; exact RQ.fin rfl rfl rfl)
    | (rw [show doneI f c = (insF f c.node c.parent, 0) by unfold doneI; rw [if_pos (by rw [qb]; exact hc)]]; exact yao rfl (ya0 (.cons (fzI_ rfl rfl) (.cons (Fz.im rfl) .nil))))
theorem qlf (f : List Node) (c : Change) (hf : Fit f) (h0 : 0 < f.length) (hck : c.kind = 2) (hcp : plainLn c = c) (hkl : (atI f (c.parent - 1)).kids.length < 1000000000) (h1 : 1 ≤ c.node) (h2 : c.node ≤ f.length) (h3 : 1 ≤ c.parent) (h4 : c.parent ≤ f.length) (hidx : c.index = (atI f (c.parent - 1)).kids.length) (hk : (atI f (c.parent - 1)).kids = []) (hp0 : (atI f (c.node - 1)).parent = 0) : PureC Tryz.prog 71 [fav f, c.av] (.tup [fav (doneI f c).1, iav (doneI f c).2]) := by
  have hsame : PureC Tryz.prog 96 [c.av, (plainLn c).av] (bav true) := by
    rw [hcp]
    exact qan c (by rw [← hcp]; simp [plainLn, c0]) (by rw [← hcp]; exact fit0) (by rw [← hcp]; simp [plainLn, c0]) (by rw [← hcp]; simp [plainLn, c0]) (by omega) (by omega)
  have hins := qjd f c hf h1 h2 h3 h4 hidx hk hp0
  have hfst : ∀ j : Nat, j < 1 → stepKeys[j]? ≠ some c.kind := by
    intro j hj
    have : j = 0 := by omega
    subst this; rw [hck]; decide
  have hil := qdj f c.node c.parent
  have hki : (atI (insF f c.node c.parent) (c.parent - 1)).kids = (atI f (c.parent - 1)).kids ++ [c.node] := qfw f c.node c.parent h1 h2 h3 h4
  have hfi := qho f c hf h1 h2 h3 h4 hkl
  have fzI_ : ∀ {C : Cx} {s : St}, nth s.hp 0 = some ⟨44, 16, rowsK (insF f c.node c.parent) (c.parent - 1) (.os 1 1)⟩ → nth s.hp 1 = some ⟨3, 1, [cI c.node]⟩ → Fz C s (.agg [.os 0 f.length]) (fav (insF f c.node c.parent)) := by
    intro C s g1 g2
    have := fzK (C := C) (s := s) (f := insF f c.node c.parent) (p := c.parent - 1) (id := 0) (kid := 1) (m := 1) (by omega) (by omega) (by rw [hki, hk]; rfl) g1 (by rw [hki, hk]; exact g2)
    rw [hil] at this
    exact this
  refine yq tabs Tryz.func71 51 [.cell 4 24, .tmp 5] rfl rfl rfl rfl rfl ?_; intro w0 X
  refine AW.reserve 44 16 rfl ?_
  refine AW.reserve 3 1 rfl ?_
  refine AW.reserve 126 4 rfl ?_
  (repeat' (first | ((with_reducible show AL _ _ _ _ _); first | (refine AL.step tabs rfl ?_; try dsimp only [len, List.nil_append, List.cons_append]) | refine yac [0] 6 rfl rfl rfl rfl rfl (caps := []) rfl (qld f (c.parent - 1) hf (by omega) (by omega) hk) rfl rfl rfl rfl rfl rfl (by simp only [List.all_cons, List.all_nil, Bool.and_true]; exact qad _ _ _ _ rfl) rfl (hpA := [⟨44, 16, rowsK f (c.parent - 1) .nocap⟩]) (by simp only [List.map_cons, List.map_nil, qa0]; rfl) (r' := .agg [.os 0 f.length]) rfl rfl ?_ | refine yac [6, 0, 1] 7 rfl rfl rfl rfl rfl (caps := []) rfl hins rfl (by simp only [List.map_cons, List.map_nil, qa0]; rfl) rfl rfl (by simp only [qax]; exact ⟨rfl, qad _ _ _ _ rfl⟩) rfl (by simp only [qax]; exact ⟨rfl, qad _ _ _ _ rfl, (by simp only [List.all_cons, List.all_nil, List.all_map, Function.comp_def, cI, cB, iav, bav, AV.sc1, AV.sc0, Bool.and_true, Bool.and_self, qf]; try rfl)⟩) rfl (hpA := [⟨24, 1, [[.os 0 f.length]]⟩, ⟨44, 16, rowsK (insF f c.node c.parent) (c.parent - 1) (.os 1 1)⟩, ⟨3, 1, [cI c.node]⟩]) (by simp only [List.map_cons, List.map_nil, qa0]; rfl) (r' := bav true) rfl rfl ?_ | refine AL.op rfl (yat rfl rfl rfl rfl (.cons (fzI_ rfl rfl) .nil) (qbn (insF f c.node c.parent) hfi) rfl) ?_ | refine ym ?_ | (refine yj rfl rfl rfl (fun hc => ?_) (fun hc => ?_) <;> (fail_if_success (exact absurd hc (by decide))) <;> (try simp only [hsx] at hc) <;> (try first | omega | contradiction | (simp [qa] at hc; done)))) | ((with_reducible show DQ _ _ _ _ _ _); first | refine DQ.stepc (yai rfl rfl rfl rfl rfl qb3 rfl) rfl rfl rfl rfl rfl ?_ | refine DQ.stepc (ya4 (kf := k8) (q := c.kind) (xs := stepKeys) (i := 1) (v := [.fn 112, .fn 113, .bool false, .any]) key56 Tryz.underlying128 zero126 rfl rfl rfl rfl rfl rfl (by rw [hck]; rfl) hfst rfl) rfl rfl rfl rfl rfl ?_ | refine DQ.stepc (LS.alloc 2 tabs rfl rfl rfl rfl rfl rfl) rfl rfl rfl rfl rfl ?_ | refine DQ.stepc (LS.store (i := ti126) (v := .agg [.imm (.fn 112), .imm (.fn 113), .imm (.bool false), .imm .any]) (ty := 126) (sz := 4) (rows := [ti126.zero]) (r := ti126.zero) tabs rfl rfl rfl rfl rfl rfl rfl rfl rfl rfl (Nat.le_of_ble_eq_true rfl) rfl) rfl rfl rfl rfl rfl ?_ | refine DQ.stepc (yai rfl rfl rfl rfl rfl (qcr c) rfl) rfl rfl rfl rfl rfl ?_ | refine DQ.stepc (yai rfl rfl rfl rfl rfl hsame rfl) rfl rfl rfl rfl rfl ?_ | refine DQ.stepc (LS.val tabs rfl rfl rfl) rfl rfl rfl rfl rfl ?_ | refine DQ.stepc (yab rfl rfl) rfl rfl rfl rfl rfl ?_ | refine DQ.nilM (by kernel_rfl) ?_ | (refine DQ.gsplitE rfl rfl rfl (fun hc => ?_) (fun hc => ?_) <;> (fail_if_success (exact absurd hc (by decide))) <;> (try simp only [hsx] at hc) <;> (try first | omega | contradiction | (simp [qa] at hc; done)))) | refine yn ?_ | refine yc ?_ | refine ya ?_ | refine yf ?_ | refine yh rfl ?_ | refine yg rfl ?_ | (refine yk rfl (fun hc => ?_) (fun hc => ?_) <;> (try simp only [hsx] at hc) <;> (try first | omega | contradiction | (simp [qa] at hc; done))) | refine yo ?_ | refine yd ?_ | refine yx mixed (by kernel_rfl) ?_))
  all_goals first
    | (rw [show doneI f c = ([], 2) by unfold doneI; rw [if_neg (by rw [qb]; exact hc)]]; exact RQ.fin rfl rfl rfl)
    | (rw [show doneI f c = (insF f c.node c.parent, 0) by unfold doneI; rw [if_pos (by rw [qb]; exact hc)]]; exact yao rfl (ya0 (.cons (fzI_ rfl rfl) (.cons (Fz.im rfl) .nil))))
open Go.Shelf Go.RowKit Go.Lib
set_option maxHeartbeats 4000000 in
set_option maxRecDepth 100000 in
theorem qgv (b n c i vb voff m vc : Nat) (cs vs : List Value) (w : World) (hi : i < n) (hm : 0 < m) (hroom : n + m ≤ c) (hc63 : c ≤ 9223372036854775807) (hvb : vb ≠ b)
    (hcl : cs.length = n) (hvl : vs.length = m)
    (hcs : ∀ j v, cs[j]? = some v → w.cell? ⟨b, j, none⟩ = some v) (hsp : ∀ j, j < n + m → (w.cell? ⟨b, j, none⟩).isSome = true) (hfz : ∀ j, w.frozen? ⟨b, j, none⟩ = false)
    (hvs : ∀ j v, vs[j]? = some v → w.cell? ⟨vb, voff + j, none⟩ = some v) (h1c : ∀ v ∈ cs, v.oneCell' = true) (h1v : ∀ v ∈ vs, v.oneCell' = true) :
    Calls Tryz.prog 150 #[.slice (some ⟨b, 0, none⟩) n c, .int .i64 i, .slice (some ⟨vb, voff, none⟩) m vc] w fun e w' =>
      e = .returned (.slice (some ⟨b, 0, none⟩) (n + m) c) ∧ w' = (w.drew.setCells b (i + m) (cs.drop i)).setCells b i vs := by
  have mixed : Tryz.prog.follows .mixedOrders = true := by kernel_rfl
  have tS : Tryz.prog.underlying 41 = some (.slice 3) := Tryz.underlying41
  have tI : Tryz.prog.underlying 3 = some (.int .i64) := Tryz.underlying3
  have iE : (Tryz.prog.info? 3).map (fun i => (i.zero, i.size, i.bytes)) = some (some (Value.int .i64 0), 1, 8) := by kernel_rfl
  obtain ⟨i0, hi0, hz0, hzs, hzb⟩ := info_parts iE
  have hsz : (Tryz.prog.info? 3).map (·.size) = some 1 := by rw [hi0]; simp [hzs]
  have hz1 : ¬ ((m : Int) = 0) := by omega
  have hz2 : ¬ ((i : Int) = (n : Int)) := by omega
  have hov : ∀ lb cb, (callFunc 178 #[.slice (some ⟨vb, voff, none⟩) m vc, .slice (some ⟨b, i + m, none⟩) lb cb]).run Tryz.prog w = .ok (.value (.bool false)) w := fun lb cb => by
    obtain ⟨tA, kA, hsa, hkA, _⟩ := cell_shape (hvs 0 _ (List.getElem?_eq_getElem (by omega)))
    obtain ⟨y, hy⟩ := Option.isSome_iff_exists.1 (hsp 0 (by omega))
    obtain ⟨tB, kB, hsb, _⟩ := cell_shape hy
    rw [run_callFunc_extern Tryz.func178 (by kernel_rfl) (by kernel_rfl) (by kernel_rfl) (e := Extern.SlicesOverlaps.overlaps #[41, 41] #[4]) (by kernel_rfl),
      (qbm w 41 4 3 Tryz.underlying41 1 Tryz.sizeOf3 ⟨vb, voff, none⟩ ⟨b, i + m, none⟩ m vc lb cb hvb tA tB kA kB hsa hsb hkA (hfz _) (hfz _)).2]
    rfl
  have hdl : (cs.drop i).length = n - i := by rw [List.length_drop, hcl]
  have hw1 : IntKind.i64.wrap ((i : Int) + (m : Int)) = (i : Int) + (m : Int) := by rw [IntKind.wrap_i64]; omega
  have hb1 : (0 : Int) ≤ (i : Int) + (m : Int) := by omega
  have hin : i ≤ n := by omega
  have htn : ((i : Int) + (m : Int)).toNat = i + m := by omega
  have hb2 : ¬ (c = i + m) := by omega
  have hb3 : (i : Int) ≤ (n : Int) + (m : Int) := by omega
  have hb4 : ¬ (c = i) := by omega
  have hcp1 : ∀ ty dc sc, (Builtin.copy_ #[41, 41] ty #[.slice (some ⟨b, i + m, none⟩) (n + m - (i + m)) dc, .slice (some ⟨b, i, none⟩) (n + m - i) sc]).run Tryz.prog w.drew = .ok (goInt (cs.drop i).length) (w.drew.setCells b (i + m) (cs.drop i)) := fun ty dc sc =>
    run_copy_cells w.drew _ _ ty 3 b (i + m) (n + m - (i + m)) dc ⟨b, i, none⟩ (n + m - i) sc (cs.drop i) tS hsz (by rw [hdl]; simp only [Nat.min_def]; split <;> omega)
      (fun j v hj => by rw [Addr.add_lit]; exact hcs (i + j) v (by rwa [List.getElem?_drop] at hj))
      (fun j hj => hsp _ (by omega)) (fun j hj => hfz _) (fun v hv => h1c v (List.mem_of_mem_drop hv))
  obtain ⟨W1, hW1⟩ : ∃ W1, W1 = w.drew.setCells b (i + m) (cs.drop i) := ⟨_, rfl⟩
  have hsp1 : ∀ k, k < n + m → (W1.cell? ⟨b, k, none⟩).isSome = true := fun k hk => by
    rw [hW1]
    exact isSome_setCells b (cs.drop i) (i + m) w.drew (fun j hj => hsp _ (by omega)) _ (hsp k hk)
  have hcp2 : ∀ (W : World), (∀ x, W.cell? x = W1.cell? x) → (∀ x, W.frozen? x = W1.frozen? x) → ∀ ty dc, (Builtin.copy_ #[41, 41] ty #[.slice (some ⟨b, i, none⟩) (n + m - i) dc, .slice (some ⟨vb, voff, none⟩) m vc]).run Tryz.prog W = .ok (goInt vs.length) (W.setCells b i vs) := fun W hWc hWf ty dc =>
    run_copy_cells W _ _ ty 3 b i (n + m - i) dc ⟨vb, voff, none⟩ m vc vs tS hsz (by rw [hvl]; simp only [Nat.min_def]; split <;> omega)
      (fun j v hj => by
        rw [Addr.add_lit, hWc, hW1, World.cell?_setCells_out b _ _ _ _ (fun h _ => absurd h hvb)]
        exact hvs j v hj)
      (fun j hj => by rw [hWc]; exact hsp1 _ (by omega)) (fun j hj => by rw [hWf, hW1, World.frozen?_setCells]; exact hfz _) h1v
  rw [← hW1] at hcp1
  go_enter Tryz.func150, Tryz.ntmps150
  go_wp2_with (simp only [hov])
  go_region_law_o (refine step_copy_runI rfl _ _ 41 41 rfl _ _ (by simp [Act.eval, Act.put]) (by simp [Act.eval, Act.put]) (hcp1 _ _ _) ?_)
  go_wp2_with (at_builtin; refine wpList_copy_runI _ rfl _ _ 41 41 rfl _ _ rfl rfl (hcp2 _ (fun _ => rfl) (fun _ => rfl) _ _) ?_)
  go_ret
  first | exact ⟨rfl, rfl⟩ | exact ⟨rfl, by rw [hW1]⟩
set_option maxHeartbeats 4000000 in
set_option maxRecDepth 100000 in
theorem qh5 (b n c i vb voff m vc : Nat) (cs vs : List Value) (w : World) (hi : i < n) (hm : 0 < m) (hnc : n ≤ c) (hroom : c < n + m) (hbig : (n + m) * 8 ≤ 140737488355328) (hbig2 : n + m ≤ 140737488355328)
    (hcl : cs.length = n) (hvl : vs.length = m)
    (hcs : ∀ j v, cs[j]? = some v → w.cell? ⟨b, j, none⟩ = some v)
    (hvs : ∀ j v, vs[j]? = some v → w.cell? ⟨vb, voff + j, none⟩ = some v) (h1c : ∀ v ∈ cs, v.oneCell' = true) (h1v : ∀ v ∈ vs, v.oneCell' = true) :
    Calls Tryz.prog 150 #[.slice (some ⟨b, 0, none⟩) n c, .int .i64 i, .slice (some ⟨vb, voff, none⟩) m vc] w fun e w' =>
      e = .returned (.slice (some ⟨w.heap.size, 0, none⟩) (n + m) (grownCap w (n + m) c 3)) ∧
      w' = (((w.alloc (.cells ((cs.take i).toArray ++ Builtin.zeroCells (Value.int .i64 0).cells (n + m - i) ++ Builtin.zeroCells (Value.int .i64 0).cells (grownCap w (n + m) c 3 - (n + m))) 3)).drew.setCells w.heap.size i vs).drew).setCells w.heap.size (i + m) (cs.drop i) := by
  have mixed : Tryz.prog.follows .mixedOrders = true := by kernel_rfl
  have tS : Tryz.prog.underlying 41 = some (.slice 3) := Tryz.underlying41
  have tI : Tryz.prog.underlying 3 = some (.int .i64) := Tryz.underlying3
  have iE : (Tryz.prog.info? 3).map (fun i => (i.zero, i.size, i.bytes)) = some (some (Value.int .i64 0), 1, 8) := by kernel_rfl
  obtain ⟨i0, hi0, hz0, hzs, hzb⟩ := info_parts iE
  have hsz : (Tryz.prog.info? 3).map (·.size) = some 1 := by rw [hi0]; simp [hzs]
  have hz1 : ¬ ((m : Int) = 0) := by omega
  have hz2 : ¬ ((i : Int) = (n : Int)) := by omega
  have hz3 : (c : Int) < (n : Int) + (m : Int) := by omega
  have hbw : b < w.heap.size := block_lt_of_cell (hcs 0 _ (List.getElem?_eq_getElem (by omega)))
  have hvw : vb < w.heap.size := block_lt_of_cell (hvs 0 _ (List.getElem?_eq_getElem (by omega)))
  have hkk : (n : Int) + (m : Int) - (i : Int) = ((n + m - i : Nat) : Int) := by omega
  have hik : i + (n + m - i) = n + m := by omega
  have hold : (Builtin.firstCells i0.size i (.slice (some ⟨b, 0, none⟩) i c)).run Tryz.prog w.drew = .ok (cs.take i).toArray w.drew := by
    rw [hzs]
    exact run_firstCells_some w.drew 1 i ⟨b, 0, none⟩ i c (cs.take i) (by rw [List.length_take]; omega) (fun j v hj => by
      rw [Addr.add_lit, Nat.zero_add]
      rw [List.getElem?_take] at hj
      split at hj
      · exact hcs j v hj
      · cases hj)
  have hrz : ∀ ty, (Builtin.append_ #[41, 3] ty #[.slice (some ⟨b, 0, none⟩) i c, .int .i64 ((n : Int) + (m : Int) - (i : Int))]).run Tryz.prog w =
      .ok (.slice (some ⟨w.heap.size, 0, none⟩) (n + m) (grownCap w (n + m) c 3)) (w.drew.alloc (.cells ((cs.take i).toArray ++ Builtin.zeroCells (Value.int .i64 0).cells (n + m - i) ++ Builtin.zeroCells (Value.int .i64 0).cells (grownCap w (n + m) c 3 - (n + m))) 3)) := fun ty => by
    have h := Lib.run_append_grow_zeros w 41 3 ty 3 i0 _ .i64 .i64 tS tI hi0 hz0 (some ⟨b, 0, none⟩) i c (cs.take i) hold (n + m - i) (by omega) (by omega) (by omega) (by omega) (by rw [hzb]; omega) (by rw [hzb, hik]; exact growslice_fits hroom hbig)
    rw [hik] at h
    rw [hkk]
    exact h
  obtain ⟨G, hG⟩ : ∃ G, G = grownCap w (n + m) c 3 := ⟨_, rfl⟩
  obtain ⟨ROW, hROW⟩ : ∃ ROW : Array Value, ROW = (cs.take i).toArray ++ Builtin.zeroCells (Value.int .i64 0).cells (n + m - i) ++ Builtin.zeroCells (Value.int .i64 0).cells (G - (n + m)) := ⟨_, rfl⟩
  rw [← hG] at hrz ⊢
  rw [← hROW] at hrz ⊢
  have hRl : n + m ≤ ROW.size := by
    rw [hROW]
    simp [Builtin.zeroCells, Value.cells]
    omega
  obtain ⟨W1, hW1⟩ : ∃ W1, W1 = w.drew.alloc (.cells ROW 3) := ⟨_, rfl⟩
  rw [← hW1] at hrz
  have hN : ∀ j, j < n + m → (W1.cell? ⟨w.heap.size, j, none⟩).isSome = true := fun j hj => by
    rw [hW1, World.cell?_alloc_at (w := w.drew) ROW _ w.heap.size j rfl, Array.getElem?_eq_getElem (by omega)]; rfl
  have hNf : ∀ j, W1.frozen? ⟨w.heap.size, j, none⟩ = false := fun j => by rw [hW1]; exact World.frozen?_alloc_at (w := w.drew) ROW _ w.heap.size j rfl
  have hOb : ∀ j v, w.cell? ⟨b, j, none⟩ = some v → W1.cell? ⟨b, j, none⟩ = some v := fun j v h => by rw [hW1, World.cell?_alloc_past (w := w.drew) _ b j hbw]; exact h
  have hOv : ∀ j v, w.cell? ⟨vb, j, none⟩ = some v → W1.cell? ⟨vb, j, none⟩ = some v := fun j v h => by rw [hW1, World.cell?_alloc_past (w := w.drew) _ vb j hvw]; exact h
  have hcpA : ∀ (W : World), (∀ x, W.cell? x = W1.cell? x) → (∀ x, W.frozen? x = W1.frozen? x) → ∀ ty dc, (Builtin.copy_ #[41, 41] ty #[.slice (some ⟨w.heap.size, i, none⟩) (n + m - i) dc, .slice (some ⟨vb, voff, none⟩) m vc]).run Tryz.prog W = .ok (goInt vs.length) (W.setCells w.heap.size i vs) := fun W hWc hWf ty dc =>
    run_copy_cells W _ _ ty 3 w.heap.size i (n + m - i) dc ⟨vb, voff, none⟩ m vc vs tS hsz (by rw [hvl]; simp only [Nat.min_def]; split <;> omega)
      (fun j v hj => by rw [Addr.add_lit, hWc]; exact hOv _ v (hvs j v hj))
      (fun j hj => by rw [hWc]; exact hN _ (by omega)) (fun j hj => by rw [hWf]; exact hNf _) h1v
  have hGn : n + m ≤ G := by rw [hG]; exact grownCap_ge w _ _ _
  have hG63 : G ≤ 9223372036854775807 := by
    have := grownCap_le_maxLen w (n + m) c 3 (by unfold maxLen; omega)
    rw [← hG] at this
    unfold maxLen at this
    omega
  have hGi : ¬ (G = i) := by omega
  have hGim : ¬ (G = i + m) := by omega
  have hci : ¬ (c = i) := by omega
  have hbN : b ≠ w.heap.size := by omega
  have hdl : (cs.drop i).length = n - i := by rw [List.length_drop, hcl]
  have hcpB : ∀ (W : World), (∀ x, W.cell? x = (W1.setCells w.heap.size i vs).cell? x) → (∀ x, W.frozen? x = (W1.setCells w.heap.size i vs).frozen? x) → ∀ ty dc sc, (Builtin.copy_ #[41, 41] ty #[.slice (some ⟨w.heap.size, i + m, none⟩) (n + m - (i + m)) dc, .slice (some ⟨b, i, none⟩) (n - i) sc]).run Tryz.prog W = .ok (goInt (cs.drop i).length) (W.setCells w.heap.size (i + m) (cs.drop i)) := fun W hWc hWf ty dc sc =>
    run_copy_cells W _ _ ty 3 w.heap.size (i + m) (n + m - (i + m)) dc ⟨b, i, none⟩ (n - i) sc (cs.drop i) tS hsz (by rw [hdl]; simp only [Nat.min_def]; split <;> omega)
      (fun j v hj => by
        rw [Addr.add_lit, hWc, World.cell?_setCells_out _ _ _ _ _ (fun h _ => absurd h hbN)]
        exact hOb _ v (hcs (i + j) v (by rwa [List.getElem?_drop] at hj)))
      (fun j hj => by rw [hWc]; exact isSome_setCells _ _ _ _ (fun t ht => hN _ (by omega)) _ (hN _ (by omega)))
      (fun j hj => by rw [hWf, World.frozen?_setCells]; exact hNf _) (fun v hv => h1c v (List.mem_of_mem_drop hv))
  subst hW1
  have hE1 : ∀ x, ((w.alloc (.cells ROW 3)).drew).cell? x = (w.drew.alloc (.cells ROW 3)).cell? x := fun x => rfl
  have hE2 : ∀ x, ((w.alloc (.cells ROW 3)).drew).frozen? x = (w.drew.alloc (.cells ROW 3)).frozen? x := fun x => rfl
  have hF1 : ∀ x, (((w.alloc (.cells ROW 3)).drew.setCells w.heap.size i vs).drew).cell? x = ((w.drew.alloc (.cells ROW 3)).setCells w.heap.size i vs).cell? x := fun x => rfl
  have hF2 : ∀ x, (((w.alloc (.cells ROW 3)).drew.setCells w.heap.size i vs).drew).frozen? x = ((w.drew.alloc (.cells ROW 3)).setCells w.heap.size i vs).frozen? x := fun x => rfl
  have hw1 : IntKind.i64.wrap ((i : Int) + (m : Int)) = (i : Int) + (m : Int) := by rw [IntKind.wrap_i64]; omega
  have hb1 : (0 : Int) ≤ (i : Int) + (m : Int) := by omega
  have hin : i ≤ n := by omega
  have htn : ((i : Int) + (m : Int)).toNat = i + m := by omega
  have hb3 : (i : Int) ≤ (n : Int) := by omega
  clear hkk hik hold hROW hG hRl
  go_enter Tryz.func150, Tryz.ntmps150
  go_wp2_with (first
    | (at_builtin; refine Lib.wpList_append_run _ rfl _ _ _ _ rfl _ _ rfl rfl _ _ (hrz _) ?_)
    | (at_builtin; refine wpList_copy_runI _ rfl _ _ 41 41 rfl _ _ rfl rfl (hcpA _ hE1 hE2 _ _) ?_)
    | (at_builtin; refine wpList_copy_runI _ rfl _ _ 41 41 rfl _ _ rfl rfl (hcpB _ (fun _ => rfl) (fun _ => rfl) _ _ _) ?_))
  go_region_law_o (refine step_copy_runI rfl _ _ 41 41 rfl (.slice (some ⟨w.heap.size, i + m, none⟩) (n + m - (i + m)) (G - (i + m))) (.slice (some ⟨b, i, none⟩) (n - i) (c - i)) (by simp [Act.eval, Act.put]) (by simp [Act.eval, Act.put]) (hcpB _ hF1 hF2 3 (G - (i + m)) (c - i)) ?_)
  go_wp2
  go_ret
  exact ⟨rfl, rfl⟩
theorem ownI {C : Cx} {s : St} {γ : Nat → Option Nat} {κ : Nat → Nat} {a : Act} {W : World} (hC : Conc C s γ κ a W) {id : Nat} {l : List Int} (hb : s.hp[id]? = some ⟨3, 1, l.map (cK .i64)⟩) (h0 : l ≠ []) :
    ∃ g sp, γ id = some g ∧ W.heap[g]? = some (.cells (l.map (Value.int .i64) ++ sp).toArray 3 (0, 0)) ∧ l.length + sp.length = κ id := by
  have hB := hC.blk id _ hb
  rcases hB.mem with ⟨h1, h2, h3⟩ | ⟨g, ys, sp, h1, h2, h3, h4⟩
  · exact absurd (List.map_eq_nil_iff.1 h2) h0
  · have e := qgm h4
    subst e
    exact ⟨g, sp, h1, h2, by have h3' : _ = κ id * 1 := h3; simpa using h3'⟩
theorem coreI {C : Cx} {s : St} {γ : Nat → Option Nat} {κ : Nat → Nat} {a : Act} {W : World} (hC : Conc C s γ κ a W) {id : Nat} {l v : List Int} (hb : s.hp[id]? = some ⟨3, 1, l.map (cK .i64)⟩) {i : Nat} (hi : i < l.length) (hm : 0 < v.length) (hl : l.length ≤ 1000000000) (hv : v.length ≤ 1000000000)
    {vb voff vc : Nat} (hvb : γ id ≠ some vb) (hvs : ∀ j y, (v.map (Value.int .i64))[j]? = some y → W.cell? ⟨vb, voff + j, none⟩ = some y) :
    Calls Tryz.prog 150 #[.slice ((γ id).map fun g => ⟨g, 0, none⟩) l.length (κ id), .int .i64 i, .slice (some ⟨vb, voff, none⟩) v.length vc] W fun e W' => ∃ x γ' κ', e = .returned x ∧
      Conc C ⟨s.env, s.hp.set id ⟨3, 1, (l.take i ++ v ++ l.drop i).map (cK .i64)⟩⟩ γ' κ' a W' ∧ RepA (St.mm ⟨s.env, s.hp.set id ⟨3, 1, (l.take i ++ v ++ l.drop i).map (cK .i64)⟩⟩ C γ' κ' W') (.os id (l.length + v.length)) x := by
  have hid : id < s.hp.length := (List.getElem?_eq_some_iff.1 hb).1
  obtain ⟨g, sp, hg, hmem, hcap⟩ := ownI hC hb (fun e => by rw [e] at hi; simp at hi)
  have hmax := (hC.blk id _ hb).capm
  have hmax' : κ id ≤ maxLen := hmax
  have hc63 : κ id ≤ 9223372036854775807 := by unfold maxLen at hmax'; omega
  rw [hg]
  have hcell : ∀ j, W.cell? ⟨g, j, none⟩ = (l.map (Value.int .i64) ++ sp)[j]? := fun j => by rw [qac hmem]; simp
  have hcs : ∀ j y, (l.map (Value.int .i64))[j]? = some y → W.cell? ⟨g, j, none⟩ = some y := fun j y hy => by
    rw [hcell, List.getElem?_append_left (List.getElem?_eq_some_iff.1 hy).1]; exact hy
  have h1c : ∀ u : List Int, ∀ y ∈ u.map (Value.int .i64), y.oneCell' = true := by
    intro u y hy
    obtain ⟨z, _, rfl⟩ := List.mem_map.1 hy
    rfl
  have hnew : ((l.take i ++ v ++ l.drop i).map (cK .i64)).length = l.length + v.length := by
    simp only [List.length_map, List.length_append, List.length_take, List.length_drop]; omega
  have hrep : All2 (RepA (s.mm C γ κ W)) ((l.take i ++ v ++ l.drop i).map (cK .i64)).flatten ((l.take i ++ v ++ l.drop i).map (Value.int .i64)) := qfr _ _
  have hos : ∀ {γ' : Nat → Option Nat} {κ' : Nat → Nat} {W' : World} {g' k' : Nat}, γ' id = some g' → κ' id = k' → RepA (St.mm ⟨s.env, s.hp.set id ⟨3, 1, (l.take i ++ v ++ l.drop i).map (cK .i64)⟩⟩ C γ' κ' W') (.os id (l.length + v.length)) (.slice (some ⟨g', 0, none⟩) (l.length + v.length) k') := by
    intro γ' κ' W' g' k' h1 h2
    refine .os id _ ⟨3, 1, (l.take i ++ v ++ l.drop i).map (cK .i64)⟩ _ _ _ (List.getElem?_set_self hid) (Nat.le_of_eq hnew.symm) fun _ => ⟨?_, rfl, h2.symm⟩
    show _ = (γ' id).map _
    rw [h1]; rfl
  by_cases hroom : l.length + v.length ≤ κ id
  · refine (qgv g l.length (κ id) i vb voff v.length vc _ _ W hi hm hroom hc63 (fun e => hvb (by rw [hg, e])) (by simp) (by simp) hcs (fun j hj => by rw [hcell, List.getElem?_eq_getElem (by simp only [List.length_append, List.length_map]; omega)]; rfl) (fun j => qa3 hmem j) hvs (h1c l) (h1c v)).mono ?_
    rintro e W' ⟨rfl, rfl⟩
    have h1 := ql ((l.map (Value.int .i64)).drop i) (i + v.length) W.drew _ hmem (by simp only [List.length_append, List.length_map, List.length_drop]; omega)
    have h2 := ql (v.map (Value.int .i64)) i _ _ h1 (by simp only [List.length_append, List.length_map, List.length_drop, List.length_take]; omega)
    rw [show (v.map (Value.int .i64)).length = v.length by simp] at h2
    rw [splice2 (l.map (Value.int .i64)) sp (v.map (Value.int .i64)) i v.length (by simp; omega) (by simp) (by omega)] at h2
    have e2 : (l.map (Value.int .i64)).take i ++ v.map (Value.int .i64) ++ (l.map (Value.int .i64)).drop i = (l.take i ++ v ++ l.drop i).map (Value.int .i64) := by simp
    rw [e2] at h2
    have hs1 := qh g ((l.map (Value.int .i64)).drop i) (i + v.length) W.drew
    have hs2 := qh g (v.map (Value.int .i64)) i (W.drew.setCells g (i + v.length) ((l.map (Value.int .i64)).drop i))
    obtain ⟨γ', κ', k1, k2, k3⟩ := hC.swap (b := ⟨3, 1, l.map (cK .i64)⟩) hb (g' := g) (k' := κ id) (rows' := (l.take i ++ v ++ l.drop i).map (cK .i64)) h2
      (fun x hx _ => (qj g x hx _ _ _).trans (qj g x hx _ _ _)) (by rw [hs2.2.2.2, hs1.2.2.2]; exact Nat.le_refl _) (hs2.1.trans hs1.1) (hs2.2.1.trans hs1.2.1) (hs2.2.2.1.trans hs1.2.2.1) (.inl hg)
      (fun _ => ⟨hg, rfl⟩) (by rw [hnew]; simp) (qcy _) (qb1 _) (by rw [hnew]; exact hroom) hmax' (by simp only [List.length_append, List.length_map, List.length_drop, List.length_take]; show _ = κ id * 1; omega) hrep
    exact ⟨_, γ', κ', rfl, k1, hos k2 k3⟩
  · refine (qh5 g l.length (κ id) i vb voff v.length vc _ _ W hi hm (by omega) (by omega) (by omega) (by omega) (by simp) (by simp) hcs hvs (h1c l) (h1c v)).mono ?_
    rintro e W' ⟨rfl, rfl⟩
    have hge := grownCap_ge W (l.length + v.length) (κ id) 3
    have hcm := grownCap_le_maxLen W (l.length + v.length) (κ id) 3 (by unfold maxLen; omega)
    generalize grownCap W (l.length + v.length) (κ id) 3 = G at hge hcm ⊢
    have h0 : (((W.alloc (.cells (((l.map (Value.int .i64)).take i).toArray ++ Builtin.zeroCells (Value.int .i64 0).cells (l.length + v.length - i) ++ Builtin.zeroCells (Value.int .i64 0).cells (G - (l.length + v.length))) 3)).drew).heap[W.heap.size]?) = some (.cells (((l.map (Value.int .i64)).take i ++ (Builtin.zeroCells (Value.int .i64 0).cells (l.length + v.length - i) ++ Builtin.zeroCells (Value.int .i64 0).cells (G - (l.length + v.length))).toList).toArray) 3 (0, 0)) := by
      have := qv W (.cells (((l.map (Value.int .i64)).take i).toArray ++ Builtin.zeroCells (Value.int .i64 0).cells (l.length + v.length - i) ++ Builtin.zeroCells (Value.int .i64 0).cells (G - (l.length + v.length))) 3 (0, 0))
      refine Eq.trans this ?_
      congr 2
      apply Array.toList_inj.1; simp
    have hzl : (Builtin.zeroCells (Value.int .i64 0).cells (l.length + v.length - i) ++ Builtin.zeroCells (Value.int .i64 0).cells (G - (l.length + v.length))).toList.length = G - i := by
      simp [size_zeroCells, Value.cells]; omega
    generalize (Builtin.zeroCells (Value.int .i64 0).cells (l.length + v.length - i) ++ Builtin.zeroCells (Value.int .i64 0).cells (G - (l.length + v.length))).toList = zs at h0 hzl
    have hA1 : ∀ x, x < W.heap.size → ((W.alloc (.cells (((l.map (Value.int .i64)).take i).toArray ++ Builtin.zeroCells (Value.int .i64 0).cells (l.length + v.length - i) ++ Builtin.zeroCells (Value.int .i64 0).cells (G - (l.length + v.length))) 3)).drew).heap[x]? = W.heap[x]? := fun x hx => Below.heap_alloc W _ x hx
    have hA2 : ((W.alloc (.cells (((l.map (Value.int .i64)).take i).toArray ++ Builtin.zeroCells (Value.int .i64 0).cells (l.length + v.length - i) ++ Builtin.zeroCells (Value.int .i64 0).cells (G - (l.length + v.length))) 3)).drew).heap.size = W.heap.size + 1 := by
      show (W.heap.push _).size = _
      simp
    have hA3 : ((W.alloc (.cells (((l.map (Value.int .i64)).take i).toArray ++ Builtin.zeroCells (Value.int .i64 0).cells (l.length + v.length - i) ++ Builtin.zeroCells (Value.int .i64 0).cells (G - (l.length + v.length))) 3)).drew).os = W.os ∧ ((W.alloc (.cells (((l.map (Value.int .i64)).take i).toArray ++ Builtin.zeroCells (Value.int .i64 0).cells (l.length + v.length - i) ++ Builtin.zeroCells (Value.int .i64 0).cells (G - (l.length + v.length))) 3)).drew).tape = W.tape ∧ ((W.alloc (.cells (((l.map (Value.int .i64)).take i).toArray ++ Builtin.zeroCells (Value.int .i64 0).cells (l.length + v.length - i) ++ Builtin.zeroCells (Value.int .i64 0).cells (G - (l.length + v.length))) 3)).drew).output = W.output := ⟨rfl, rfl, rfl⟩
    have hzz : zs.length = G - i := hzl
    generalize (W.alloc (.cells (((l.map (Value.int .i64)).take i).toArray ++ Builtin.zeroCells (Value.int .i64 0).cells (l.length + v.length - i) ++ Builtin.zeroCells (Value.int .i64 0).cells (G - (l.length + v.length))) 3)).drew = WA at h0 hA1 hA2 hA3 ⊢
    have h1 := ql (v.map (Value.int .i64)) i WA _ h0 (by simp only [List.length_append, List.length_map, List.length_take]; omega)
    have hs1 := qh W.heap.size (v.map (Value.int .i64)) i WA
    have hf1 := fun x hx => qj W.heap.size x hx (v.map (Value.int .i64)) i WA
    have hB : (WA.setCells W.heap.size i (v.map (Value.int .i64))).drew.heap = (WA.setCells W.heap.size i (v.map (Value.int .i64))).heap ∧ (WA.setCells W.heap.size i (v.map (Value.int .i64))).drew.os = (WA.setCells W.heap.size i (v.map (Value.int .i64))).os ∧ (WA.setCells W.heap.size i (v.map (Value.int .i64))).drew.tape = (WA.setCells W.heap.size i (v.map (Value.int .i64))).tape ∧ (WA.setCells W.heap.size i (v.map (Value.int .i64))).drew.output = (WA.setCells W.heap.size i (v.map (Value.int .i64))).output := ⟨rfl, rfl, rfl, rfl⟩
    generalize (WA.setCells W.heap.size i (v.map (Value.int .i64))).drew = WB at hB ⊢
    generalize WA.setCells W.heap.size i (v.map (Value.int .i64)) = WB' at hB h1 hs1 hf1
    rw [← hB.1] at h1
    have h2 := ql ((l.map (Value.int .i64)).drop i) (i + v.length) WB _ h1 (by simp only [List.length_append, List.length_map, List.length_take, List.length_drop]; omega)
    rw [show (v.map (Value.int .i64)).length = v.length by simp] at h2
    rw [splice3 (l.map (Value.int .i64)) zs (v.map (Value.int .i64)) i v.length (by simp; omega) (by simp) (by simp; omega)] at h2
    have e2 : (l.map (Value.int .i64)).take i ++ v.map (Value.int .i64) ++ (l.map (Value.int .i64)).drop i = (l.take i ++ v ++ l.drop i).map (Value.int .i64) := by simp
    rw [e2] at h2
    have hs2 := qh W.heap.size ((l.map (Value.int .i64)).drop i) (i + v.length) WB
    have hf2 := fun x hx => qj W.heap.size x hx ((l.map (Value.int .i64)).drop i) (i + v.length) WB
    obtain ⟨γ', κ', k1, k2, k3⟩ := hC.swap (b := ⟨3, 1, l.map (cK .i64)⟩) hb (g' := W.heap.size) (k' := G) (rows' := (l.take i ++ v ++ l.drop i).map (cK .i64)) h2
      (fun x hx hlt => (hf2 x hx).trans ((by rw [hB.1]; exact hf1 x hx : WB.heap[x]? = WA.heap[x]?).trans (hA1 x hlt))) (by rw [hs2.2.2.2, hB.1, hs1.2.2.2, hA2]; omega) (hs2.1.trans (hB.2.1.trans (hs1.1.trans hA3.1))) (hs2.2.1.trans (hB.2.2.1.trans (hs1.2.1.trans hA3.2.1))) (hs2.2.2.1.trans (hB.2.2.2.trans (hs1.2.2.1.trans hA3.2.2))) (.inr (Nat.le_refl _))
      (fun e => by have e' : (l.map (cK .i64)).length = _ := e; rw [hnew, List.length_map] at e'; omega) (by rw [hnew]; simp) (qcy _) (qb1 _) (by rw [hnew]; exact hge) hcm (by simp only [List.length_append, List.length_map, List.length_drop, List.length_take, hzz]; show _ = G * 1; omega) hrep
    exact ⟨_, γ', κ', rfl, k1, hos k2 k3⟩
end Go.Proofs.YtmhejcnaanocpaaGreat.A
