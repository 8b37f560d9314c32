/- Contracts: the reference of layer 3: do, Done, of all changes that are spoken of. -/
import Derived.Test.YtmhejcnaanocpaaGreatXRSGrpAZ
namespace Go.Proofs.YtmhejcnaanocpaaGreat.A
open Go.RowKit
set_option linter.unusedVariables false
set_option linter.unusedSimpArgs false
set_option maxRecDepth 100000
set_option maxHeartbeats 4000000
theorem yaq {C : Cx} {s : St} {o : Oper} {l : List Oper} (xb : List Nat) (hw : awant l s o = some true) {fo : Operand} {args : Array Operand} {ats : Array TypeId} (ho : o.op = .call ⟨.value fo, args, ats⟩) (hd : dok C.nt o.dst = true) {f : Nat} (hfo : s.ev fo = some (.imm (.fn f))) {vs vs' : List AV} (hx : evs s args.toList = some vs) (hfz : ∀ s', Loc l s s' o xb → FzL C s' vs vs') {r : AV} (hc : PureC C.P f vs' r) (hs : r.scal = true) : LS C l s o (mkFx l s o (.val r) xb) :=
  yav xb hw fun s' hl => by
    obtain ⟨m1, m2⟩ := qar ho
    exact yat ho hd ((hl.ev fo m1).trans hfo) ((hl.evs m2).trans hx) (hfz s' hl) hc hs
theorem qnm (f : List Node) (c : Change) (hf : Fit f) (hk : c.kind = 2) (h1 : inR f c.node) (h2 : inR f c.parent) (hp0 : (nodeAt f c.node).parent = 0) (hi0 : 0 ≤ c.index) (hidx : c.index ≤ (nodeAt f c.parent).kids.length) (hkl : (nodeAt f c.parent).kids.length ≤ 1000000) : GenC Tryz.prog 139 [⟨44, 16, f.map rowS⟩] [.agg [.os 0 f.length], c.av] (.tup [.agg [.os 0 f.length], bav true]) [⟨44, 16, (insFM f c.node c.parent c.index).map rowS⟩] := by
  have hl := hf.len
  have c1 := qjs f c hf hk h1 h2 hp0 hi0 hidx hkl
  obtain ⟨g, eg⟩ : ∃ g, g = insFM f c.node c.parent c.index := ⟨_, rfl⟩
  rw [← eg] at c1 ⊢
  refine yah tabs Tryz.func139 180 [.cell 4 24, .tmp 5] rfl rfl rfl rfl rfl ?_; intro w0 X γ κ
  (repeat' (first | ((with_reducible show AL _ _ _ _ _); first | (refine yf tabs rfl ?_; try dsimp only [len, List.nil_append, List.cons_append]) | refine yz [0] 4 rfl rfl rfl rfl rfl (caps := []) rfl c1 rfl (by simp only [List.map_cons, List.map_nil, qf (k := 0) (rho0 rfl) (qb f 0)]; rfl) rfl rfl (by simp only [List.all_cons, List.all_nil, Bool.and_true]; exact qb f _) rfl (by simp only [List.all_cons, List.all_nil, Bool.and_true]; exact qb _ _) rfl (hpA := [⟨44, 16, g.map rowS⟩]) (by simp only [List.map_cons, List.map_nil, qf (k := 0) (rho0 rfl) (qb g 0)]) (r' := bav true) rfl rfl ?_ | refine yn ?_ | (refine yq rfl rfl rfl (fun hc => ?_) (fun hc => ?_) <;> (fail_if_success (exact absurd hc (by decide))) <;> (try simp only [hsx] at hc) <;> (try first | omega | contradiction | (simp [qa] at hc; done))) | (refine AL.op rfl (yj rfl rfl rfl rfl rfl (by omega) (by omega)) ?_) | (refine AL.op rfl (ye tabs rfl rfl rfl rfl rfl rfl rfl (fun _ => rfl) (by decide) (by omega) (by omega)) ?_)) | ((with_reducible show DQ _ _ _ _ _ _); first | refine DQ.stepc (LS.val tabs rfl rfl rfl) rfl rfl rfl rfl rfl ?_ | refine DQ.stepc (yu rfl rfl) rfl rfl rfl rfl rfl ?_ | refine DQ.nilM (by kernel_rfl) ?_ | refine DQ.stepc (yad rfl rfl rfl rfl rfl rfl (by omega) (by omega)) rfl rfl rfl rfl rfl ?_ | refine DQ.stepc (yw tabs rfl rfl rfl rfl rfl rfl rfl rfl (fun _ => rfl) (by decide) (by omega) (by omega)) rfl rfl rfl rfl rfl ?_ | (refine DQ.gsplitE rfl rfl rfl (fun hc => ?_) (fun hc => ?_) <;> (fail_if_success (exact absurd hc (by decide))) <;> (try simp only [hsx] at hc) <;> (try first | omega | contradiction | (simp [qa] at hc; done)))) | (exfalso; omega) | refine ym ?_ | refine ya ?_ | refine yb ?_ | refine yg ?_ | refine AW.block ?_ | refine yy ?_ | refine yi rfl ?_ | refine yh rfl ?_ | (refine yk rfl (fun hc => ?_) (fun hc => ?_) <;> (try simp only [hsx] at hc) <;> (try first | omega | contradiction | (simp [qa] at hc; done))) | refine yo ?_ | refine yaa ?_ | refine yc ?_ | refine yt ?_ | refine yab ?_ | refine yx ?_ | refine InB.off rfl ?_ | refine yr mixed (by kernel_rfl) ?_))
  all_goals first | (exfalso; omega) | (refine yal 1 rfl rfl rfl rfl ?_ (by simp [cxG]); simp only [qax]; exact qb _ _)
theorem qnn (f : List Node) (c : Change) (hf : Fit f) (hk : c.kind = 5) (h1 : inR f c.node) (hd : dataB (nodeAt f c.node).kind) (h0 : 0 ≤ c.offset) (hc0 : 0 ≤ c.count) (hoc : c.offset + c.count ≤ (nodeAt f c.node).data.length) (hv : c.data.length ≤ 1000000) : GenC Tryz.prog 139 [⟨44, 16, f.map rowS⟩] [.agg [.os 0 f.length], c.av] (.tup [.agg [.os 0 f.length], bav true]) [⟨44, 16, (datF f c.node (repD (nodeAt f c.node).data c.offset c.count c.data)).map rowS⟩] := by
  have hl := hf.len
  have c1 := qnk f c hf h1 hd h0 hc0 hoc hv
  obtain ⟨g, eg⟩ : ∃ g, g = datF f c.node (repD (nodeAt f c.node).data c.offset c.count c.data) := ⟨_, rfl⟩
  rw [← eg] at c1 ⊢
  refine yah tabs Tryz.func139 180 [.cell 4 24, .tmp 5] rfl rfl rfl rfl rfl ?_; intro w0 X γ κ
  (repeat' (first | ((with_reducible show AL _ _ _ _ _); first | (refine yf tabs rfl ?_; try dsimp only [len, List.nil_append, List.cons_append]) | refine yz [0] 4 rfl rfl rfl rfl rfl (caps := []) rfl c1 rfl (by simp only [List.map_cons, List.map_nil, qf (k := 0) (rho0 rfl) (qb f 0)]; rfl) rfl rfl (by simp only [List.all_cons, List.all_nil, Bool.and_true]; exact qb f _) rfl (by simp only [List.all_cons, List.all_nil, Bool.and_true]; exact qb _ _) rfl (hpA := [⟨44, 16, g.map rowS⟩]) (by simp only [List.map_cons, List.map_nil, qf (k := 0) (rho0 rfl) (qb g 0)]) (r' := bav true) rfl rfl ?_ | refine yn ?_ | (refine yq rfl rfl rfl (fun hc => ?_) (fun hc => ?_) <;> (fail_if_success (exact absurd hc (by decide))) <;> (try simp only [hsx] at hc) <;> (try first | omega | contradiction | (simp [qa] at hc; done))) | (refine AL.op rfl (yj rfl rfl rfl rfl rfl (by omega) (by omega)) ?_) | (refine AL.op rfl (ye tabs rfl rfl rfl rfl rfl rfl rfl (fun _ => rfl) (by decide) (by omega) (by omega)) ?_)) | ((with_reducible show DQ _ _ _ _ _ _); first | refine DQ.stepc (LS.val tabs rfl rfl rfl) rfl rfl rfl rfl rfl ?_ | refine DQ.stepc (yu rfl rfl) rfl rfl rfl rfl rfl ?_ | refine DQ.nilM (by kernel_rfl) ?_ | refine DQ.stepc (yad rfl rfl rfl rfl rfl rfl (by omega) (by omega)) rfl rfl rfl rfl rfl ?_ | refine DQ.stepc (yw tabs rfl rfl rfl rfl rfl rfl rfl rfl (fun _ => rfl) (by decide) (by omega) (by omega)) rfl rfl rfl rfl rfl ?_ | (refine DQ.gsplitE rfl rfl rfl (fun hc => ?_) (fun hc => ?_) <;> (fail_if_success (exact absurd hc (by decide))) <;> (try simp only [hsx] at hc) <;> (try first | omega | contradiction | (simp [qa] at hc; done)))) | (exfalso; omega) | refine ym ?_ | refine ya ?_ | refine yb ?_ | refine yg ?_ | refine AW.block ?_ | refine yy ?_ | refine yi rfl ?_ | refine yh rfl ?_ | (refine yk rfl (fun hc => ?_) (fun hc => ?_) <;> (try simp only [hsx] at hc) <;> (try first | omega | contradiction | (simp [qa] at hc; done))) | refine yo ?_ | refine yaa ?_ | refine yc ?_ | refine yt ?_ | refine yab ?_ | refine yx ?_ | refine InB.off rfl ?_ | refine yr mixed (by kernel_rfl) ?_))
  all_goals first | (exfalso; omega) | (refine yal 1 rfl rfl rfl rfl ?_ (by simp [cxG]); simp only [qax]; exact qb _ _)
theorem qno (f : List Node) (c : Change) (hf : Fit f) (hk : c.kind = 8) : GenC Tryz.prog 139 [⟨44, 16, f.map rowS⟩] [.agg [.os 0 f.length], c.av] (.tup [.agg [.os 0 f.length], bav ([c.node, c.other].all fun h => inB f h)]) [⟨44, 16, f.map rowS⟩] := by
  have hl := hf.len
  have c1 := qb6 f [c.node, c.other] hl (by simp)
  obtain ⟨b, eb⟩ : ∃ b, b = ([c.node, c.other].all fun h => inB f h) := ⟨_, rfl⟩
  rw [← eb] at c1 ⊢
  refine yah tabs Tryz.func139 180 [.cell 4 24, .tmp 5] rfl rfl rfl rfl rfl ?_; intro w0 X γ κ
  (repeat' (first | ((with_reducible show AL _ _ _ _ _); first | (refine yf tabs rfl ?_; try dsimp only [len, List.nil_append, List.cons_append]) | refine AL.op rfl (yat rfl rfl rfl rfl (.cons (fzS rfl) (.cons (Fz.os (b := ⟨3, 1, [cI c.node, cI c.other]⟩) (rows := [c.node, c.other].map i64) rfl rfl rfl) .nil)) c1 rfl) ?_ | refine yn ?_ | (refine yq rfl rfl rfl (fun hc => ?_) (fun hc => ?_) <;> (fail_if_success (exact absurd hc (by decide))) <;> (try simp only [hsx] at hc) <;> (try first | omega | contradiction | (simp [qa] at hc; done))) | (refine AL.op rfl (yj rfl rfl rfl rfl rfl (by omega) (by omega)) ?_) | (refine AL.op rfl (ye tabs rfl rfl rfl rfl rfl rfl rfl (fun _ => rfl) (by decide) (by omega) (by omega)) ?_)) | ((with_reducible show DQ _ _ _ _ _ _); first | refine DQ.stepc (LS.val tabs rfl rfl rfl) rfl rfl rfl rfl rfl ?_ | refine DQ.stepc (yu rfl rfl) rfl rfl rfl rfl rfl ?_ | refine DQ.nilM (by kernel_rfl) ?_ | refine DQ.stepc (yad rfl rfl rfl rfl rfl rfl (by omega) (by omega)) rfl rfl rfl rfl rfl ?_ | refine DQ.stepc (yw tabs rfl rfl rfl rfl rfl rfl rfl rfl (fun _ => rfl) (by decide) (by omega) (by omega)) rfl rfl rfl rfl rfl ?_ | (refine DQ.gsplitE rfl rfl rfl (fun hc => ?_) (fun hc => ?_) <;> (fail_if_success (exact absurd hc (by decide))) <;> (try simp only [hsx] at hc) <;> (try first | omega | contradiction | (simp [qa] at hc; done)))) | (exfalso; omega) | refine ym ?_ | refine ya ?_ | refine yb ?_ | refine yg ?_ | refine AW.block ?_ | refine yy ?_ | refine yi rfl ?_ | refine yh rfl ?_ | (refine yk rfl (fun hc => ?_) (fun hc => ?_) <;> (try simp only [hsx] at hc) <;> (try first | omega | contradiction | (simp [qa] at hc; done))) | refine yo ?_ | refine yaa ?_ | refine yc ?_ | refine yt ?_ | refine yab ?_ | refine yx ?_ | refine InB.off rfl ?_ | refine yr mixed (by kernel_rfl) ?_))
  all_goals first | (exfalso; omega) | (refine yal 1 rfl rfl rfl rfl ?_ (by simp [cxG]); simp only [qax]; exact qb _ _)
theorem qnp (f : List Node) (c : Change) (hf : Fit f) (hk : c.kind = 10) (ha : c.added.length ≤ 1000000) (hr : c.removed.length ≤ 1000000) : GenC Tryz.prog 139 [⟨44, 16, f.map rowS⟩] [.agg [.os 0 f.length], c.av] (.tup [.agg [.os 0 f.length], bav (dec (treeP f c))]) [⟨44, 16, f.map rowS⟩] := by
  have hl := hf.len
  have H1 := qb6 f [c.parent] hl (by simp)
  obtain ⟨b1, e1⟩ : ∃ b, b = ([c.parent].all fun h => inB f h) := ⟨_, rfl⟩
  rw [← e1] at H1
  have H2 := qb6 f c.added hl (by omega)
  obtain ⟨b2, e2⟩ : ∃ b, b = (c.added.all fun h => inB f h) := ⟨_, rfl⟩
  rw [← e2] at H2
  have H3 := qb6 f c.removed hl (by omega)
  obtain ⟨b3, e3⟩ : ∃ b, b = (c.removed.all fun h => inB f h) := ⟨_, rfl⟩
  rw [← e3] at H3
  have O4 := qmf c.prev
  have O5 := qmf c.next
  have H4 := qb6 f (orZ c.prev) hl (by unfold orZ; split <;> simp)
  obtain ⟨b4, e4⟩ : ∃ b, b = ((orZ c.prev).all fun h => inB f h) := ⟨_, rfl⟩
  rw [← e4] at H4
  have H5 := qb6 f (orZ c.next) hl (by unfold orZ; split <;> simp)
  obtain ⟨b5, e5⟩ : ∃ b, b = ((orZ c.next).all fun h => inB f h) := ⟨_, rfl⟩
  rw [← e5] at H5
  have hz : ∀ x : Int, ((orZ x).all fun h => inB f h) = true ↔ (x = 0 ∨ inB f x = true) := by
    intro x
    unfold orZ
    by_cases h : x = 0
    · rw [if_pos h]; simp [h]
    · rw [if_neg h]; simp [h]
  have hP : dec (treeP f c) = (b1 && (b2 && (b3 && (b4 && b5)))) := by
    rw [Bool.eq_iff_iff, qc]
    simp only [Bool.and_eq_true]
    rw [e1, e2, e3, e4, e5, hz, hz]
    unfold treeP
    simp
  rw [hP]
  clear hP hz e1 e2 e3 e4 e5
  generalize orZ c.prev = l4 at O4 H4
  generalize orZ c.next = l5 at O5 H5
  have step : ∀ x : Bool, (b1 && (b2 && (b3 && (b4 && b5)))) = x → GenC Tryz.prog 139 [⟨44, 16, f.map rowS⟩] [.agg [.os 0 f.length], c.av] (.tup [.agg [.os 0 f.length], bav x]) [⟨44, 16, f.map rowS⟩] := by
    intro x hx
    cases b1 with
    | false =>
      obtain rfl : x = false := hx.symm
      refine yah tabs Tryz.func139 180 [.cell 4 24, .tmp 5] rfl rfl rfl rfl rfl ?_; intro w0 X γ κ
      refine AW.reserve 3 1 rfl ?_
      (repeat' (first | ((with_reducible show AL _ _ _ _ _); first | (refine yf tabs rfl ?_; try dsimp only [len, List.nil_append, List.cons_append]) | refine yn ?_ | (refine yq rfl rfl rfl (fun hc => ?_) (fun hc => ?_) <;> (fail_if_success (exact absurd hc (by decide))) <;> (try simp only [hsx] at hc) <;> (try first | omega | contradiction | (simp [qa] at hc; done))) | (refine AL.op rfl (yj rfl rfl rfl rfl rfl (by omega) (by omega)) ?_) | (refine AL.op rfl (ye tabs rfl rfl rfl rfl rfl rfl rfl (fun _ => rfl) (by decide) (by omega) (by omega)) ?_)) | ((with_reducible show DQ _ _ _ _ _ _); first | refine DQ.stepc (ya9 1 tabs rfl rfl rfl rfl rfl rfl rfl rfl rfl rfl rfl rfl) rfl rfl rfl rfl rfl ?_ | refine DQ.stepc (yaq [0, 1] rfl rfl rfl rfl rfl (fun s' hl => .cons (fzS ((hl.xb 0 (by simp)).trans rfl)) (.cons (Fz.os (b := ⟨3, 1, [cI c.parent]⟩) (rows := [c.parent].map i64) ((hl.xb 1 (by simp)).trans rfl) rfl rfl) .nil)) H1 rfl) rfl rfl rfl rfl rfl ?_ | refine DQ.stepc (LS.val tabs rfl rfl rfl) rfl rfl rfl rfl rfl ?_ | refine DQ.stepc (yu rfl rfl) rfl rfl rfl rfl rfl ?_ | refine DQ.nilM (by kernel_rfl) ?_ | refine DQ.stepc (yad rfl rfl rfl rfl rfl rfl (by omega) (by omega)) rfl rfl rfl rfl rfl ?_ | refine DQ.stepc (yw tabs rfl rfl rfl rfl rfl rfl rfl rfl (fun _ => rfl) (by decide) (by omega) (by omega)) rfl rfl rfl rfl rfl ?_ | (refine DQ.gsplitE rfl rfl rfl (fun hc => ?_) (fun hc => ?_) <;> (fail_if_success (exact absurd hc (by decide))) <;> (try simp only [hsx] at hc) <;> (try first | omega | contradiction | (simp [qa] at hc; done)))) | (exfalso; omega) | refine ym ?_ | refine ya ?_ | refine yb ?_ | refine yg ?_ | refine AW.block ?_ | refine yy ?_ | refine yi rfl ?_ | refine yh rfl ?_ | (refine yk rfl (fun hc => ?_) (fun hc => ?_) <;> (try simp only [hsx] at hc) <;> (try first | omega | contradiction | (simp [qa] at hc; done))) | refine yo ?_ | refine yaa ?_ | refine yc ?_ | refine yt ?_ | refine yab ?_ | refine yx ?_ | refine InB.off rfl ?_ | refine yr mixed (by kernel_rfl) ?_))
      all_goals first | (exfalso; omega) | (refine yal 1 rfl rfl rfl rfl ?_ (by simp [cxG]); simp only [qax]; exact qb _ _)
    | true =>
      cases b2 with
      | false =>
        obtain rfl : x = false := hx.symm
        refine yah tabs Tryz.func139 180 [.cell 4 24, .tmp 5] rfl rfl rfl rfl rfl ?_; intro w0 X γ κ
        refine AW.reserve 3 1 rfl ?_
        (repeat' (first | ((with_reducible show AL _ _ _ _ _); first | (refine yf tabs rfl ?_; try dsimp only [len, List.nil_append, List.cons_append]) | refine yn ?_ | (refine yq rfl rfl rfl (fun hc => ?_) (fun hc => ?_) <;> (fail_if_success (exact absurd hc (by decide))) <;> (try simp only [hsx] at hc) <;> (try first | omega | contradiction | (simp [qa] at hc; done))) | (refine AL.op rfl (yj rfl rfl rfl rfl rfl (by omega) (by omega)) ?_) | (refine AL.op rfl (ye tabs rfl rfl rfl rfl rfl rfl rfl (fun _ => rfl) (by decide) (by omega) (by omega)) ?_)) | ((with_reducible show DQ _ _ _ _ _ _); first | refine DQ.stepc (ya9 1 tabs rfl rfl rfl rfl rfl rfl rfl rfl rfl rfl rfl rfl) rfl rfl rfl rfl rfl ?_ | refine DQ.stepc (yaq [0, 1] rfl rfl rfl rfl rfl (fun s' hl => .cons (fzS ((hl.xb 0 (by simp)).trans rfl)) (.cons (Fz.os (b := ⟨3, 1, [cI c.parent]⟩) (rows := [c.parent].map i64) ((hl.xb 1 (by simp)).trans rfl) rfl rfl) .nil)) H1 rfl) rfl rfl rfl rfl rfl ?_ | refine DQ.stepc (yaq [0] rfl rfl rfl rfl rfl (fun s' hl => .cons (fzS ((hl.xb 0 (by simp)).trans rfl)) (.cons (Fz.im rfl) .nil)) H2 rfl) rfl rfl rfl rfl rfl ?_ | refine DQ.stepc (LS.val tabs rfl rfl rfl) rfl rfl rfl rfl rfl ?_ | refine DQ.stepc (yu rfl rfl) rfl rfl rfl rfl rfl ?_ | refine DQ.nilM (by kernel_rfl) ?_ | refine DQ.stepc (yad rfl rfl rfl rfl rfl rfl (by omega) (by omega)) rfl rfl rfl rfl rfl ?_ | refine DQ.stepc (yw tabs rfl rfl rfl rfl rfl rfl rfl rfl (fun _ => rfl) (by decide) (by omega) (by omega)) rfl rfl rfl rfl rfl ?_ | (refine DQ.gsplitE rfl rfl rfl (fun hc => ?_) (fun hc => ?_) <;> (fail_if_success (exact absurd hc (by decide))) <;> (try simp only [hsx] at hc) <;> (try first | omega | contradiction | (simp [qa] at hc; done)))) | (exfalso; omega) | refine ym ?_ | refine ya ?_ | refine yb ?_ | refine yg ?_ | refine AW.block ?_ | refine yy ?_ | refine yi rfl ?_ | refine yh rfl ?_ | (refine yk rfl (fun hc => ?_) (fun hc => ?_) <;> (try simp only [hsx] at hc) <;> (try first | omega | contradiction | (simp [qa] at hc; done))) | refine yo ?_ | refine yaa ?_ | refine yc ?_ | refine yt ?_ | refine yab ?_ | refine yx ?_ | refine InB.off rfl ?_ | refine yr mixed (by kernel_rfl) ?_))
        all_goals first | (exfalso; omega) | (refine yal 1 rfl rfl rfl rfl ?_ (by simp [cxG]); simp only [qax]; exact qb _ _)
      | true =>
        cases b3 with
        | false =>
          obtain rfl : x = false := hx.symm
          refine yah tabs Tryz.func139 180 [.cell 4 24, .tmp 5] rfl rfl rfl rfl rfl ?_; intro w0 X γ κ
          refine AW.reserve 3 1 rfl ?_
          (repeat' (first | ((with_reducible show AL _ _ _ _ _); first | (refine yf tabs rfl ?_; try dsimp only [len, List.nil_append, List.cons_append]) | refine yn ?_ | (refine yq rfl rfl rfl (fun hc => ?_) (fun hc => ?_) <;> (fail_if_success (exact absurd hc (by decide))) <;> (try simp only [hsx] at hc) <;> (try first | omega | contradiction | (simp [qa] at hc; done))) | (refine AL.op rfl (yj rfl rfl rfl rfl rfl (by omega) (by omega)) ?_) | (refine AL.op rfl (ye tabs rfl rfl rfl rfl rfl rfl rfl (fun _ => rfl) (by decide) (by omega) (by omega)) ?_)) | ((with_reducible show DQ _ _ _ _ _ _); first | refine DQ.stepc (ya9 1 tabs rfl rfl rfl rfl rfl rfl rfl rfl rfl rfl rfl rfl) rfl rfl rfl rfl rfl ?_ | refine DQ.stepc (yaq [0, 1] rfl rfl rfl rfl rfl (fun s' hl => .cons (fzS ((hl.xb 0 (by simp)).trans rfl)) (.cons (Fz.os (b := ⟨3, 1, [cI c.parent]⟩) (rows := [c.parent].map i64) ((hl.xb 1 (by simp)).trans rfl) rfl rfl) .nil)) H1 rfl) rfl rfl rfl rfl rfl ?_ | refine DQ.stepc (yaq [0] rfl rfl rfl rfl rfl (fun s' hl => .cons (fzS ((hl.xb 0 (by simp)).trans rfl)) (.cons (Fz.im rfl) .nil)) H2 rfl) rfl rfl rfl rfl rfl ?_ | refine DQ.stepc (yaq [0] rfl rfl rfl rfl rfl (fun s' hl => .cons (fzS ((hl.xb 0 (by simp)).trans rfl)) (.cons (Fz.im rfl) .nil)) H3 rfl) rfl rfl rfl rfl rfl ?_ | refine DQ.stepc (LS.val tabs rfl rfl rfl) rfl rfl rfl rfl rfl ?_ | refine DQ.stepc (yu rfl rfl) rfl rfl rfl rfl rfl ?_ | refine DQ.nilM (by kernel_rfl) ?_ | refine DQ.stepc (yad rfl rfl rfl rfl rfl rfl (by omega) (by omega)) rfl rfl rfl rfl rfl ?_ | refine DQ.stepc (yw tabs rfl rfl rfl rfl rfl rfl rfl rfl (fun _ => rfl) (by decide) (by omega) (by omega)) rfl rfl rfl rfl rfl ?_ | (refine DQ.gsplitE rfl rfl rfl (fun hc => ?_) (fun hc => ?_) <;> (fail_if_success (exact absurd hc (by decide))) <;> (try simp only [hsx] at hc) <;> (try first | omega | contradiction | (simp [qa] at hc; done)))) | (exfalso; omega) | refine ym ?_ | refine ya ?_ | refine yb ?_ | refine yg ?_ | refine AW.block ?_ | refine yy ?_ | refine yi rfl ?_ | refine yh rfl ?_ | (refine yk rfl (fun hc => ?_) (fun hc => ?_) <;> (try simp only [hsx] at hc) <;> (try first | omega | contradiction | (simp [qa] at hc; done))) | refine yo ?_ | refine yaa ?_ | refine yc ?_ | refine yt ?_ | refine yab ?_ | refine yx ?_ | refine InB.off rfl ?_ | refine yr mixed (by kernel_rfl) ?_))
          all_goals first | (exfalso; omega) | (refine yal 1 rfl rfl rfl rfl ?_ (by simp [cxG]); simp only [qax]; exact qb _ _)
        | true =>
          cases b4 with
          | false =>
            obtain rfl : x = false := hx.symm
            refine yah tabs Tryz.func139 180 [.cell 4 24, .tmp 5] rfl rfl rfl rfl rfl ?_; intro w0 X γ κ
            refine AW.reserve 3 1 rfl ?_
            (repeat' (first | ((with_reducible show AL _ _ _ _ _); first | (refine yf tabs rfl ?_; try dsimp only [len, List.nil_append, List.cons_append]) | refine yn ?_ | (refine yq rfl rfl rfl (fun hc => ?_) (fun hc => ?_) <;> (fail_if_success (exact absurd hc (by decide))) <;> (try simp only [hsx] at hc) <;> (try first | omega | contradiction | (simp [qa] at hc; done))) | (refine AL.op rfl (yj rfl rfl rfl rfl rfl (by omega) (by omega)) ?_) | (refine AL.op rfl (ye tabs rfl rfl rfl rfl rfl rfl rfl (fun _ => rfl) (by decide) (by omega) (by omega)) ?_)) | ((with_reducible show DQ _ _ _ _ _ _); first | refine DQ.stepc (ya9 1 tabs rfl rfl rfl rfl rfl rfl rfl rfl rfl rfl rfl rfl) rfl rfl rfl rfl rfl ?_ | refine DQ.stepc (yaq [0, 1] rfl rfl rfl rfl rfl (fun s' hl => .cons (fzS ((hl.xb 0 (by simp)).trans rfl)) (.cons (Fz.os (b := ⟨3, 1, [cI c.parent]⟩) (rows := [c.parent].map i64) ((hl.xb 1 (by simp)).trans rfl) rfl rfl) .nil)) H1 rfl) rfl rfl rfl rfl rfl ?_ | refine DQ.stepc (yaq [0] rfl rfl rfl rfl rfl (fun s' hl => .cons (fzS ((hl.xb 0 (by simp)).trans rfl)) (.cons (Fz.im rfl) .nil)) H2 rfl) rfl rfl rfl rfl rfl ?_ | refine DQ.stepc (yaq [0] rfl rfl rfl rfl rfl (fun s' hl => .cons (fzS ((hl.xb 0 (by simp)).trans rfl)) (.cons (Fz.im rfl) .nil)) H3 rfl) rfl rfl rfl rfl rfl ?_ | refine DQ.stepc (yai rfl rfl rfl rfl rfl O4 rfl) rfl rfl rfl rfl rfl ?_ | refine DQ.stepc (yaq [0] rfl rfl rfl rfl rfl (fun s' hl => .cons (fzS ((hl.xb 0 (by simp)).trans rfl)) (.cons (Fz.im rfl) .nil)) H4 rfl) rfl rfl rfl rfl rfl ?_ | refine DQ.stepc (LS.val tabs rfl rfl rfl) rfl rfl rfl rfl rfl ?_ | refine DQ.stepc (yu rfl rfl) rfl rfl rfl rfl rfl ?_ | refine DQ.nilM (by kernel_rfl) ?_ | refine DQ.stepc (yad rfl rfl rfl rfl rfl rfl (by omega) (by omega)) rfl rfl rfl rfl rfl ?_ | refine DQ.stepc (yw tabs rfl rfl rfl rfl rfl rfl rfl rfl (fun _ => rfl) (by decide) (by omega) (by omega)) rfl rfl rfl rfl rfl ?_ | (refine DQ.gsplitE rfl rfl rfl (fun hc => ?_) (fun hc => ?_) <;> (fail_if_success (exact absurd hc (by decide))) <;> (try simp only [hsx] at hc) <;> (try first | omega | contradiction | (simp [qa] at hc; done)))) | (exfalso; omega) | refine ym ?_ | refine ya ?_ | refine yb ?_ | refine yg ?_ | refine AW.block ?_ | refine yy ?_ | refine yi rfl ?_ | refine yh rfl ?_ | (refine yk rfl (fun hc => ?_) (fun hc => ?_) <;> (try simp only [hsx] at hc) <;> (try first | omega | contradiction | (simp [qa] at hc; done))) | refine yo ?_ | refine yaa ?_ | refine yc ?_ | refine yt ?_ | refine yab ?_ | refine yx ?_ | refine InB.off rfl ?_ | refine yr mixed (by kernel_rfl) ?_))
            all_goals first | (exfalso; omega) | (refine yal 1 rfl rfl rfl rfl ?_ (by simp [cxG]); simp only [qax]; exact qb _ _)
          | true =>
            cases b5 with
            | false =>
              obtain rfl : x = false := hx.symm
              refine yah tabs Tryz.func139 180 [.cell 4 24, .tmp 5] rfl rfl rfl rfl rfl ?_; intro w0 X γ κ
              refine AW.reserve 3 1 rfl ?_
              (repeat' (first | ((with_reducible show AL _ _ _ _ _); first | (refine yf tabs rfl ?_; try dsimp only [len, List.nil_append, List.cons_append]) | refine yn ?_ | (refine yq rfl rfl rfl (fun hc => ?_) (fun hc => ?_) <;> (fail_if_success (exact absurd hc (by decide))) <;> (try simp only [hsx] at hc) <;> (try first | omega | contradiction | (simp [qa] at hc; done))) | (refine AL.op rfl (yj rfl rfl rfl rfl rfl (by omega) (by omega)) ?_) | (refine AL.op rfl (ye tabs rfl rfl rfl rfl rfl rfl rfl (fun _ => rfl) (by decide) (by omega) (by omega)) ?_)) | ((with_reducible show DQ _ _ _ _ _ _); first | refine DQ.stepc (ya9 1 tabs rfl rfl rfl rfl rfl rfl rfl rfl rfl rfl rfl rfl) rfl rfl rfl rfl rfl ?_ | refine DQ.stepc (yaq [0, 1] rfl rfl rfl rfl rfl (fun s' hl => .cons (fzS ((hl.xb 0 (by simp)).trans rfl)) (.cons (Fz.os (b := ⟨3, 1, [cI c.parent]⟩) (rows := [c.parent].map i64) ((hl.xb 1 (by simp)).trans rfl) rfl rfl) .nil)) H1 rfl) rfl rfl rfl rfl rfl ?_ | refine DQ.stepc (yaq [0] rfl rfl rfl rfl rfl (fun s' hl => .cons (fzS ((hl.xb 0 (by simp)).trans rfl)) (.cons (Fz.im rfl) .nil)) H2 rfl) rfl rfl rfl rfl rfl ?_ | refine DQ.stepc (yaq [0] rfl rfl rfl rfl rfl (fun s' hl => .cons (fzS ((hl.xb 0 (by simp)).trans rfl)) (.cons (Fz.im rfl) .nil)) H3 rfl) rfl rfl rfl rfl rfl ?_ | refine DQ.stepc (yai rfl rfl rfl rfl rfl O4 rfl) rfl rfl rfl rfl rfl ?_ | refine DQ.stepc (yaq [0] rfl rfl rfl rfl rfl (fun s' hl => .cons (fzS ((hl.xb 0 (by simp)).trans rfl)) (.cons (Fz.im rfl) .nil)) H4 rfl) rfl rfl rfl rfl rfl ?_ | refine DQ.stepc (yai rfl rfl rfl rfl rfl O5 rfl) rfl rfl rfl rfl rfl ?_ | refine DQ.stepc (yaq [0] rfl rfl rfl rfl rfl (fun s' hl => .cons (fzS ((hl.xb 0 (by simp)).trans rfl)) (.cons (Fz.im rfl) .nil)) H5 rfl) rfl rfl rfl rfl rfl ?_ | refine DQ.stepc (LS.val tabs rfl rfl rfl) rfl rfl rfl rfl rfl ?_ | refine DQ.stepc (yu rfl rfl) rfl rfl rfl rfl rfl ?_ | refine DQ.nilM (by kernel_rfl) ?_ | refine DQ.stepc (yad rfl rfl rfl rfl rfl rfl (by omega) (by omega)) rfl rfl rfl rfl rfl ?_ | refine DQ.stepc (yw tabs rfl rfl rfl rfl rfl rfl rfl rfl (fun _ => rfl) (by decide) (by omega) (by omega)) rfl rfl rfl rfl rfl ?_ | (refine DQ.gsplitE rfl rfl rfl (fun hc => ?_) (fun hc => ?_) <;> (fail_if_success (exact absurd hc (by decide))) <;> (try simp only [hsx] at hc) <;> (try first | omega | contradiction | (simp [qa] at hc; done)))) | (exfalso; omega) | refine ym ?_ | refine ya ?_ | refine yb ?_ | refine yg ?_ | refine AW.block ?_ | refine yy ?_ | refine yi rfl ?_ | refine yh rfl ?_ | (refine yk rfl (fun hc => ?_) (fun hc => ?_) <;> (try simp only [hsx] at hc) <;> (try first | omega | contradiction | (simp [qa] at hc; done))) | refine yo ?_ | refine yaa ?_ | refine yc ?_ | refine yt ?_ | refine yab ?_ | refine yx ?_ | refine InB.off rfl ?_ | refine yr mixed (by kernel_rfl) ?_))
              all_goals first | (exfalso; omega) | (refine yal 1 rfl rfl rfl rfl ?_ (by simp [cxG]); simp only [qax]; exact qb _ _)
            | true =>
              obtain rfl : x = true := hx.symm
              refine yah tabs Tryz.func139 180 [.cell 4 24, .tmp 5] rfl rfl rfl rfl rfl ?_; intro w0 X γ κ
              refine AW.reserve 3 1 rfl ?_
              (repeat' (first | ((with_reducible show AL _ _ _ _ _); first | (refine yf tabs rfl ?_; try dsimp only [len, List.nil_append, List.cons_append]) | refine yn ?_ | (refine yq rfl rfl rfl (fun hc => ?_) (fun hc => ?_) <;> (fail_if_success (exact absurd hc (by decide))) <;> (try simp only [hsx] at hc) <;> (try first | omega | contradiction | (simp [qa] at hc; done))) | (refine AL.op rfl (yj rfl rfl rfl rfl rfl (by omega) (by omega)) ?_) | (refine AL.op rfl (ye tabs rfl rfl rfl rfl rfl rfl rfl (fun _ => rfl) (by decide) (by omega) (by omega)) ?_)) | ((with_reducible show DQ _ _ _ _ _ _); first | refine DQ.stepc (ya9 1 tabs rfl rfl rfl rfl rfl rfl rfl rfl rfl rfl rfl rfl) rfl rfl rfl rfl rfl ?_ | refine DQ.stepc (yaq [0, 1] rfl rfl rfl rfl rfl (fun s' hl => .cons (fzS ((hl.xb 0 (by simp)).trans rfl)) (.cons (Fz.os (b := ⟨3, 1, [cI c.parent]⟩) (rows := [c.parent].map i64) ((hl.xb 1 (by simp)).trans rfl) rfl rfl) .nil)) H1 rfl) rfl rfl rfl rfl rfl ?_ | refine DQ.stepc (yaq [0] rfl rfl rfl rfl rfl (fun s' hl => .cons (fzS ((hl.xb 0 (by simp)).trans rfl)) (.cons (Fz.im rfl) .nil)) H2 rfl) rfl rfl rfl rfl rfl ?_ | refine DQ.stepc (yaq [0] rfl rfl rfl rfl rfl (fun s' hl => .cons (fzS ((hl.xb 0 (by simp)).trans rfl)) (.cons (Fz.im rfl) .nil)) H3 rfl) rfl rfl rfl rfl rfl ?_ | refine DQ.stepc (yai rfl rfl rfl rfl rfl O4 rfl) rfl rfl rfl rfl rfl ?_ | refine DQ.stepc (yaq [0] rfl rfl rfl rfl rfl (fun s' hl => .cons (fzS ((hl.xb 0 (by simp)).trans rfl)) (.cons (Fz.im rfl) .nil)) H4 rfl) rfl rfl rfl rfl rfl ?_ | refine DQ.stepc (yai rfl rfl rfl rfl rfl O5 rfl) rfl rfl rfl rfl rfl ?_ | refine DQ.stepc (yaq [0] rfl rfl rfl rfl rfl (fun s' hl => .cons (fzS ((hl.xb 0 (by simp)).trans rfl)) (.cons (Fz.im rfl) .nil)) H5 rfl) rfl rfl rfl rfl rfl ?_ | refine DQ.stepc (LS.val tabs rfl rfl rfl) rfl rfl rfl rfl rfl ?_ | refine DQ.stepc (yu rfl rfl) rfl rfl rfl rfl rfl ?_ | refine DQ.nilM (by kernel_rfl) ?_ | refine DQ.stepc (yad rfl rfl rfl rfl rfl rfl (by omega) (by omega)) rfl rfl rfl rfl rfl ?_ | refine DQ.stepc (yw tabs rfl rfl rfl rfl rfl rfl rfl rfl (fun _ => rfl) (by decide) (by omega) (by omega)) rfl rfl rfl rfl rfl ?_ | (refine DQ.gsplitE rfl rfl rfl (fun hc => ?_) (fun hc => ?_) <;> (fail_if_success (exact absurd hc (by decide))) <;> (try simp only [hsx] at hc) <;> (try first | omega | contradiction | (simp [qa] at hc; done)))) | (exfalso; omega) | refine ym ?_ | refine ya ?_ | refine yb ?_ | refine yg ?_ | refine AW.block ?_ | refine yy ?_ | refine yi rfl ?_ | refine yh rfl ?_ | (refine yk rfl (fun hc => ?_) (fun hc => ?_) <;> (try simp only [hsx] at hc) <;> (try first | omega | contradiction | (simp [qa] at hc; done))) | refine yo ?_ | refine yaa ?_ | refine yc ?_ | refine yt ?_ | refine yab ?_ | refine yx ?_ | refine InB.off rfl ?_ | refine yr mixed (by kernel_rfl) ?_))
              all_goals first | (exfalso; omega) | (refine yal 1 rfl rfl rfl rfl ?_ (by simp [cxG]); simp only [qax]; exact qb _ _)
  exact step _ rfl
theorem qcr (f g : List Node) (n : Nat) (hn : g.length = n) (c : Change) (ok : Bool) (hf : Fit f) (hg : Fit g) (h0 : 0 < f.length) (hk : c.kind ≠ 1 ∨ (f.length : Int) < 4096) (h7 : c.kind ≠ 7) (hpl : PureC Tryz.prog 138 [c.av] c.av) (hc : FitC c) (hdo : GenC Tryz.prog 139 [⟨44, 16, f.map rowS⟩] [.agg [.os 0 f.length], c.av] (.tup [.agg [.os 0 n], bav ok]) [⟨44, 16, g.map rowS⟩]) : PureC Tryz.prog 101 [fav f, c.av] (.tup [fav (if ok = true ∧ dec (rightP g) = true then (g, (0 : Int)) else ([], 2)).1, iav (if ok = true ∧ dec (rightP g) = true then (g, (0 : Int)) else ([], 2)).2]) := by
  have hl := hf.len
  have hR : (f.map rowS).length = f.length := List.length_map _
  have hsame : PureC Tryz.prog 92 [c.av, c.av] (bav true) := qdp (qcn c c hc) rfl
  have hright := qhb g hg
  obtain ⟨b, eb⟩ : ∃ b, b = dec (rightP g) := ⟨_, rfl⟩
  rw [← eb] at hright ⊢
  clear eb
  have hfz : ∀ {C : Cx} {s : St}, nth s.hp 0 = some ⟨44, 16, g.map rowS⟩ → Fz C s (.agg [.os 0 n]) (fav g) := fun h => by
    subst hn
    exact fzS (id := 0) h
  refine yp tabs Tryz.func101 45 [.cell 4 24, .tmp 5] rfl rfl rfl rfl rfl ?_; intro w0 X
  refine AW.reserve 44 16 rfl ?_
  refine AW.reserve 24 1 rfl ?_
  (repeat' (first | ((with_reducible show AL _ _ _ _ _); first | (refine yf tabs rfl ?_; try dsimp only [len, List.nil_append, List.cons_append]) | refine AL.op rfl (yat rfl rfl rfl rfl (.cons (hfz rfl) .nil) hright rfl) ?_ | refine yn ?_ | (refine yq rfl rfl rfl (fun hc => ?_) (fun hc => ?_) <;> (fail_if_success (exact absurd hc (by decide))) <;> (try simp only [hsx] at hc) <;> (try first | omega | contradiction | (simp [qa] at hc; done)))) | ((with_reducible show DQ _ _ _ _ _ _); first | refine DQ.stepc (yai rfl rfl rfl rfl rfl hpl rfl) rfl rfl rfl rfl rfl ?_ | refine DQ.stepc (yai rfl rfl rfl rfl rfl hsame rfl) rfl rfl rfl rfl rfl ?_ | refine DQ.stepc (LS.alloc 1 tabs rfl rfl rfl rfl rfl rfl) rfl rfl rfl rfl rfl ?_ | refine DQ.stepc (LS.store (i := ti24) (v := .agg [.os 0 n]) (ty := 24) (sz := 1) (rows := [ti24.zero]) (r := ti24.zero) tabs rfl rfl rfl rfl rfl rfl rfl rfl rfl rfl (Nat.le_of_ble_eq_true rfl) rfl) rfl rfl rfl rfl rfl ?_ | refine DQ.stepc (LS.val tabs rfl rfl rfl) rfl rfl rfl rfl rfl ?_ | refine DQ.stepc (yu rfl rfl) rfl rfl rfl rfl rfl ?_ | refine DQ.nilM (by kernel_rfl) ?_ | (refine DQ.gsplitE rfl rfl rfl (fun hc => ?_) (fun hc => ?_) <;> (fail_if_success (exact absurd hc (by decide))) <;> (try simp only [hsx] at hc) <;> (try first | omega | contradiction | (simp [qa] at hc; done)))) | ((with_reducible show M2.DQ _ _ _ _ _ _); first | refine M2.DQ.step2 (M2.LS.callG [0] (caps := []) rfl rfl rfl rfl rfl (qm8 f hf h0) (fun _ => rfl) (bs := [⟨44, 16, []⟩]) rfl (fun _ => rfl) rfl rfl rfl rfl (by simp only [List.all_cons, List.all_nil, Bool.and_true]; exact qb f _) rfl (hpA := [⟨44, 16, f.map rowS⟩]) (fun n => by simp only [List.map_cons, List.map_nil, qf (k := 0) (rho0 rfl) (qb f 0)]) (r' := .agg [.os 0 f.length]) (fun _ => rfl)) rfl rfl rfl rfl rfl ?_ | refine M2.DQ.step2 (M2.LS.callG [0] (caps := []) rfl rfl rfl rfl rfl hdo (fun _ => rfl) (bs := [⟨44, 16, f.map rowS⟩]) rfl (fun n => by simp only [List.map_cons, List.map_nil, qf (k := 0) (rho0 rfl) (qb f 0)]) rfl rfl (by simp only [List.all_cons, List.all_nil, Bool.and_true]; exact qb f _) rfl (by simp only [List.all_cons, List.all_nil, Bool.and_true]; exact qb _ _) rfl (hpA := [⟨44, 16, g.map rowS⟩]) (fun n => by simp only [List.map_cons, List.map_nil, qf (k := 0) (rho0 rfl) (qb g 0)]) (r' := .tup [.agg [.os 0 n], bav ok]) (fun _ => rfl)) rfl rfl rfl rfl rfl ?_ | refine M2.DQ.stepc (yai rfl rfl rfl rfl rfl hpl rfl) rfl rfl rfl rfl rfl ?_ | refine M2.DQ.stepc (yai rfl rfl rfl rfl rfl hsame rfl) rfl rfl rfl rfl rfl ?_ | refine M2.DQ.stepc (LS.alloc 1 tabs rfl rfl rfl rfl rfl rfl) rfl rfl rfl rfl rfl ?_ | refine M2.DQ.stepc (LS.store (i := ti24) (v := .agg [.os 0 n]) (ty := 24) (sz := 1) (rows := [ti24.zero]) (r := ti24.zero) tabs rfl rfl rfl rfl rfl rfl rfl rfl rfl rfl (Nat.le_of_ble_eq_true rfl) rfl) rfl rfl rfl rfl rfl ?_ | refine M2.DQ.stepc (LS.val tabs rfl rfl rfl) rfl rfl rfl rfl rfl ?_ | refine M2.DQ.stepc (yu rfl rfl) rfl rfl rfl rfl rfl ?_ | refine M2.DQ.nilM (by kernel_rfl) ?_ | (refine M2.DQ.gsplitE rfl rfl rfl (fun hc => ?_) (fun hc => ?_) <;> (fail_if_success (exact absurd hc (by decide))) <;> (try simp only [hsx] at hc) <;> (try first | omega | contradiction | (simp [qa] at hc; done)))) | (exfalso; omega) | refine M2.drawW (id := 5) mixed (by kernel_rfl) ?_ | refine ym ?_ | refine ya ?_ | refine yb ?_ | refine yg ?_ | refine yi rfl ?_ | refine yh rfl ?_ | (refine yk rfl (fun hc => ?_) (fun hc => ?_) <;> (try simp only [hsx] at hc) <;> (try first | omega | contradiction | (simp [qa] at hc; done))) | refine yo ?_ | refine yc ?_ | refine yr mixed (by kernel_rfl) ?_))
  all_goals first
    | (exfalso; omega)
    | (rw [if_neg (by simp [*])]; exact RQ.fin rfl rfl rfl)
    | (rw [if_pos (by simp [*])]; exact yap rfl (ya5 (.cons (hfz rfl) (.cons (Fz.im rfl) .nil))))
theorem qlr (f : List Node) (c : Change) (hf : Fit f) (hr : rightP f) (h0 : 0 < f.length) (hc : CanCh f c) (hfc : FitC c) : PureC Tryz.prog 101 [fav f, c.av] (.tup [fav (doneG f c).1, iav (doneG f c).2]) := by
  cases hc with
  | mk n hn h12 =>
    rw [show doneG f (mkCh (f.length + 1) n) = doneM f n from rfl]
    by_cases hm : 4096 ≤ f.length
    · rw [show doneM f n = ([], 3) by unfold doneM; rw [if_pos hm]]
      have hl := hf.len
      have hmk : (mkCh (f.length + 1) n).kind = 1 := rfl
      refine yp tabs Tryz.func101 45 [.cell 4 24, .tmp 5] rfl rfl rfl rfl rfl ?_; intro w0 X
      (repeat' (first | ((with_reducible show AL _ _ _ _ _); first | (refine yf tabs rfl ?_; try dsimp only [len, List.nil_append, List.cons_append]) | refine yn ?_ | (refine yq rfl rfl rfl (fun hc => ?_) (fun hc => ?_) <;> (fail_if_success (exact absurd hc (by decide))) <;> (try simp only [hsx] at hc) <;> (try first | omega | contradiction | (simp [qa] at hc; done)))) | ((with_reducible show DQ _ _ _ _ _ _); first | refine DQ.stepc (LS.val tabs rfl rfl rfl) rfl rfl rfl rfl rfl ?_ | refine DQ.stepc (yu rfl rfl) rfl rfl rfl rfl rfl ?_ | refine DQ.nilM (by kernel_rfl) ?_ | (refine DQ.gsplitE rfl rfl rfl (fun hc => ?_) (fun hc => ?_) <;> (fail_if_success (exact absurd hc (by decide))) <;> (try simp only [hsx] at hc) <;> (try first | omega | contradiction | (simp [qa] at hc; done)))) | (exfalso; omega) | refine ym ?_ | refine ya ?_ | refine yb ?_ | refine yg ?_ | refine yi rfl ?_ | refine yh rfl ?_ | (refine yk rfl (fun hc => ?_) (fun hc => ?_) <;> (try simp only [hsx] at hc) <;> (try first | omega | contradiction | (simp [qa] at hc; done))) | refine yo ?_ | refine yc ?_ | refine yr mixed (by kernel_rfl) ?_))
      all_goals first
        | (exfalso; omega)
        | exact RQ.fin rfl rfl rfl
    · have hdo := qnl f (mkCh (f.length + 1) n) hf rfl rfl hn h12
      have hpl := qhq (mkCh (f.length + 1) n) rfl
      have := qcr f (f ++ [n]) (f.length + 1) (by simp) (mkCh (f.length + 1) n) true hf (hf.snoc (by omega) hn) h0 (.inr (by omega)) (by simp [mkCh]) hpl hfc hdo
      rw [show doneM f n = (if true = true ∧ dec (rightP (f ++ [n])) = true then (f ++ [n], (0 : Int)) else ([], 2)) by unfold doneM; rw [if_neg hm]; simp]
      exact this
  | ins x p i hx hp i0 i1 hp0 =>
    rw [show doneG f (inCh x p i) = doneA f (inCh x p i) from rfl]
    have hfew := qco hr p
    have hF := qei f hf hr hx hp i0 i1
    have hdo := qnm f (inCh x p i) hf rfl hx hp hp0 i0 i1 (by show (nodeAt f p).kids.length ≤ _; omega)
    have hpl := qhr (inCh x p i) rfl
    have := qcr f (insFM f x p i) f.length (qa7 _ _ _ _) (inCh x p i) true hf hF h0 (.inl (by simp [inCh])) (by simp [inCh]) hpl hfc hdo
    rw [show doneA f (inCh x p i) = (if true = true ∧ dec (rightP (insFM f x p i)) = true then (insFM f x p i, (0 : Int)) else ([], 2)) by simp only [true_and]; rfl]
    exact this
  | dat h off cnt v hh hd o0 c0' oc hv ho =>
    rw [show doneG f (daCh h off cnt v) = doneW f h (repD (atI f (h - 1)).data off cnt v) from rfl]
    have hdb : dataB (nodeAt f h).kind := by
      obtain ⟨k, hk⟩ : ∃ k, k = (nodeAt f h).kind := ⟨_, rfl⟩
      rw [← hk] at hd ⊢
      unfold traitsOf at hd
      unfold dataB textB
      grind
    have hF : Fit (datF f h (repD (nodeAt f h).data off cnt v)) := by
      have h1 := hh.1
      have h3 := hh.2
      have := hf.atI (h - 1) (by omega) (by omega)
      refine qby hf ⟨?_, this.attrs, this.kids⟩
      unfold repD
      simp only [List.length_append, List.length_take, List.length_drop]
      omega
    have hdo := qnn f (daCh h off cnt v) hf rfl hh hdb o0 c0' oc hv
    have hpl := qhv (daCh h off cnt v) rfl
    have := qcr f (datF f h (repD (nodeAt f h).data off cnt v)) f.length (by unfold datF; rw [qa4]) (daCh h off cnt v) true hf hF h0 (.inl (by simp [daCh])) (by simp [daCh]) hpl hfc hdo
    rw [← qx hh, show doneW f h (repD (nodeAt f h).data off cnt v) = (if true = true ∧ dec (rightP (datF f h (repD (nodeAt f h).data off cnt v))) = true then (datF f h (repD (nodeAt f h).data off cnt v), (0 : Int)) else ([], 2)) by unfold doneW; simp]
    exact this
  | spl a b c =>
    have hdo := qno f (splitCh a b c) hf rfl
    have hpl := qhw (splitCh a b c) rfl
    have := qcr f f f.length rfl (splitCh a b c) _ hf hf h0 (.inl (by simp [splitCh])) (by simp [splitCh]) hpl hfc hdo
    rw [show doneG f (splitCh a b c) = (if ([a, b].all fun h => inB f h) = true then (f, 0) else ([], 2)) from rfl]
    rw [show (if ([(splitCh a b c).node, (splitCh a b c).other].all fun h => inB f h) = true ∧ dec (rightP f) = true then (f, (0 : Int)) else ([], 2)) = (if ([a, b].all fun h => inB f h) = true then (f, 0) else ([], 2)) by rw [show dec (rightP f) = true by rw [qc]; exact hr]; simp [splitCh]] at this
    exact this
  | tree a b c d =>
    have hdo := qnp f (treeCh a b c d) hf rfl (by simp [treeCh]) (by simp [treeCh, c0])
    have hpl := qhx (treeCh a b c d) rfl
    have := qcr f f f.length rfl (treeCh a b c d) _ hf hf h0 (.inl (by simp [treeCh])) (by simp [treeCh]) hpl hfc hdo
    rw [show doneG f (treeCh a b c d) = (if dec (treeP f (treeCh a b c d)) = true then (f, 0) else ([], 2)) from rfl]
    rw [show (if dec (treeP f (treeCh a b c d)) = true ∧ dec (rightP f) = true then (f, (0 : Int)) else ([], 2)) = (if dec (treeP f (treeCh a b c d)) = true then (f, 0) else ([], 2)) by rw [show dec (rightP f) = true by rw [qc]; exact hr]; simp] at this
    exact this
theorem qjt {f : List Node} (hr : rightP f) {h : Int} (hh : inR f h) : (nodeAt f h).parent = h → (nodeAt f h).kind = 12 := by
  intro e
  apply Classical.byContradiction
  intro h12
  have h1 : upN f h = h := by
    rw [qlb hh]
    unfold aboveOf
    rw [if_neg h12]
    exact e
  have := qff hh
  rw [h1] at this
  exact qcv this (qb4 hr hh).2.2
theorem qft {k : Int} (h : textB k) : (traitsOf k).data = true ∧ k ≠ 12 ∧ (traitsOf k).hung = true := by
  rcases h with h | h <;> subst h <;> decide
theorem inv0 {f : List Node} (hf : Fit f) (hr : rightP f) {h : Int} (hh : inR f h) : InvP (pen0 f) := ⟨hf, hr, by have := hh.1; have := hh.2; show 0 < f.length; omega, fun c hc => by cases hc⟩
theorem qju (l : List Int) (off cnt : Int) (v : List Int) (h0 : 0 ≤ off) (h1 : 0 ≤ cnt) (h2 : off ≤ l.length) (h3 : l.length ≤ off + cnt) : replP l off cnt v = if 16384 < off + v.length then ([], 4) else (l.take off.toNat ++ v, 0) := by
  have hs : spTo l.length off cnt = l.length := by unfold spTo; omega
  unfold replP
  rw [if_neg (by omega), hs]
  by_cases h : 16384 < off + v.length
  · rw [if_pos (by omega), if_pos h]
  · rw [if_neg (by omega), if_neg h]
    unfold replL
    rw [List.drop_eq_nil_of_le (by omega), List.append_nil]
theorem qnq (f : List Node) (h off : Int) (h0 : 0 ≤ off) (hl : (nodeAt f h).data.length ≤ 1000000000) (ho : off ≤ (nodeAt f h).data.length) : restL f h off = (nodeAt f h).data.drop off.toNat := by
  unfold restL subP
  rw [show spTo (nodeAt f h).data.length off 4294967295 = (nodeAt f h).data.length by unfold spTo; omega, List.take_of_length_le (by omega)]
section
variable {f : List Node} {h off : Int} (hf : Fit f) (hr : rightP f) (hh : inR f h) (ht : textB (nodeAt f h).kind) (h0 : 0 ≤ off) (ho : off ≤ (nodeAt f h).data.length)
include hf hr hh ht h0 ho
theorem qjv : FitN (restN f h off) := by
  have _ := hr; have _ := hh; have _ := ht; have _ := h0; have _ := ho
  exact ⟨Nat.le_trans (qjg _ _ _) (hf.at h).data, by simp [restN, n0], by simp [restN, n0]⟩
theorem can1 : CanCh f (mkCh (f.length + 1) (restN f h off)) := .mk _ (qjv hf hr hh ht h0 ho) (by simp [restN])
theorem inv1 : InvP (spl1 f h off).1 := qdx (inv0 hf hr hh) fun _ => can1 hf hr hh ht h0 ho
theorem ok1 (hb : (spl1 f h off).2 = true) : spl1 f h off = (⟨f ++ [restN f h off], [mkCh (f.length + 1) (restN f h off)], 0⟩, true) := by
  have _ := hf; have _ := hr; have _ := hh; have _ := ht; have _ := h0; have _ := ho
  obtain ⟨_, h2, h3⟩ := qej ((qgl _ _).1 hb)
  have e : spl1 f h off = _ := h3
  rw [e]
  have hd : doneG (pen0 f).F (mkCh (f.length + 1) (restN f h off)) = doneM f (restN f h off) := rfl
  rw [hd] at h2 ⊢
  unfold doneM at h2 ⊢
  split at h2
  · cases h2
  · rename_i h4
    rw [if_neg h4]
    split at h2
    · rename_i h5
      rw [if_pos h5]
      rfl
    · cases h2
theorem qjw (hp : (nodeAt f h).parent ≠ 0) : inR f (nodeAt f h).parent ∧ 0 ≤ idx (nodeAt f (nodeAt f h).parent).kids h ∧ idx (nodeAt f (nodeAt f h).parent).kids h < (nodeAt f (nodeAt f h).parent).kids.length ∧ atI (nodeAt f (nodeAt f h).parent).kids (idx (nodeAt f (nodeAt f h).parent).kids h) = h ∧ placeP f h = idx (nodeAt f (nodeAt f h).parent).kids h := by
  have _ := hf; have _ := ht; have _ := h0; have _ := ho
  obtain ⟨hq, hm⟩ := qfr hr hh hp
  obtain ⟨i, i0, i1, hi⟩ := qjk hm
  have e := qjj (qdw hr hq) i0 i1
  rw [hi] at e
  refine ⟨hq, by omega, by omega, by rw [e]; exact hi, by unfold placeP; omega⟩
theorem can2 (hp : (nodeAt f h).parent ≠ 0) (hw : (spl1 f h off).1.why = 0) : CanCh (spl1 f h off).1.F (inCh (f.length + 1) (nodeAt f h).parent (placeP f h + 1)) := by
  have e := ok1 hf hr hh ht h0 ho ((qgl _ _).2 hw)
  rw [e]
  obtain ⟨hq, i0, i1, _, hpl⟩ := qjw hf hr hh ht h0 ho hp
  have hq1 := hq.1
  have hq2 := hq.2
  have en : nodeAt (f ++ [restN f h off]) (nodeAt f h).parent = nodeAt f (nodeAt f h).parent := by rw [qbl, if_neg (by omega)]
  refine .ins _ _ _ ⟨by omega, by simp⟩ ⟨hq1, by simp; omega⟩ (by omega) ?_ ?_
  · show placeP f h + 1 ≤ (nodeAt (f ++ [restN f h off]) (nodeAt f h).parent).kids.length
    rw [en]; omega
  · show (nodeAt (f ++ [restN f h off]) (f.length + 1)).parent = 0
    rw [qbl, if_pos rfl]
    rfl
theorem inv2 (hp : (nodeAt f h).parent ≠ 0) : InvP (spl2 f h off) := qdx (inv1 hf hr hh ht h0 ho) fun hw => can2 hf hr hh ht h0 ho hp hw
theorem inv3 (hp : (nodeAt f h).parent ≠ 0) : InvP (spl3 f h off) := qdx (inv2 hf hr hh ht h0 ho hp) fun _ => .tree _ _ _ _
theorem inv4 : InvP (spl4 f h off) := by
  unfold spl4
  split
  · rename_i hc
    exact qdx (inv3 hf hr hh ht h0 ho hc.2) fun _ => .spl _ _ _
  · exact inv1 hf hr hh ht h0 ho
theorem F4 (hw : (spl4 f h off).why = 0) : (spl1 f h off).2 = true ∧ (spl4 f h off).F = if (nodeAt f h).parent = 0 then f ++ [restN f h off] else insFM (f ++ [restN f h off]) (f.length + 1) (nodeAt f h).parent (placeP f h + 1) := by
  unfold spl4 at hw ⊢
  split at hw
  · rename_i hc
    rw [if_pos hc, if_neg hc.2]
    obtain ⟨w3, g3, e4⟩ := qej hw
    obtain ⟨w2, g2, e3⟩ := qej (p := spl2 f h off) w3
    obtain ⟨w1, g1, e2⟩ := qej (p := (spl1 f h off).1) w2
    refine ⟨hc.1, ?_⟩
    rw [e4]
    have hs : (doneG (spl3 f h off).F (splitCh h (f.length + 1) off)).1 = (spl3 f h off).F := by
      have e : doneG (spl3 f h off).F (splitCh h (f.length + 1) off) = if ([h, (f.length : Int) + 1].all fun k => inB (spl3 f h off).F k) = true then ((spl3 f h off).F, 0) else ([], 2) := rfl
      rw [e] at g3 ⊢
      split at g3
      · rename_i h5; rw [if_pos h5]
      · cases g3
    show (doneG (spl3 f h off).F (splitCh h (f.length + 1) off)).1 = _
    rw [hs]
    have e3' : spl3 f h off = _ := congrArg Prod.fst e3
    rw [e3']
    have ht' : (doneG (spl2 f h off).F (treeCh (nodeAt f h).parent (f.length + 1) h (besideP f h 1))).1 = (spl2 f h off).F := by
      have e : doneG (spl2 f h off).F (treeCh (nodeAt f h).parent (f.length + 1) h (besideP f h 1)) = if dec (treeP (spl2 f h off).F (treeCh (nodeAt f h).parent (f.length + 1) h (besideP f h 1))) = true then ((spl2 f h off).F, 0) else ([], 2) := rfl
      rw [e] at g2 ⊢
      split at g2
      · rename_i h5; rw [if_pos h5]
      · cases g2
    show (doneG (spl2 f h off).F (treeCh (nodeAt f h).parent (f.length + 1) h (besideP f h 1))).1 = _
    rw [ht']
    have e2' : spl2 f h off = _ := congrArg Prod.fst e2
    rw [e2']
    have e1 := ok1 hf hr hh ht h0 ho hc.1
    rw [e1] at g1 ⊢
    have e : doneG (f ++ [restN f h off]) (inCh (f.length + 1) (nodeAt f h).parent (placeP f h + 1)) = doneA (f ++ [restN f h off]) (inCh (f.length + 1) (nodeAt f h).parent (placeP f h + 1)) := rfl
    show (doneG (f ++ [restN f h off]) (inCh (f.length + 1) (nodeAt f h).parent (placeP f h + 1))).1 = _
    rw [e]
    have g1 : (doneG (f ++ [restN f h off]) (inCh (f.length + 1) (nodeAt f h).parent (placeP f h + 1))).2 = 0 := g1
    rw [e] at g1
    unfold doneA at g1 ⊢
    split at g1
    · rename_i h5; rw [if_pos h5]; rfl
    · cases g1
  · rename_i hc
    rw [if_neg hc]
    have hb : (spl1 f h off).2 = true := (qgl _ _).2 hw
    have hp : (nodeAt f h).parent = 0 := by
      apply Classical.byContradiction
      intro h'
      exact hc ⟨hb, h'⟩
    rw [if_pos hp]
    refine ⟨hb, ?_⟩
    rw [ok1 hf hr hh ht h0 ho hb]
theorem node4 (hw : (spl4 f h off).why = 0) (k : Int) : nodeAt (spl4 f h off).F k = if (nodeAt f h).parent ≠ 0 ∧ k = (nodeAt f h).parent then { nodeAt f (nodeAt f h).parent with kids := insAt (nodeAt f (nodeAt f h).parent).kids (placeP f h + 1) (f.length + 1) } else if k = f.length + 1 then { restN f h off with parent := (nodeAt f h).parent } else nodeAt f k := by
  rw [(F4 hf hr hh ht h0 ho hw).2]
  by_cases hp : (nodeAt f h).parent = 0
  · rw [if_pos hp, if_neg (by omega), qbl, hp]
    rfl
  · obtain ⟨hq, i0, i1, _, hpl⟩ := qjw hf hr hh ht h0 ho hp
    have hq1 := hq.1
    have hq2 := hq.2
    rw [if_neg hp, qjr (f := f ++ [restN f h off]) ⟨by omega, by simp⟩ ⟨hq1, by simp; omega⟩ (by omega)]
    have en : nodeAt (f ++ [restN f h off]) (nodeAt f h).parent = nodeAt f (nodeAt f h).parent := by rw [qbl, if_neg (by omega)]
    rw [en]
    by_cases e1 : k = (nodeAt f h).parent
    · rw [if_pos e1, if_pos ⟨hp, e1⟩]
    · rw [if_neg e1, if_neg (show ¬ ((nodeAt f h).parent ≠ 0 ∧ k = (nodeAt f h).parent) from fun hx => e1 hx.2)]
      by_cases e2 : k = f.length + 1
      · rw [if_pos e2, if_pos e2, qbl, if_pos rfl]
      · rw [if_neg e2, if_neg e2, qbl, if_neg e2]
theorem self4 (hw : (spl4 f h off).why = 0) : nodeAt (spl4 f h off).F h = nodeAt f h ∧ inR (spl4 f h off).F h ∧ (spl4 f h off).F.length = f.length + 1 := by
  have h1 := hh.1
  have h2 := hh.2
  have hl : (spl4 f h off).F.length = f.length + 1 := by
    rw [(F4 hf hr hh ht h0 ho hw).2]
    split
    · simp
    · rw [qa7]; simp
  refine ⟨?_, ⟨h1, by omega⟩, hl⟩
  rw [node4 hf hr hh ht h0 ho hw, if_neg ?_, if_neg (by omega)]
  rintro ⟨hp, e⟩
  exact (qft ht).2.1 (qjt hr hh e.symm)
theorem can5 (hw : (spl4 f h off).why = 0) (hre : (replP (nodeAt (spl4 f h off).F h).data off (restL f h off).length []).2 = 0) : CanCh (spl4 f h off).F (putC (spl4 f h off).F h off (restL f h off).length []) ∧ putC (spl4 f h off).F h off (restL f h off).length [] = daCh h off ((nodeAt f h).data.length - off) [] ∧ off ≤ 16384 := by
  obtain ⟨e, hin, hl⟩ := self4 hf hr hh ht h0 ho hw
  have hdl := (hf.at h).data
  have hre' := qnq f h off h0 hdl ho
  have hrl : ((restL f h off).length : Int) = (nodeAt f h).data.length - off := by rw [hre']; simp; omega
  have ep := qju (nodeAt f h).data off (restL f h off).length [] h0 (by omega) ho (by omega)
  rw [e, ep] at hre
  by_cases h16 : 16384 < off + (([] : List Int).length : Int)
  · rw [if_pos h16] at hre; cases hre
  · have h16' : off ≤ 16384 := by simp at h16; omega
    have ec : putC (spl4 f h off).F h off (restL f h off).length [] = daCh h off ((nodeAt f h).data.length - off) [] := by
      rw [qck, e, ep, if_neg h16]
      congr 1
      simp
      omega
    refine ⟨?_, ec, h16'⟩
    rw [ec]
    refine .dat _ _ _ _ hin (by rw [e]; exact (qft ht).1) h0 (by omega) (by rw [e]; omega) (by simp) (by rw [e]; simp; omega)
theorem invQ : InvP (splQ f h off) := qhg (inv4 hf hr hh ht h0 ho) fun hw hre => (can5 hf hr hh ht h0 ho hw hre).1
structure SplitO (f : List Node) (h off : Int) (g : List Node) : Prop where
  fit : Fit g
  right : rightP g
  len : g.length = f.length + 1
  node : ∀ k, nodeAt g k = if k = h then { nodeAt f h with data := (nodeAt f h).data.take off.toNat } else if (nodeAt f h).parent ≠ 0 ∧ k = (nodeAt f h).parent then { nodeAt f (nodeAt f h).parent with kids := insAt (nodeAt f (nodeAt f h).parent).kids (placeP f h + 1) (f.length + 1) } else if k = f.length + 1 then { restN f h off with parent := (nodeAt f h).parent } else nodeAt f k
theorem qfu (hw : (splQ f h off).why = 0) : (spl1 f h off).2 = true ∧ SplitO f h off (splQ f h off).F ∧ (splQ f h off).L = (spl4 f h off).L ++ [daCh h off ((nodeAt f h).data.length - off) []] := by
  obtain ⟨w4, hre, hd, e⟩ := qjq hw
  obtain ⟨hc, ec, _⟩ := can5 hf hr hh ht h0 ho w4 hre
  obtain ⟨en, hin, hl⟩ := self4 hf hr hh ht h0 ho w4
  have hi := invQ hf hr hh ht h0 ho
  have eF : (splQ f h off).F = datF (spl4 f h off).F h ((nodeAt f h).data.take off.toNat) := by
    have e' : splQ f h off = _ := e
    rw [e']
    show (doneG (spl4 f h off).F (putC (spl4 f h off).F h off (restL f h off).length [])).1 = _
    rw [ec] at hd ⊢
    have ed : doneG (spl4 f h off).F (daCh h off ((nodeAt f h).data.length - off) []) = doneW (spl4 f h off).F h (repD (atI (spl4 f h off).F (h - 1)).data off ((nodeAt f h).data.length - off) []) := rfl
    rw [ed] at hd ⊢
    rw [← qx hin, en, qln _ _ _ _ h0 (by omega) (by omega), List.append_nil] at hd ⊢
    unfold doneW at hd ⊢
    split at hd
    · rename_i h5; rw [if_pos h5]
    · cases hd
  refine ⟨(F4 hf hr hh ht h0 ho w4).1, ⟨hi.fit, hi.right, ?_, ?_⟩, ?_⟩
  · rw [eF]; unfold datF; rw [qa4, hl]
  · intro k
    rw [eF, qhh hin, en]
    by_cases e1 : k = h
    · rw [if_pos e1, if_pos e1]
    · rw [if_neg e1, if_neg e1, node4 hf hr hh ht h0 ho w4]
  · have e' : splQ f h off = _ := e
    rw [e', ec]
theorem qjx : SplitS f h off (spl1 f h off).1 (spl2 f h off) (spl3 f h off) (spl4 f h off) (splQ f h off) (spl1 f h off).2 where
  made := qjp (inv0 hf hr hh) fun _ => can1 hf hr hh ht h0 ho
  lone := fun hc => by
    unfold spl4
    rw [if_neg]
    rintro ⟨a, b⟩
    rcases hc with hc | hc
    · rw [hc] at a; cases a
    · exact b hc
  ins := fun _ hp => ⟨_, qjp (inv1 hf hr hh ht h0 ho) fun hw => can2 hf hr hh ht h0 ho hp hw⟩
  tree := fun _ hp => ⟨_, qjp (inv2 hf hr hh ht h0 ho hp) fun _ => .tree _ _ _ _⟩
  spl := fun hb hp => ⟨_, by
    have := qjp (inv3 hf hr hh ht h0 ho hp) (c := splitCh h (f.length + 1) off) fun _ => .spl _ _ _
    rw [show spl4 f h off = (doS (spl3 f h off) (splitCh h (f.length + 1) off)).1 by unfold spl4; rw [if_pos ⟨hb, hp⟩]]
    exact this⟩
  put := qdz (inv4 hf hr hh ht h0 ho) fun hw hre => (can5 hf hr hh ht h0 ho hw hre).1
theorem len1 : (spl1 f h off).1.L.length ≤ 1 := by
  have _ := hf; have _ := hr; have _ := hh; have _ := ht; have _ := h0; have _ := ho
  have := qdy (pen0 f) (mkCh (f.length + 1) (restN f h off)); exact this
theorem len2 : (spl2 f h off).L.length ≤ 2 := by have := qdy (spl1 f h off).1 (inCh (f.length + 1) (nodeAt f h).parent (placeP f h + 1)); have := len1 hf hr hh ht h0 ho; unfold spl2; omega
theorem len3 : (spl3 f h off).L.length ≤ 3 := by have := qdy (spl2 f h off) (treeCh (nodeAt f h).parent (f.length + 1) h (besideP f h 1)); have := len2 hf hr hh ht h0 ho; unfold spl3; omega
theorem len4 : (spl4 f h off).L.length ≤ 4 := by
  have := qdy (spl3 f h off) (splitCh h (f.length + 1) off)
  have := len3 hf hr hh ht h0 ho
  have := len1 hf hr hh ht h0 ho
  unfold spl4
  split <;> omega
theorem lenQ : (splQ f h off).L.length ≤ 5 := by
  have := qlp (spl4 f h off) h off (restL f h off).length []
  have := len4 hf hr hh ht h0 ho
  unfold splQ
  omega
end
noncomputable def splitA (f : List Node) (h off : Int) : AV :=
  if cfP f h true ≠ 0 then .tup [fav [], iav 0, .imm (.sl []), iav (cfP f h true)]
  else if ((nodeAt f h).data.length : Int) < off then .tup [fav [], iav 0, .imm (.sl []), iav 14]
  else if (splQ f h off).why ≠ 0 then .tup [fav [], iav 0, .imm (.sl []), iav (splQ f h off).why]
  else .tup [fav (splQ f h off).F, iav (f.length + 1), .imm (.sl ((splQ f h off).L.map Change.iv)), iav 0]
theorem qls (f : List Node) (h off : Int) (hf : Fit f) (h0 : 0 ≤ off) (h1 : off < 4294967296) : PureC Tryz.prog 12 [fav f, iav h, u32 off] (splitA f h off) := by
  unfold splitA
  by_cases he : cfP f h true = 0
  · rw [if_neg (by omega)]
    obtain ⟨hr, hh, ht, _⟩ := qaw he
    have ht := ht rfl
    by_cases ho : off ≤ (nodeAt f h).data.length
    · rw [if_neg (by omega)]
      have S := qjx hf hr hh ht h0 ho
      have hi := invQ hf hr hh ht h0 ho
      have l1 := len1 hf hr hh ht h0 ho
      have l2 := len2 hf hr hh ht h0 ho
      have l3 := len3 hf hr hh ht h0 ho
      have l4 := len4 hf hr hh ht h0 ho
      have lq := lenQ hf hr hh ht h0 ho
      have := qnh f h off _ _ _ _ _ _ hf he h0 h1 ho S (inv4 hf hr hh ht h0 ho).fit (by omega) (by omega) (by omega) (by omega) (by omega) (fun hw => by
        rw [(qfu hf hr hh ht h0 ho hw).2.2]; simp) (fun i i0 i1 => hi.chs _ (qau i0 i1))
      unfold ansS at this
      by_cases hw : (splQ f h off).why = 0
      · rw [if_neg (by omega)]
        rw [if_pos hw, if_pos (qfu hf hr hh ht h0 ho hw).1] at this
        exact this
      · rw [if_pos hw]
        rw [if_neg hw] at this
        exact this
    · rw [if_pos (by omega)]
      exact qhz f h off hf he h0 h1 (by omega)
  · rw [if_pos he]
    exact qjh f h off hf he
end Go.Proofs.YtmhejcnaanocpaaGreat.A
