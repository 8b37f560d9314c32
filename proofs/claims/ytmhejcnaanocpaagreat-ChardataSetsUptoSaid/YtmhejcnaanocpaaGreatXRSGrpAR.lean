/- Plain words about right forests: nodes, kids; what is made and put in at the end leaves a right forest right. -/
import Derived.Test.YtmhejcnaanocpaaGreatXRSGrpAP
import Derived.Test.YtmhejcnaanocpaaGreatXRSGrpAQ
import Derived.Shelf.Spec.SlicesInsertGrow
namespace Go.Proofs.YtmhejcnaanocpaaGreat.A
set_option linter.unusedVariables false
set_option linter.unusedSimpArgs false
set_option maxRecDepth 100000
set_option maxHeartbeats 4000000
theorem qhc {α : Type} [DecidableEq α] : ∀ {l m : List α}, l.Nodup → (∀ x ∈ l, x ∈ m) → l.length ≤ m.length
  | [], m, _, _ => Nat.zero_le _
  | x :: r, m, hn, hs => by
    have hx := hs x (by simp)
    rw [List.nodup_cons] at hn
    have := qhc (l := r) (m := m.erase x) hn.2 fun y hy => by
      have hne : y ≠ x := fun e => hn.1 (e ▸ hy)
      exact (List.mem_erase_of_ne hne).2 (hs y (by simp [hy]))
    have hl := List.length_erase_of_mem hx
    have : 0 < m.length := List.length_pos_of_mem hx
    simp only [List.length_cons]
    omega
section
variable {f : List Node}
theorem qb4 (hr : rightP f) {a : Int} (ha : inR f a) : madeP (nodeAt f a) ∧ linksP f a (nodeAt f a) ∧ Good f a := by
  have h := hr.2 (a - 1) (by have := ha.1; omega) (by have := ha.2; omega)
  unfold okP at h
  rw [show a - 1 + 1 = a by omega] at h
  have e : nodeAt f a = atI f (a - 1) := by unfold nodeAt; rw [if_pos (show 1 ≤ a ∧ a ≤ (f.length : Int) from ha)]
  rw [e]
  exact h
theorem qbs {a : Int} (ha : ¬ inR f a) : nodeAt f a = n0 := by unfold nodeAt; rw [if_neg (show ¬ (1 ≤ a ∧ a ≤ (f.length : Int)) from ha)]
theorem qcx {h doc : Int} : ∀ (l seen : List Int), kidsGo f h doc seen l = true → ∀ k ∈ l, inB f k = true ∧ (nodeAt f k).parent = h
  | [], _, _, k, hk => by cases hk
  | x :: r, seen, hg, k, hk => by
    rw [kidsGo] at hg
    split at hg
    · cases hg
    rename_i h1
    split at hg
    · cases hg
    split at hg
    · cases hg
    rename_i h3
    split at hg
    · cases hg
    rcases List.mem_cons.1 hk with rfl | hk
    · refine ⟨by simpa using h1, ?_⟩
      rw [qi, Decidable.not_not] at h3
      exact h3
    · exact qcx r _ hg k hk
theorem qbz {K : Int → Int} {d : Bool} : ∀ (l : List Int) (e t : Int), famGo K d l e t = true → ∀ k ∈ l, K k ≠ 12
  | [], _, _, _, k, hk => by cases hk
  | x :: r, e, t, hg, k, hk => by
    rw [famGo] at hg
    rcases List.mem_cons.1 hk with rfl | hk
    · intro h12
      rw [h12] at hg
      simp at hg
    · split at hg
      · exact qbz r _ _ hg k hk
      split at hg
      · split at hg
        · cases hg
        · exact qbz r _ _ hg k hk
      split at hg
      · split at hg
        · cases hg
        · exact qbz r _ _ hg k hk
      split at hg
      · exact qbz r _ _ hg k hk
      · cases hg
theorem qi1 (hr : rightP f) {a k : Int} (ha : inR f a) (hk : k ∈ (nodeAt f a).kids) : inR f k ∧ upN f k = a := by
  obtain ⟨_, hl, _⟩ := qb4 hr ha
  have hkb := hl.2.2.2.2
  unfold kidsB at hkb
  simp only [Bool.and_eq_true] at hkb
  obtain ⟨h1, h2⟩ := qcx _ _ hkb.1 k hk
  have h12 := qbz _ _ _ hkb.2 k hk
  have hin : inR f k := by simpa [inB, inR] using h1
  refine ⟨hin, ?_⟩
  have e : nodeAt f k = atI f (k - 1) := by unfold nodeAt; rw [if_pos (show 1 ≤ k ∧ k ≤ (f.length : Int) from hin)]
  unfold upN aboveOf
  rw [← e, if_neg h12]
  exact h2
end
theorem qb0 {f : List Node} {h doc : Int} : ∀ (l seen : List Int), kidsGo f h doc seen l = true → l.Nodup ∧ ∀ k ∈ l, k ∉ seen
  | [], _, _ => ⟨List.nodup_nil, fun a h => by cases h⟩
  | x :: r, seen, hg => by
    rw [kidsGo] at hg
    split at hg
    · cases hg
    split at hg
    · cases hg
    rename_i h2
    split at hg
    · cases hg
    split at hg
    · cases hg
    rw [qc] at h2
    obtain ⟨h3, h4⟩ := qb0 r _ hg
    refine ⟨List.nodup_cons.2 ⟨fun hm => h4 x hm (by simp), h3⟩, fun k hk => ?_⟩
    rcases List.mem_cons.1 hk with rfl | hk
    · exact h2
    · exact fun hs => h4 k hk (by simp [hs])
section
variable {f : List Node}
theorem qci (hr : rightP f) {a : Int} (ha : inR f a) : kidsGo f a (nodeAt f a).doc [] (nodeAt f a).kids = true ∧ famB f (nodeAt f a) = true := by
  obtain ⟨_, hl, _⟩ := qb4 hr ha
  have hkb := hl.2.2.2.2
  unfold kidsB at hkb
  simpa only [Bool.and_eq_true] using hkb
theorem qco (hr : rightP f) (a : Int) : (nodeAt f a).kids.length ≤ 4096 := by
  by_cases ha : inR f a
  · have hn := (qb0 _ _ (qci hr ha).1).1
    have := qhc hn (m := (List.range f.length).map fun j : Nat => (j : Int) + 1) fun x hx => by
      obtain ⟨h, _⟩ := qi1 hr ha hx
      have h1 := h.1
      have h2 := h.2
      exact List.mem_map.2 ⟨(x - 1).toNat, List.mem_range.2 (by omega), by omega⟩
    have h4 := hr.1
    simp at this
    omega
  · rw [qbs ha]
    simp [n0]
theorem qx {a : Int} (ha : inR f a) : nodeAt f a = atI f (a - 1) := by unfold nodeAt; rw [if_pos (show 1 ≤ a ∧ a ≤ (f.length : Int) from ha)]
end
theorem qk9 {α : Type} [Inhabited α] (l : List α) (x : α) (i : Int) (h0 : 0 ≤ i) : atI (l ++ [x]) i = if i = l.length then x else atI l i := by
  unfold atI
  simp only [List.getD_eq_getElem?_getD]
  by_cases h : i = l.length
  · rw [if_pos h]
    subst h
    simp
  · rw [if_neg h]
    rcases Nat.lt_or_ge i.toNat l.length with h1 | h1
    · rw [List.getElem?_append_left h1]
    · rw [List.getElem?_eq_none (by simp; omega), List.getElem?_eq_none (by omega)]
theorem qla {f : List Node} {k : Int} : inB f k = true ↔ inR f k := by
  simp only [inB, decide_eq_true_eq]; rfl
theorem qlb {f : List Node} {k : Int} (hk : inR f k) : upN f k = aboveOf (nodeAt f k) := by
  rw [qx hk]; rfl
theorem qbl (f : List Node) (m : Node) (k : Int) : nodeAt (f ++ [m]) k = if k = f.length + 1 then m else nodeAt f k := by
  by_cases h : inR (f ++ [m]) k
  · have h1 := h.1
    have h2 := h.2
    simp at h2
    rw [qx h, qk9 _ _ _ (by omega)]
    by_cases e : k = f.length + 1
    · rw [if_pos (by omega), if_pos e]
    · rw [if_neg (by omega), if_neg e, qx (f := f) ⟨h1, by omega⟩]
  · rw [qbs h]
    have e : k ≠ f.length + 1 := fun e => h ⟨by omega, by simp; omega⟩
    rw [if_neg e, qbs]
    exact fun h2 => h ⟨h2.1, by have := h2.2; simp; omega⟩
open Go.RowKit
section
variable {C : Cx} {s : St} {o : Oper} {T : List (Nat × TI)} {l : List Oper}
theorem LS.store_m (hT : TsOK C.P T) (hw : awant l s o = some true) (hd : o.dst = none) {t : TypeId} {p x : Operand} (ho : o.op = .store t p x) {i : TI} (hi : look T t = some i) {id ver off : Nat} {j : Int} (hp : s.ev p = some (.ptr id ver j.toNat off)) {v : AV} (hx : s.ev x = some v)
    {α : Type} [Inhabited α] {g : α → List AV} {xs : List α} {ty sz : Nat} (hb : nth s.hp id = some ⟨ty, sz, xs.map g⟩) (hver : ver = xs.length) (h0 : 0 ≤ j) (h1 : j < xs.length) (hlen : (avCells v).length = i.sz) (hcell : (avCells v).all AV.cell = true) (hfit : off + i.sz ≤ sz)
    {y : α} (hy : putRow sz i.sz (g (atI xs j)) off (avCells v) = g y) : LS C l s o (mkFx l s o (.blk id ⟨ty, sz, (xs.set j.toNat y).map g⟩ .undef) []) := by
  have := LS.store hT hw hd ho hi hp hx hb (by simp [hver]) hlen hcell hfit (r := g (atI xs j)) (by simp only [List.getElem?_map]; rw [qat h0 h1]; rfl)
  rw [hy] at this
  rw [List.map_set]
  exact this
theorem yb9 (hT : TsOK C.P T) (hw : awant l s o = some true) (hd : dok C.nt o.dst = true) {t e : TypeId} {x z : Operand} (ho : o.op = .slice t x (some z) none none) {i ie : TI} (hi1 : look T t = some i) (hk : i.kd = .sl e) (hie : look T e = some ie) {α : Type} {f : α → List IV} {xs : List α} (hx : s.ev x = some (.imm (.sl (xs.map f))))
    {h : Int} (hz : s.ev z = some (.imm (.int .i64 h))) (hsz : ∀ q, (f q).length = ie.sz) (h1 : 0 ≤ h) (h2 : h ≤ xs.length) {ys : List α} (hys : xs.drop h.toNat = ys) : LS C l s o (mkFx l s o (.val (.imm (.sl (ys.map f)))) []) :=
  yav [] hw fun s' hl => by
    have := ya0 (C := C) (l := h) (h := xs.length) hT hd ho hi1 hk hie ((hl.ev x (by rw [ho]; simp [Op.operands])).trans hx) (by unfold bnd; simp only [(hl.ev z (by rw [ho]; simp [Op.operands])).trans hz]) (by simp [bnd]) hsz h1 h2 (Int.le_refl _)
    rw [← hys]
    simpa using this
theorem yb0 (hT : TsOK C.P T) (hd : dok C.nt o.dst = true) {t e : TypeId} {x z : Operand} (ho : o.op = .slice t x none (some z) none) {i ie : TI} (hi1 : look T t = some i) (hk : i.kd = .sl e) (hie : look T e = some ie) {α : Type} {f : α → List IV} {xs ys : List α} (hx : s.ev x = some (.imm (.sl (xs.map f))))
    {h : Int} (hz : s.ev z = some (.imm (.int .i64 h))) (hsz : ∀ q, (f q).length = ie.sz) (h1 : 0 ≤ h) (h2 : h ≤ xs.length) (hys : xs.take h.toNat = ys) : OpOK C s o (s.put o.dst (.imm (.sl (ys.map f)))) := by
  have := ya0 (C := C) (l := 0) (h := h) hT hd ho hi1 hk hie hx rfl (by unfold bnd; simp only [hz]) hsz (Int.le_refl _) h1 h2
  rw [← hys]
  simpa using this
theorem ybz (p : Nat) (hT : TsOK C.P T) (hd : dok C.nt o.dst = true) {x y : Operand} {t tx e : TypeId} (ho : o.op = .call ⟨.builtin .append, #[x, y], #[t, tx]⟩) {i ie : TI} (hi : look T t = some i) (hk : i.kd = .sl e) (hie : look T e = some ie) (hpos : 0 < ie.sz) (hx : s.ev x = some .nils)
    {sz : Nat} (hp : nth s.hp p = some ⟨e, sz, []⟩) (hsz : sz = ie.sz) {rows2 : List (List AV)} (hne : rows2 ≠ []) (hsrc : SrcA C s ie tx y rows2) (hbound : rows2.length * ie.bytes ≤ 140737488355328) (h63 : rows2.length ≤ 9223372036854775807) :
    OpOK C s o (St.put ⟨s.env, s.hp.set p ⟨e, sz, rows2⟩⟩ o.dst (.os p rows2.length)) :=
  OpOK.val hd fun γ κ a W hC => by
    subst hsz
    rw [qm] at hp
    have hid : p < s.hp.length := (List.getElem?_eq_some_iff.1 hp).1
    obtain ⟨d, d1, d2, _⟩ := (hT t i hi).und
    rw [hk] at d2
    obtain rfl := qbh d2
    have hTe := hT e ie hie
    obtain ⟨it, z, i1, i2, i3, i4, i5⟩ := hTe.info
    obtain ⟨hr2, hc2, hs⟩ := hsrc
    obtain ⟨news, hs1, hs2⟩ := hs γ κ a W hC
    have h1 := hC.ev hx
    obtain ⟨A, hA⟩ : ∃ A, a.eval x = .slice A 0 0 := by
      generalize a.eval x = xv at h1
      cases h1; exact ⟨none, rfl⟩
    have hs1' : Src C.P it.size tx (a.eval y) rows2.length news W := by rw [i2]; exact hs1
    have hpos2 : 0 < rows2.length := List.length_pos_iff.2 hne
    have hold : (Builtin.firstCells it.size 0 (.slice A 0 0)).run C.P W.drew = .ok ([] : List Value).toArray W.drew := by
      cases A with
      | none => exact run_firstCells_none W.drew it.size 0 0 0
      | some g => exact run_firstCells_some W.drew it.size 0 g 0 0 [] (by simp) (by intro j u hj; simp at hj)
    have hrun := run_append_grow_src W t tx o.type e it z d1 i1 i4 A 0 0 [] hold (a.eval y) rows2.length news hs1' (by omega) (by omega) (growslice_fits (by omega) (by rw [i3, Nat.zero_add]; exact hbound))
    have hge := grownCap_ge W (0 + rows2.length) 0 e
    have hcm : grownCap W (0 + rows2.length) 0 e ≤ maxLen := grownCap_le_maxLen W _ 0 e (by simpa [maxLen] using h63)
    have hzl : z.cells.size = ie.sz := by
      have := (qp (M := s.mm C γ κ W) i5).length
      rw [hTe.zl] at this
      simpa using this.symm
    have hnl : news.length = rows2.length * ie.sz := by rw [← hs2.length, q5 hr2]
    generalize hcap : grownCap W (0 + rows2.length) 0 e = cap at hrun hge hcm
    obtain ⟨γ', κ', k1, k2, k3⟩ := hC.moved (id := p) (b := ⟨e, ie.sz, []⟩) hp (rows2 := rows2) (ys2 := news) (sp2 := (Builtin.zeroCells z.cells (cap - (0 + rows2.length))).toList) (k := cap) (by simpa using hge) hcm (by
        simp only [List.length_append, Array.length_toList, size_zeroCells, hzl, hnl]
        rw [← Nat.add_mul]
        congr 1
        omega) hne hr2 hc2 (by simpa using hs2)
    have e2 : (([] : List Value) ++ news).toArray ++ Builtin.zeroCells z.cells (cap - (0 + rows2.length)) = (news ++ (Builtin.zeroCells z.cells (cap - (0 + rows2.length))).toList).toArray := by
      apply Array.toList_inj.1; simp
    rw [e2] at hrun
    simp only [List.nil_append] at k1
    refine ⟨_, γ', κ', _, qa1 ho (by rw [hA]; exact hrun), k1, ?_⟩
    rw [Nat.zero_add]
    refine .os _ _ ⟨e, ie.sz, rows2⟩ _ _ _ ?_ (Nat.le_refl _) fun _ => ⟨?_, rfl, k3.symm⟩
    · show (s.hp.set p _)[p]? = _
      rw [List.getElem?_set_self hid]
    · rw [show (St.mm ⟨s.env, s.hp.set p ⟨e, ie.sz, rows2⟩⟩ C γ' κ' _).γ p = γ' p from rfl, k2]; rfl
theorem yb7 (p : Nat) (hT : TsOK C.P T) (hw : awant l s o = some true) (hd : dok C.nt o.dst = true) {x y : Operand} {t tx e : TypeId} (ho : o.op = .call ⟨.builtin .append, #[x, y], #[t, tx]⟩) {i ie : TI} (hi : look T t = some i) (hk : i.kd = .sl e) (hie : look T e = some ie) (hpos : 0 < ie.sz) (hx : s.ev x = some .nils)
    {sz : Nat} (hp : nth s.hp p = some ⟨e, sz, []⟩) (hsz : sz = ie.sz) {rows2 : List (List AV)} (hne : rows2 ≠ []) (hsrc : ∀ s', Loc l s s' o [p] → SrcA C s' ie tx y rows2) (hbound : rows2.length * ie.bytes ≤ 140737488355328) (h63 : rows2.length ≤ 9223372036854775807) :
    LS C l s o (mkFx l s o (.blk p ⟨e, sz, rows2⟩ (.os p rows2.length)) [p]) :=
  LS.blk [p] hw fun s' hl => by
    have hxm : x ∈ o.op.operands.toList := by rw [ho]; simp [Op.operands, Call.operands]
    exact ybz p hT hd ho hi hk hie hpos ((hl.ev x hxm).trans hx) ((hl.xb p (by simp)).trans hp) hsz hne (hsrc s' hl) hbound h63
end
theorem qgb (f : List Node) (h : Int) (hf : Fit f) (hh : inR f h) : GenC Tryz.prog 52 [⟨44, 16, f.map rowS⟩] [.agg [.os 0 f.length], iav h] (.tup [(nodeAt f h).av, bav true]) [⟨44, 16, f.map rowS⟩] := by
  have hl := hf.len
  have hR : (f.map rowS).length = f.length := List.length_map _
  have h1 := hh.1
  have h2 := hh.2
  rw [qx hh]
  refine yah tabs Tryz.func52 22 [.cell 4 44, .tmp 5] rfl rfl rfl rfl rfl ?_; intro w0 X γ κ
  (repeat' (first | ((with_reducible show AL _ _ _ _ _); first | (refine yf tabs rfl ?_; try dsimp only [len, List.nil_append, List.cons_append]) | refine yae rfl (yau (b := ⟨44, 16, f.map rowS⟩) tabs rfl rfl rfl rfl rfl rfl hR.symm) rfl ?_ | (refine AL.op rfl (yj rfl rfl rfl rfl rfl (by omega) (by omega)) ?_) | refine yae rfl (yan (b := ⟨44, 16, f.map rowS⟩) tabs rfl rfl rfl rfl rfl rfl rfl rfl hR.symm rfl (by omega) (by omega)) rfl ?_ | refine yae rfl (ya8 (i := ti44) (g := rowS) (xs := f) (v := (atI f (h - 1)).av) tabs rfl rfl rfl rfl rfl rfl (by omega) (by omega) rfl) rfl ?_ | refine yn ?_ | (refine yq rfl rfl rfl (fun hc => ?_) (fun hc => ?_) <;> (fail_if_success (exact absurd hc (by decide))) <;> (try simp only [hsx] at hc) <;> (try first | omega | contradiction | (simp [qa] at hc; done))) | (refine AL.op rfl (yj rfl rfl rfl rfl rfl (by omega) (by omega)) ?_) | (refine AL.op rfl (ye tabs rfl rfl rfl rfl rfl rfl rfl (fun _ => rfl) (by decide) (by omega) (by omega)) ?_)) | refine ym ?_ | refine ya ?_ | refine yb ?_ | refine yg ?_ | refine yi rfl ?_ | refine yh rfl ?_ | (refine yk rfl (fun hc => ?_) (fun hc => ?_) <;> (try simp only [hsx] at hc) <;> (try first | omega | contradiction | (simp [qa] at hc; done))) | refine yo ?_ | refine yc ?_))
  all_goals first
    | (exfalso; omega)
    | (refine yal 1 rfl rfl rfl rfl ?_ (by simp [cxG])
       simp only [qax]
       exact qb _ _)
theorem qm8 (f : List Node) (hf : Fit f) (hpos : 0 < f.length) : GenC Tryz.prog 11 [⟨44, 16, []⟩] [fav f] (.agg [.os 0 f.length]) [⟨44, 16, f.map rowS⟩] := by
  have hl := hf.len
  have hm : (List.map Node.iv f).length = f.length := List.length_map _
  refine yah tabs Tryz.func11 23 [.cell 2 24] rfl rfl rfl rfl rfl ?_; intro w0 X γ κ
  (repeat' (first | ((with_reducible show AL _ _ _ _ _); first | (refine yf tabs rfl ?_; try dsimp only [len, List.nil_append, List.cons_append]) | refine yn ?_ | (refine AL.op rfl (yj rfl rfl rfl rfl rfl (by omega) (by omega)) ?_) | (refine AL.op rfl (ye tabs rfl rfl rfl rfl rfl rfl rfl (fun _ => rfl) (by decide) (by omega) (by omega)) ?_)) | ((with_reducible show DQ _ _ _ _ _ _); first | refine DQ.stepc (LS.val tabs rfl rfl rfl) rfl rfl rfl rfl rfl ?_ | refine DQ.stepc (yu rfl rfl) rfl rfl rfl rfl rfl ?_ | refine DQ.nilM (by kernel_rfl) ?_ | refine DQ.stepc (yad rfl rfl rfl rfl rfl rfl (by omega) (by omega)) rfl rfl rfl rfl rfl ?_ | refine DQ.stepc (yw tabs rfl rfl rfl rfl rfl rfl rfl rfl (fun _ => rfl) (by decide) (by omega) (by omega)) rfl rfl rfl rfl rfl ?_) | fail | refine ym ?_ | refine ya ?_ | refine yb ?_ | refine yg ?_ | refine AW.block ?_ | refine yy ?_ | refine yi rfl ?_ | refine yh rfl ?_ | (refine yk rfl (fun hc => ?_) (fun hc => ?_) <;> (try simp only [hsx] at hc) <;> (try first | omega | contradiction | (simp [qa] at hc; done))) | refine yo ?_ | refine yaa ?_ | refine yc ?_ | refine yt ?_ | refine yab ?_ | refine yx ?_ | refine InB.off rfl ?_ | refine yaf ?_ | refine yac ?_ | refine yr mixed (by kernel_rfl) ?_))
  refine yao (α := Bool × Int) (fun y => ⟨[(2, .ptr 2 1 0 0), (3, .ptr 3 1 0 0), (8, .imm (.sl (f.map Node.iv))), (9, iav (List.map Node.iv f).length), (10, iav y.2)], [⟨44, 16, (f.take y.2.toNat).map rowS⟩, ⟨24, 1, [[.imm (.sl (f.map Node.iv))]]⟩, ⟨24, 1, [[.nils]]⟩, ⟨24, 1, [[match y.1 with
      | false => .nils
      | true => .os 0 (f.take y.2.toNat).length]]⟩]⟩) (fun y => 0 ≤ y.2 ∧ y.2 ≤ f.length ∧ (y.1 = false → y.2 = 0)) (fun y => (f.length - y.2).toNat) (false, 0) (yag 4 rfl (by repeat' (first | exact trivial | refine ⟨rfl, ?_⟩)) rfl (by simp only [qax]; exact ⟨qb _ _, rfl, rfl, rfl⟩) (by simp [cxG])) ⟨by simp, by simp, fun _ => rfl⟩ ?_
  rintro ⟨_ | _, i⟩ ⟨h0, h1, h2⟩
  · obtain rfl : i = 0 := h2 rfl
    have hi : (0 : Int) < f.length := by omega
    have e : (f.take (0 + 1 : Int).toNat).map rowS = [rowS (atI f 0)] := by rw [qg (Int.le_refl 0) hi]; rfl
    have e2 : (f.take (0 + 1 : Int).toNat).length = 1 := by rw [qg (Int.le_refl 0) hi]; rfl
    refine AW.reserve 44 16 rfl ?_
    (repeat' (first | ((with_reducible show AL _ _ _ _ _); first | (refine yf tabs rfl ?_; try dsimp only [len, List.nil_append, List.cons_append]) | refine yn ?_ | (refine AL.op rfl (yj rfl rfl rfl rfl rfl (by omega) (by omega)) ?_) | (refine AL.op rfl (ye tabs rfl rfl rfl rfl rfl rfl rfl (fun _ => rfl) (by decide) (by omega) (by omega)) ?_)) | ((with_reducible show DQ _ _ _ _ _ _); first | refine DQ.stepc (yai rfl rfl rfl rfl rfl (qa5 (atI f 0) (hf.atI 0 (by omega) (by omega))) rfl) rfl rfl rfl rfl rfl ?_ | refine DQ.stepc (ya9 4 tabs rfl rfl rfl rfl rfl rfl rfl rfl rfl rfl rfl rfl) rfl rfl rfl rfl rfl ?_ | refine DQ.stepc (yb7 0 (ie := ti44) (sz := 16) (rows2 := [rowS (atI f 0)]) tabs rfl rfl rfl rfl rfl rfl (by decide) rfl rfl rfl (by simp) (fun s' hl => hl.srcOwn (by simp [Op.operands, Call.operands]) tabs rfl rfl (b := ⟨44, 16, [rowS (atI f 0)]⟩) rfl rfl rfl rfl (by simp [rowS, Node.iv, ti44]) (by simp [rowS, Node.iv, AV.cell])) (by simp [ti44]) (by simp)) rfl rfl rfl rfl rfl ?_ | refine DQ.stepc (LS.store (i := ti22) (v := .os 0 1) (ty := 24) (sz := 1) (rows := [[.nils]]) (r := [.nils]) tabs rfl rfl rfl rfl rfl rfl rfl rfl rfl rfl (Nat.le_of_ble_eq_true rfl) rfl) rfl rfl rfl rfl rfl ?_ | refine DQ.stepc (LS.val tabs rfl rfl rfl) rfl rfl rfl rfl rfl ?_ | refine DQ.stepc (yu rfl rfl) rfl rfl rfl rfl rfl ?_ | refine DQ.nilM (by kernel_rfl) ?_ | refine DQ.stepc (yad rfl rfl rfl rfl rfl rfl (by omega) (by omega)) rfl rfl rfl rfl rfl ?_ | refine DQ.stepc (yw tabs rfl rfl rfl rfl rfl rfl rfl rfl (fun _ => rfl) (by decide) (by omega) (by omega)) rfl rfl rfl rfl rfl ?_) | (exfalso; omega) | refine ym ?_ | refine ya ?_ | refine yb ?_ | refine yg ?_ | refine AW.block ?_ | refine yy ?_ | refine yi rfl ?_ | refine yh rfl ?_ | (refine yk rfl (fun hc => ?_) (fun hc => ?_) <;> (try simp only [hsx] at hc) <;> (try first | omega | contradiction | (simp [qa] at hc; done))) | refine yo ?_ | refine yaa ?_ | refine yc ?_ | refine yt ?_ | refine yab ?_ | refine yx ?_ | refine InB.off rfl ?_ | refine yaf ?_ | refine yac ?_ | refine yr mixed (by kernel_rfl) ?_))
    all_goals first
      | (exfalso; omega)
      | exact yak (true, 0 + 1) (yag 4 (by simp only [e, e2]; rfl) (by repeat' (first | exact trivial | refine ⟨rfl, ?_⟩)) rfl (by simp only [qax]; exact ⟨qb _ _, rfl, rfl, rfl⟩) (by simp [cxG])) ⟨by simp, by simp only; omega, fun h => (by cases h)⟩ (by simp only; omega)
  · simp only at h0 h1
    refine AW.reserve 44 16 rfl ?_
    (repeat' (first | ((with_reducible show AL _ _ _ _ _); first | (refine yf tabs rfl ?_; try dsimp only [len, List.nil_append, List.cons_append]) | refine yn ?_ | (refine AL.op rfl (yj rfl rfl rfl rfl rfl (by omega) (by omega)) ?_) | (refine AL.op rfl (ye tabs rfl rfl rfl rfl rfl rfl rfl (fun _ => rfl) (by decide) (by omega) (by omega)) ?_)) | ((with_reducible show DQ _ _ _ _ _ _); first | refine DQ.stepc (yai rfl rfl rfl rfl rfl (qa5 (atI f i) (hf.atI i (by omega) (by omega))) rfl) rfl rfl rfl rfl rfl ?_ | refine DQ.stepc (ya9 4 tabs rfl rfl rfl rfl rfl rfl rfl rfl rfl rfl rfl rfl) rfl rfl rfl rfl rfl ?_ | refine DQ.stepc (yaw (ie := ti44) (ty := 44) (sz := 16) (rows := (f.take i.toNat).map rowS) (rows2 := [rowS (atI f i)]) tabs rfl rfl rfl rfl rfl rfl rfl rfl (List.length_map _).symm rfl rfl (fun s' hl => hl.srcOwn (by simp [Op.operands, Call.operands]) tabs rfl rfl (b := ⟨44, 16, [rowS (atI f i)]⟩) rfl rfl rfl rfl (by simp [rowS, Node.iv, ti44]) (by simp [rowS, Node.iv, AV.cell])) (by simp [ti44]; omega) (by simp; omega)) rfl rfl rfl rfl rfl ?_ | refine DQ.stepc (LS.store (i := ti22) (v := .os 0 ((f.take i.toNat).length + 1)) (ty := 24) (sz := 1) (rows := [[.os 0 (f.take i.toNat).length]]) (r := [.os 0 (f.take i.toNat).length]) tabs rfl rfl rfl rfl rfl rfl rfl rfl rfl rfl (Nat.le_of_ble_eq_true rfl) rfl) rfl rfl rfl rfl rfl ?_ | refine DQ.stepc (LS.val tabs rfl rfl rfl) rfl rfl rfl rfl rfl ?_ | refine DQ.stepc (yu rfl rfl) rfl rfl rfl rfl rfl ?_ | refine DQ.nilM (by kernel_rfl) ?_ | refine DQ.stepc (yad rfl rfl rfl rfl rfl rfl (by omega) (by omega)) rfl rfl rfl rfl rfl ?_ | refine DQ.stepc (yw tabs rfl rfl rfl rfl rfl rfl rfl rfl (fun _ => rfl) (by decide) (by omega) (by omega)) rfl rfl rfl rfl rfl ?_) | refine ym ?_ | refine ya ?_ | refine yb ?_ | refine yg ?_ | refine AW.block ?_ | refine yy ?_ | refine yi rfl ?_ | refine yh rfl ?_ | (refine yk rfl (fun hc => ?_) (fun hc => ?_) <;> (try simp only [hsx] at hc) <;> (try first | omega | contradiction | (simp [qa] at hc; done))) | refine yo ?_ | refine yaa ?_ | refine yc ?_ | refine yt ?_ | refine yab ?_ | refine yx ?_ | refine InB.off rfl ?_ | refine yaf ?_ | refine yac ?_ | refine yr mixed (by kernel_rfl) ?_))
    · have hi : i < f.length := by assumption
      have e : (f.take (i + 1).toNat).map rowS = (f.take i.toNat).map rowS ++ [rowS (atI f i)] := by rw [qg h0 hi, List.map_append]; rfl
      have e2 : (f.take (i + 1).toNat).length = (f.take i.toNat).length + 1 := by rw [qg h0 hi]; simp
      exact yak (true, i + 1) (yag 4 (by simp only [e, e2]; rfl) (by repeat' (first | exact trivial | refine ⟨rfl, ?_⟩)) rfl (by simp only [qax]; exact ⟨qb _ _, rfl, rfl, rfl⟩) (by simp [cxG])) ⟨by simp only; omega, by simp only; omega, fun h => (by cases h)⟩ (by simp only; omega)
    · refine yal 1 rfl (by rw [qo hc]; rfl) (by rw [qo hc]; rfl) rfl ?_ (by simp [cxG])
      simp only [qax]
      exact qb _ _
section
variable {C : Cx} {s : St} {γ : Nat → Option Nat} {κ : Nat → Nat} {a : Act} {W : World}
theorem Conc.swap {id : Nat} {b : Blk} (hC : Conc C s γ κ a W) (hb : s.hp[id]? = some b) {g' k' : Nat} {rows' : List (List AV)} {ys' sp' : List Value} {W' : World}
    (hW : W'.heap[g']? = some (.cells (ys' ++ sp').toArray b.ty (0, 0))) (hfar : ∀ x, x ≠ g' → x < W.heap.size → W'.heap[x]? = W.heap[x]?) (hsize : W.heap.size ≤ W'.heap.size)
    (hos : W'.os = W.os) (htape : W'.tape = W.tape) (hout : W'.output = W.output) (hg : γ id = some g' ∨ W.heap.size ≤ g')
    (hsame : b.rows.length = rows'.length → γ id = some g' ∧ κ id = k') (hrl : b.rows.length ≤ rows'.length) (hr : ∀ r ∈ rows', r.length = b.sz) (hc : ∀ c ∈ rows'.flatten, c.cell = true)
    (hcap : rows'.length ≤ k') (hcapm : k' ≤ maxLen) (hlen : (ys' ++ sp').length = k' * b.sz) (hrep : All2 (RepA (s.mm C γ κ W)) rows'.flatten ys') :
    ∃ γ' κ', Conc C ⟨s.env, s.hp.set id ⟨b.ty, b.sz, rows'⟩⟩ γ' κ' a W' ∧ γ' id = some g' ∧ κ' id = k' := by
  have hid : id < s.hp.length := (List.getElem?_eq_some_iff.1 hb).1
  have hB := hC.blk id b hb
  let γ' : Nat → Option Nat := fun i => if i = id then some g' else γ i
  let κ' : Nat → Nat := fun i => if i = id then k' else κ i
  have hγ : ∀ i, i ≠ id → γ' i = γ i := fun i hi => by simp [γ', hi]
  have hκ : ∀ i, i ≠ id → κ' i = κ i := fun i hi => by simp [κ', hi]
  have hγn : γ' id = some g' := by simp [γ']
  have hκn : κ' id = k' := by simp [κ']
  let b' : Blk := ⟨b.ty, b.sz, rows'⟩
  have hgl : ∀ i g, i < s.hp.length → γ i = some g → g < W.heap.size := by
    intro i g hi hg
    obtain ⟨bb, hbb⟩ : ∃ bb, s.hp[i]? = some bb := ⟨_, List.getElem?_eq_getElem hi⟩
    obtain ⟨ys, sp, h2, _⟩ := hC.mem hbb hg
    exact qa8 h2
  have hother : ∀ i g, i < s.hp.length → i ≠ id → γ i = some g → g ≠ g' := by
    intro i g hi hne hgi e
    subst e
    rcases hg with h | h
    · exact hne (hC.inj i id g hi hid hgi h)
    · have := hgl i g hi hgi; omega
  have hnX : ¬ C.X g' ∧ (C.w0.heap.size ≤ g' ∨ C.may g') := by
    rcases hg with h | h
    · exact hC.own id g' hid h
    · refine ⟨fun hX => ?_, .inl (Nat.le_trans hC.hsize h)⟩
      have := hC.xlt _ hX
      have := hC.hsize
      omega
  have hKeep : Keep (s.mm C γ κ W) (St.mm ⟨s.env, s.hp.set id b'⟩ C γ' κ' W') := by
    refine ⟨fun x hx ⟨o, ho⟩ => ?_, fun id' bb hbb => ?_⟩
    · have hxs : x < W.heap.size := qa8 (W := W) ho
      have hxg : x ≠ g' := by
        intro e
        subst e
        rcases hg with h | h
        · exact hx (.inr ⟨id, hid, h⟩)
        · omega
      refine ⟨hfar x hxg hxs, ?_⟩
      show ¬ nset C.X γ' (s.hp.set id b').length x
      rintro (h | ⟨i, hi, hgi⟩)
      · exact hx (.inl h)
      · by_cases e : i = id
        · subst e; rw [hγn] at hgi; cases hgi; exact hxg rfl
        · rw [hγ i e] at hgi
          exact hx (.inr ⟨i, by simpa using hi, hgi⟩)
    · show ∃ b'', (s.hp.set id b')[id']? = some b'' ∧ _
      have hbb' : s.hp[id']? = some bb := hbb
      by_cases e : id = id'
      · subst e
        rw [hb] at hbb'; cases hbb'
        refine ⟨b', by rw [List.getElem?_set_self hid], rfl, hrl, fun h => ?_⟩
        obtain ⟨h1, h2⟩ := hsame h
        exact ⟨hγn.trans h1.symm, hκn.trans h2.symm⟩
      · exact ⟨bb, by rw [List.getElem?_set_ne e]; exact hbb', rfl, Nat.le_refl _, fun _ => ⟨hγ id' fun h => e h.symm, hκ id' fun h => e h.symm⟩⟩
  refine ⟨γ', κ', ⟨hC.size, hC.defers, ?_, ?_, ?_, ?_, hC.xlt, ?_, hos.trans hC.hos, htape.trans hC.htape, hout.trans hC.hout, Nat.le_trans hC.hsize hsize, hC.lent.keep hKeep⟩, hγn, hκn⟩
  · intro t v h
    obtain ⟨x, h1, h2⟩ := hC.env t v h
    exact ⟨x, h1, h2.keep hKeep⟩
  · intro id' bb hbb
    have hbb' : (s.hp.set id b')[id']? = some bb := hbb
    by_cases e : id = id'
    · subst e
      rw [List.getElem?_set_self hid] at hbb'
      obtain rfl := Option.some.inj hbb'
      refine ⟨hB.pos, hr, hc, ?_, ?_, .inr ⟨g', ys', sp', hγn, hW, ?_, hrep.mono fun _ _ h => h.keep hKeep⟩⟩
      · show rows'.length ≤ κ' id
        rw [hκn]; exact hcap
      · show κ' id ≤ _
        rw [hκn]; exact hcapm
      · show _ = κ' id * _
        rw [hκn]; exact hlen
    · rw [List.getElem?_set_ne e] at hbb'
      have hi' := (List.getElem?_eq_some_iff.1 hbb').1
      have ho := hC.blk id' bb hbb'
      refine ⟨ho.pos, ho.rows, ho.cell, ?_, ?_, ?_⟩
      · show _ ≤ κ' id'
        rw [hκ id' fun h => e h.symm]; exact ho.cap
      · show κ' id' ≤ _
        rw [hκ id' fun h => e h.symm]; exact ho.capm
      rcases ho.mem with ⟨h1, h2, h3⟩ | ⟨g2, ys2, sp2, h1, h2, h3, h4⟩
      · exact .inl ⟨by show γ' id' = none; rw [hγ id' fun h => e h.symm]; exact h1, h2, by show κ' id' = 0; rw [hκ id' fun h => e h.symm]; exact h3⟩
      · refine .inr ⟨g2, ys2, sp2, by show γ' id' = _; rw [hγ id' fun h => e h.symm]; exact h1, ?_, by show _ = κ' id' * _; rw [hκ id' fun h => e h.symm]; exact h3, h4.mono fun _ _ h => h.keep hKeep⟩
        exact (hfar g2 (hother id' g2 hi' (fun h => e h.symm) h1) (qa8 (W := W) h2)).trans h2
  · intro i j g hi hj h1 h2
    have hi' : i < s.hp.length := by simpa using hi
    have hj' : j < s.hp.length := by simpa using hj
    by_cases e1 : i = id <;> by_cases e2 : j = id
    · rw [e1, e2]
    · rw [e1, hγn] at h1; cases h1
      rw [hγ j e2] at h2
      exact absurd rfl (hother j _ hj' e2 h2)
    · rw [e2, hγn] at h2; cases h2
      rw [hγ i e1] at h1
      exact absurd rfl (hother i _ hi' e1 h1)
    · rw [hγ i e1] at h1; rw [hγ j e2] at h2
      exact hC.inj i j g hi' hj' h1 h2
  · intro i g hi hgi
    have hi' : i < s.hp.length := by simpa using hi
    by_cases e1 : i = id
    · rw [e1, hγn] at hgi; cases hgi; exact hnX
    · rw [hγ i e1] at hgi
      exact hC.own i g hi' hgi
  · intro x hx hl
    have hxs : x < W.heap.size := Nat.lt_of_lt_of_le hx hC.hsize
    have hne : x ≠ g' := by
      intro e
      rcases hnX.2 with h | h
      · omega
      · exact hl (by rw [e]; exact h)
    exact (hfar x hne hxs).trans (hC.old x hx hl)
theorem qm9 {M : Mm} {l : List (List IV)} : ∀ {xs : List Value}, All2 (RepA M) (l.map (·.map .imm)).flatten xs → All2 (RepI M.W M.N) l.flatten xs := by
  intro xs h
  have e : (l.map (·.map AV.imm)).flatten = l.flatten.map AV.imm := by simp [List.map_flatten]
  rw [e] at h
  clear e
  generalize l.flatten = m at h
  induction m generalizing xs with
  | nil => cases h; exact .nil
  | cons v m ih =>
    cases h with
    | cons h1 h2 => cases h1 with | imm _ _ h1 => exact .cons h1 (ih h2)
theorem qi2 {α : Type} {rows : List (List α)} {sz : Nat} (hr : ∀ r ∈ rows, r.length = sz) : ∀ n, (rows.take n).flatten = rows.flatten.take (n * sz) := by
  induction rows with
  | nil => intro n; simp
  | cons r l ih =>
    intro n
    cases n with
    | zero => simp
    | succ n =>
      have h1 := hr r (by simp)
      rw [List.take_succ_cons, List.flatten_cons, List.flatten_cons, ih fun r h => hr r (by simp [h]), Nat.succ_mul, List.take_append, h1, show List.take (n * sz + sz) r = r from List.take_of_length_le (by omega), Nat.add_sub_cancel]
theorem qi3 {α : Type} {rows : List (List α)} {sz : Nat} (hr : ∀ r ∈ rows, r.length = sz) : ∀ n, (rows.drop n).flatten = rows.flatten.drop (n * sz) := by
  induction rows with
  | nil => intro n; simp
  | cons r l ih =>
    intro n
    cases n with
    | zero => simp
    | succ n =>
      have h1 := hr r (by simp)
      rw [List.drop_succ_cons, List.flatten_cons, ih fun r h => hr r (by simp [h]), Nat.succ_mul, List.drop_append, h1, show List.drop (n * sz + sz) r = [] from List.drop_eq_nil_of_le (by omega), Nat.add_sub_cancel, List.nil_append]
theorem Fz.sub {id ver off n : Nat} {b : Blk} (hb : nth s.hp id = some b) (hver : ver = b.rows.length) {all : List (List IV)} (hr : b.rows = all.map (·.map .imm)) : Fz C s (.sub id ver off n) (.imm (.sl ((all.drop off).take n))) := by
  intro γ κ a W x hC hx
  rw [qm] at hb
  have hB := hC.blk id b hb
  cases hx with
  | sub _ _ _ _ b' A c hb' hv hx hc =>
    have hb'' : s.hp[id]? = some b' := hb'
    rw [hb] at hb''
    cases hb''
    obtain ⟨h1, h2⟩ := hx hver
    rcases Nat.eq_zero_or_pos n with h0 | h0
    · subst h0
      exact .imm _ _ (.nil _ _)
    · obtain ⟨g, hg, rfl⟩ := h2 h0
      obtain ⟨ys, sp, hmem, hlen, hys⟩ := hC.mem hb hg
      have hal : all.length = ver := by rw [hver, hr, List.length_map]
      have hrl : ∀ r ∈ all, r.length = b.sz := by
        intro r hr'
        have := hB.rows (r.map .imm) (by rw [hr]; exact List.mem_map.2 ⟨r, hr', rfl⟩)
        simpa using this
      have hl : ((all.drop off).take n).length = n := by rw [List.length_take, List.length_drop]; omega
      have hy := qm9 (by rw [hr] at hys; exact hys)
      have hyl : ys.length = all.length * b.sz := by rw [← hy.length, q5 hrl]
      refine .imm _ _ (.sl _ ⟨g, off * b.sz, none⟩ n _ b.sz ((ys.drop (off * b.sz)).take (n * b.sz)) (fun e => by rw [e] at hl; simp at hl; omega) hB.pos hl.symm hc ?_ (fun r h => hrl r (List.mem_of_mem_drop (List.mem_of_mem_take h))) ?_ ?_)
      · have hid : id < s.hp.length := (List.getElem?_eq_some_iff.1 hb).1
        exact (hC.own id g hid hg).1
      · intro j y hj
        have e : (⟨g, off * b.sz, none⟩ : Addr).add j = ⟨g, off * b.sz + j, none⟩ := by unfold Addr.add; split <;> simp_all
        show W.cell? _ = _
        rw [e, q7 hmem]
        simp only [List.getElem?_toArray]
        rw [List.getElem?_take] at hj
        split at hj
        · rw [List.getElem?_drop] at hj
          rw [List.getElem?_append_left (List.getElem?_eq_some_iff.1 hj).1]; exact hj
        · cases hj
      · rw [qi2 (fun r h => hrl r (List.mem_of_mem_drop h)), qi3 hrl]
        refine ((hy.drop _).take _).mono fun _ _ h => h.keep fun b hb _ => ⟨rfl, fun hx => hb (.inl hx)⟩
end
open Go.RowKit Go.Lib
theorem cell_shape {w : World} {a : Addr} {v : Value} (h : w.cell? a = some v) : ∃ t k, w.shape? a.block = some (t, k) ∧ k ≠ 0 ∧ a.spot = none := by
  unfold World.cell? at h
  split at h
  · rename_i c e f hb
    split at h
    · cases h
    · rename_i hs
      refine ⟨e, c.size, ?_, ?_, ?_⟩
      · unfold World.shape?; rw [hb]
      · intro e0
        rw [Array.getElem?_eq_none (by omega)] at h
        cases h
      · cases hq : a.spot with
        | none => rfl
        | some x => rw [hq] at hs; simp at hs
  · cases h
theorem qbe {P : Program} (w : World) (tS tR e : TypeId) (ht : P.underlying tS = some (.slice e)) (size : Nat) (hz : ∀ w, (Go.sizeOf e).run P w = .ok size w)
    (a b : Addr) (la ca lb cb : Nat) (hne : a.block ≠ b.block) (tA tB : TypeId) (kA kB : Nat)
    (hsa : w.shape? a.block = some (tA, kA)) (hsb : w.shape? b.block = some (tB, kB)) (hkA : kA ≠ 0)
    (hfb : w.frozen? b = false) (hfe : w.frozen? { block := b.block, off := kB } = false) :
    (Extern.SlicesOverlaps.overlaps #[tS, tS] #[tR] #[.slice (some b) lb cb, .slice (some a) la ca]).run P w = .ok (.bool false) w ∧ (Extern.SlicesOverlaps.overlaps #[tS, tS] #[tR] #[.slice (some a) la ca, .slice (some b) lb cb]).run P w = .ok (.bool false) w := by
  have hnb : (a.block != b.block) = true := by simpa using hne
  have hnb' : (a.block == b.block) = false := by simpa using hne
  have hnc : (b.block != a.block) = true := by simpa using (Ne.symm hne)
  have hnc' : (b.block == a.block) = false := by simpa using (Ne.symm hne)
  constructor
  · change Sem.run P (α := Value) (do
      let some t := (#[tS, tS] : Array TypeId)[0]? | stuck "slices.overlaps: no parameter types"
      let .slice elem ← underlying t | stuck "slices.overlaps: slice type expected"
      let size ← sizeOf elem
      match (some b : Option Addr), (some a : Option Addr) with
      | some a, some b =>
        if lb = 0 ∨ la = 0 ∨ size = 0 then pure (Value.bool false)
        else if a.block != b.block && (← frozen a) && (← frozen b) then unsupported .addressObserved
        else do
          if a.block != b.block then do
            noView a; noView b
            if ← mayBeOne a b then return Value.bool ((← choose (.extern "sameAddr.stringBytes" 2)) == 1)
          pure (Value.bool (a.block == b.block && a.off < b.off + la * size && b.off < a.off + lb * size))
      | _, _ => pure (Value.bool false)) w = _
    by_cases h0 : lb = 0 ∨ la = 0 ∨ size = 0
    · simp [run_underlying ht, hz, h0]
    · cases kA with
      | zero => exact absurd rfl hkA
      | succ kA =>
        cases hfa : w.frozen? a <;> cases hga : w.frozen? { block := a.block, off := kA + 1 } <;>
        simp [run_underlying ht, hz, h0, hnb, hnb', hnc, hnc', frozen, noView, viewAt, mayBeOne, stringish, shape, Sem.run, hsa, hsb, hfb, hfe, hfa, hga]
  · change Sem.run P (α := Value) (do
      let some t := (#[tS, tS] : Array TypeId)[0]? | stuck "slices.overlaps: no parameter types"
      let .slice elem ← underlying t | stuck "slices.overlaps: slice type expected"
      let size ← sizeOf elem
      match (some a : Option Addr), (some b : Option Addr) with
      | some a, some b =>
        if la = 0 ∨ lb = 0 ∨ size = 0 then pure (Value.bool false)
        else if a.block != b.block && (← frozen a) && (← frozen b) then unsupported .addressObserved
        else do
          if a.block != b.block then do
            noView a; noView b
            if ← mayBeOne a b then return Value.bool ((← choose (.extern "sameAddr.stringBytes" 2)) == 1)
          pure (Value.bool (a.block == b.block && a.off < b.off + lb * size && b.off < a.off + la * size))
      | _, _ => pure (Value.bool false)) w = _
    by_cases h0 : la = 0 ∨ lb = 0 ∨ size = 0
    · simp [run_underlying ht, hz, h0]
    · cases kA with
      | zero => exact absurd rfl hkA
      | succ kA =>
        cases hfa : w.frozen? a <;> cases hga : w.frozen? { block := a.block, off := kA + 1 } <;>
        simp [run_underlying ht, hz, h0, hnb, hnb', hnc, hnc', frozen, noView, viewAt, mayBeOne, stringish, shape, Sem.run, hsa, hsb, hfb, hfe, hfa, hga]
def cK (K : IntKind) (x : Int) : List AV := [.imm (.int K x)]
theorem qcp {K : IntKind} (l : List Int) : ∀ r ∈ l.map (cK K), r.length = 1 := by
  intro r hr
  obtain ⟨x, _, rfl⟩ := List.mem_map.1 hr
  rfl
theorem qbt {K : IntKind} (l : List Int) : ∀ c ∈ (l.map (cK K)).flatten, c.cell = true := by
  intro c hc
  obtain ⟨r, hr, hc⟩ := List.mem_flatten.1 hc
  obtain ⟨x, _, rfl⟩ := List.mem_map.1 hr
  simp [cK] at hc
  subst hc; rfl
theorem qfn {M : Mm} (K : IntKind) : ∀ l : List Int, All2 (RepA M) (l.map (cK K)).flatten (l.map (Value.int K))
  | [] => .nil
  | x :: l => .cons (.imm _ _ (.int _ _)) (qfn K l)
theorem qgc {M : Mm} {K : IntKind} : ∀ {l : List Int} {ys : List Value}, All2 (RepA M) (l.map (cK K)).flatten ys → ys = l.map (Value.int K)
  | [], ys, h => by cases h; rfl
  | x :: l, ys, h => by
    cases h with
    | cons h1 h2 =>
      cases h1 with
      | imm _ _ h1 =>
        rw [h1.int_inv, qgc h2]; rfl
theorem splice2 {α : Type} (ys sp vs : List α) (i m : Nat) (hi : i ≤ ys.length) (hm : vs.length = m) (hr : m ≤ sp.length) :
    (((ys ++ sp).take (i + m) ++ ys.drop i ++ (ys ++ sp).drop (i + m + (ys.drop i).length)).take i ++ vs ++ ((ys ++ sp).take (i + m) ++ ys.drop i ++ (ys ++ sp).drop (i + m + (ys.drop i).length)).drop (i + m)) = (ys.take i ++ vs ++ ys.drop i) ++ sp.drop m := by
  have hl : ((ys ++ sp).take (i + m)).length = i + m := by simp only [List.length_take, List.length_append]; omega
  rw [List.append_assoc ((ys ++ sp).take (i + m)), List.take_append_of_le_length (by omega), List.take_take, Nat.min_eq_left (by omega), List.take_append_of_le_length hi, List.drop_left' hl, List.length_drop, show i + m + (ys.length - i) = ys.length + m by omega, List.drop_length_add_append]
  simp [List.append_assoc]
theorem splice3 {α : Type} (ys zs vs : List α) (i m : Nat) (hi : i ≤ ys.length) (hm : vs.length = m) (hr : ys.length + m ≤ i + zs.length) :
    ((((ys.take i ++ zs).take i ++ vs ++ (ys.take i ++ zs).drop (i + m)).take (i + m)) ++ ys.drop i ++ ((ys.take i ++ zs).take i ++ vs ++ (ys.take i ++ zs).drop (i + m)).drop (i + m + (ys.drop i).length)) = (ys.take i ++ vs ++ ys.drop i) ++ zs.drop (m + (ys.length - i)) := by
  have hl : (ys.take i).length = i := by simp only [List.length_take]; omega
  have hl2 : (ys.take i ++ vs).length = i + m := by simp only [List.length_append, hl, hm]
  rw [List.take_left' hl, List.take_left' hl2, List.drop_append, hl2]
  rw [show (ys.take i ++ vs).drop (i + m + (ys.drop i).length) = [] from List.drop_eq_nil_of_le (by rw [hl2]; omega), List.nil_append]
  rw [show (ys.take i ++ zs).drop (i + m) = zs.drop m from by rw [show i + m = (ys.take i).length + m by rw [hl], List.drop_length_add_append], List.drop_drop, List.length_drop]
  congr 2
  omega
theorem splice4 {α : Type} (ys sp vs rp : List α) (i m : Nat) (hi : i ≤ ys.length) (hm : vs.length = m) :
    (((ys ++ sp).take i ++ vs ++ (ys ++ sp).drop (i + m)).take (i + m) ++ rp ++ ((ys ++ sp).take i ++ vs ++ (ys ++ sp).drop (i + m)).drop (i + m + rp.length)) = (ys.take i ++ vs ++ rp) ++ (ys ++ sp).drop (i + m + rp.length) := by
  have hl : ((ys ++ sp).take i).length = i := by simp only [List.length_take, List.length_append]; omega
  have hl2 : ((ys ++ sp).take i ++ vs).length = i + m := by simp only [List.length_append, hl, hm]
  rw [List.take_left' hl2]
  rw [show ((ys ++ sp).take i ++ vs ++ (ys ++ sp).drop (i + m)).drop (i + m + rp.length) = ((ys ++ sp).drop (i + m)).drop rp.length from by
    rw [show i + m + rp.length = ((ys ++ sp).take i ++ vs).length + rp.length by rw [hl2], List.drop_length_add_append]]
  rw [List.drop_drop, List.take_append_of_le_length hi]
def repL (l v : List Int) (i : Nat) : List Int := l.take i ++ v ++ List.replicate (l.length - (i + v.length)) 0
end Go.Proofs.YtmhejcnaanocpaaGreat.A
