/- The abstract walk, part S: calls of functions that are lent own blocks. -/
import Derived.Test.YtjjdabihnmilgaaGreatXRTGrpAF
import Derived.Laws.StructEq
namespace Go.Proofs.YtjjdabihnmilgaaGreat.A
open Go.RowKit
set_option linter.unusedVariables false
set_option linter.unusedSimpArgs false
def rho (m : List Nat) (n : Nat) (i : Nat) : Nat :=
  match nth m i with
  | some j => j
  | none => n + (i - len m)
def setAll : List Blk → List Nat → List Blk → List Blk
  | h, i :: m, b :: r => setAll (h.set i b) m r
  | h, _, _ => h
def nodupB : List Nat → Bool
  | [] => true
  | x :: l => (!memB x l) && nodupB l
theorem setAll_len : ∀ (m : List Nat) (h : List Blk) (r : List Blk), (setAll h m r).length = h.length
  | [], h, r => by simp [setAll]
  | i :: m, h, [] => by simp [setAll]
  | i :: m, h, b :: r => by simp [setAll, setAll_len m]
theorem setAll_other : ∀ (m : List Nat) (h : List Blk) (r : List Blk) (j : Nat), j ∉ m → (setAll h m r)[j]? = h[j]?
  | [], h, r, j, _ => by simp [setAll]
  | i :: m, h, [], j, _ => by simp [setAll]
  | i :: m, h, b :: r, j, hj => by
    simp only [List.mem_cons, not_or] at hj
    rw [setAll, setAll_other m _ r j hj.2, List.getElem?_set_ne (fun e => hj.1 e.symm)]
theorem setAll_at : ∀ (m : List Nat) (h : List Blk) (r : List Blk) (i j : Nat) (b : Blk), nodupB m = true → m[i]? = some j → r[i]? = some b → j < h.length → (setAll h m r)[j]? = some b
  | [], h, r, i, j, b, _, hm, _, _ => by simp at hm
  | x :: m, h, [], i, j, b, _, _, hr, _ => by simp at hr
  | x :: m, h, c :: r, i, j, b, hn, hm, hr, hj => by
    simp only [nodupB, Bool.and_eq_true, Bool.not_eq_true'] at hn
    rw [setAll]
    cases i with
    | zero =>
      simp at hm hr
      subst hm hr
      rw [setAll_other m _ r x (fun hx => by rw [(memB_iff x m).2 hx] at hn; cases hn.1), List.getElem?_set_self hj]
    | succ i => exact setAll_at m _ r i j b hn.2 (by simpa using hm) (by simpa using hr) (by simpa using hj)
theorem nodup_inj : ∀ {m : List Nat}, nodupB m = true → ∀ {i i' j : Nat}, m[i]? = some j → m[i']? = some j → i = i'
  | [], _, i, i', j, h, _ => by simp at h
  | x :: m, hn, i, i', j, h, h' => by
    simp only [nodupB, Bool.and_eq_true, Bool.not_eq_true'] at hn
    have hx : x ∉ m := fun hx => by rw [(memB_iff x m).2 hx] at hn; cases hn.1
    cases i with
    | zero => cases i' with
      | zero => rfl
      | succ i' => simp at h h'; subst h; exact absurd (List.mem_of_getElem? h') hx
    | succ i => cases i' with
      | zero => simp at h h'; subst h'; exact absurd (List.mem_of_getElem? h) hx
      | succ i' => simp at h h'; exact congrArg _ (nodup_inj hn.2 h h')
section
variable {C : Cx} {s : St} {o : Oper} {T : List (Nat × TI)}
theorem OpOK.callG {fo : Operand} {args : Array Operand} {ats : Array TypeId} (ho : o.op = .call ⟨.value fo, args, ats⟩) (hd : dok C.nt o.dst = true) {f : Nat} {caps : List AV} (hfo : s.ev fo = some (aFn f caps)) {vs : List AV} (hx : evs s args.toList = some vs)
    (m : List Nat) {hp0 : List Blk} {asx : List AV} {r : AV} {hp1 : List Blk} (hc : GenC C.P f hp0 asx r hp1)
    (hargs : vs ++ caps = asx.map (ren (rho m s.hp.length))) (hhp : m.map (nth s.hp) = hp0.map (fun b => some (renB (rho m s.hp.length) b))) (hnd : nodupB m = true)
    (hs0 : asx.all (AV.sc (len m)) = true) (hs1 : hp0.all (fun b => b.rows.all fun r => r.all (AV.sc1 (len m))) = true) (hs2 : r.sc (len hp1) = true) (hs3 : hp1.all (fun b => b.rows.all fun r => r.all (AV.sc1 (len hp1))) = true) (hge : len m ≤ len hp1) :
    OpOK C s o (St.put ⟨s.env, setAll s.hp m (hp1.map (renB (rho m s.hp.length))) ++ (hp1.drop (len m)).map (renB (rho m s.hp.length))⟩ o.dst (ren (rho m s.hp.length) r)) := by
  intro γ κ a W hC K Q hK
  obtain ⟨hcl, hcall⟩ := hc
  simp only [len_eq] at hs0 hs1 hs2 hs3 hge
  have hml : m.length = hp0.length := by simpa using congrArg List.length hhp
  have hmi : ∀ {i : Nat} {j : Nat}, m[i]? = some j → ∃ b0, hp0[i]? = some b0 ∧ s.hp[j]? = some (renB (rho m s.hp.length) b0) ∧ j < s.hp.length := by
    intro i j hij
    have := congrArg (fun l => l[i]?) hhp
    simp only [List.getElem?_map, hij, Option.map_some] at this
    cases hb : hp0[i]? with
    | none => rw [hb] at this; cases this
    | some b0 =>
      rw [hb] at this
      have := Option.some.inj this
      rw [nth_eq] at this
      exact ⟨b0, rfl, this, (List.getElem?_eq_some_iff.1 this).1⟩
  have rho_in : ∀ {i j : Nat}, m[i]? = some j → rho m s.hp.length i = j := by
    intro i j hij
    unfold rho
    rw [nth_eq, hij]
  have rho_out : ∀ {i : Nat}, m.length ≤ i → rho m s.hp.length i = s.hp.length + (i - m.length) := by
    intro i hi
    unfold rho
    rw [nth_eq, List.getElem?_eq_none hi, len_eq]
  have m_get : ∀ {i : Nat}, i < m.length → ∃ j, m[i]? = some j := fun hi => ⟨_, List.getElem?_eq_getElem hi⟩
  -- the callee's view
  let γ' : Nat → Option Nat := fun i => γ (rho m s.hp.length i)
  let κ' : Nat → Nat := fun i => κ (rho m s.hp.length i)
  let N := nset C.X γ s.hp.length
  let X' : Nat → Prop := fun b => N b ∧ ¬ ∃ i, i < hp0.length ∧ γ' i = some b
  let C' := cxG C.P X' hp0 γ' κ' W 0
  let M := s.mm C γ κ W
  let M' : Mm := St.mm ⟨[], hp0⟩ C' γ' κ' W
  have hN' : ∀ b, M'.N b ↔ N b := by
    intro b
    constructor
    · rintro (h | ⟨i, hi, hg⟩)
      · exact h.1
      · have hi : i < hp0.length := hi
        obtain ⟨j, hj⟩ := m_get (i := i) (by omega)
        obtain ⟨b0, _, _, hjl⟩ := hmi hj
        have hg' : γ (rho m s.hp.length i) = some b := hg
        rw [rho_in hj] at hg'
        exact .inr ⟨j, hjl, hg'⟩
    · intro h
      by_cases hl : ∃ i, i < hp0.length ∧ γ' i = some b
      · obtain ⟨i, hi, hg⟩ := hl
        exact .inr ⟨i, hi, hg⟩
      · exact .inl ⟨h, hl⟩
  have hTi : Ti m.length (rho m s.hp.length) M' M := by
    refine ⟨rfl, fun b hb => (hN' b).1 hb, ?_, fun i _ => rfl, fun i _ => rfl⟩
    intro i b' hi hb'
    obtain ⟨j, hj⟩ := m_get hi
    obtain ⟨b0, h1, h2, _⟩ := hmi hj
    rw [rho_in hj] at hb'
    have hb'' : s.hp[j]? = some b' := hb'
    rw [h2] at hb''
    cases hb''
    exact ⟨b0, h1, rfl, by simp [renB]⟩
  have hblk0 : ∀ i b0, hp0[i]? = some b0 → BlkOK M' i b0 := by
    intro i b0 hb0
    have hi : i < m.length := by rw [hml]; exact (List.getElem?_eq_some_iff.1 hb0).1
    obtain ⟨j, hj⟩ := m_get hi
    obtain ⟨b1, h1, h2, hjl⟩ := hmi hj
    rw [hb0] at h1
    cases h1
    have hB := hC.blk j _ h2
    have hflat : (renB (rho m s.hp.length) b0).rows.flatten = b0.rows.flatten.map (ren1 (rho m s.hp.length)) := by
      simp [renB, List.map_flatten]
    have hsc := List.all_eq_true.1 hs1 b0 (List.mem_of_getElem? hb0)
    have hscf : b0.rows.flatten.all (AV.sc1 m.length) = true := by
      rw [List.all_eq_true] at hsc ⊢
      intro c hc
      obtain ⟨r, hr, hc⟩ := List.mem_flatten.1 hc
      exact List.all_eq_true.1 (hsc r hr) c hc
    refine ⟨hB.pos, fun r hr => ?_, fun c hc => ?_, ?_, ?_, ?_⟩
    · have := hB.rows (r.map (ren1 (rho m s.hp.length))) (List.mem_map.2 ⟨r, hr, rfl⟩)
      simpa [renB] using this
    · have := hB.cell (ren1 (rho m s.hp.length) c) (by rw [hflat]; exact List.mem_map.2 ⟨c, hc, rfl⟩)
      cases c <;> first | rfl | (simp [ren1, ren0, AV.cell] at this; done)
    · have := hB.cap
      simp only [renB, List.length_map] at this
      show _ ≤ κ (rho m s.hp.length i)
      rw [rho_in hj]; exact this
    · show κ (rho m s.hp.length i) ≤ _
      rw [rho_in hj]; exact hB.capm
    · rcases hB.mem with ⟨e1, e2, e3⟩ | ⟨g, ys, sp, e1, e2, e3, e4⟩
      · refine .inl ⟨?_, ?_, ?_⟩
        · show γ (rho m s.hp.length i) = none
          rw [rho_in hj]; exact e1
        · simpa [renB] using e2
        · show κ (rho m s.hp.length i) = 0
          rw [rho_in hj]; exact e3
      · refine .inr ⟨g, ys, sp, ?_, e2, ?_, ?_⟩
        · show γ (rho m s.hp.length i) = some g
          rw [rho_in hj]; exact e1
        · show _ = κ (rho m s.hp.length i) * _
          rw [rho_in hj]; exact e3
        · rw [hflat] at e4
          exact all2_unmap (f := ren1 (rho m s.hp.length)) (g := AV.sc1 m.length) (fun v x hr hs => hTi.r1 hr hs) e4 hscf
  have hC0 : Conc C' ⟨[], hp0⟩ γ' κ' noact W := by
    refine ⟨rfl, rfl, (by intro t v h; cases h), hblk0, ?_, ?_, ?_, fun _ _ _ => rfl, rfl, rfl, rfl, Nat.le_refl _, ?_⟩
    · intro i i' g hi hi' h1 h2
      obtain ⟨j, hj⟩ := m_get (i := i) (by have : i < hp0.length := hi; omega)
      obtain ⟨j', hj'⟩ := m_get (i := i') (by have : i' < hp0.length := hi'; omega)
      have h1' : γ (rho m s.hp.length i) = some g := h1
      have h2' : γ (rho m s.hp.length i') = some g := h2
      rw [rho_in hj] at h1'
      rw [rho_in hj'] at h2'
      obtain ⟨_, _, _, hjl⟩ := hmi hj
      obtain ⟨_, _, _, hjl'⟩ := hmi hj'
      have := hC.inj j j' g hjl hjl' h1' h2'
      subst this
      exact nodup_inj hnd hj hj'
    · intro i g hi hg
      exact ⟨fun hX => hX.2 ⟨i, hi, hg⟩, .inr ⟨i, hi, hg⟩⟩
    · intro b hb
      exact hC.nlt b hb.1
    · intro i b0 hb0
      exact ⟨b0, hb0, rfl, Nat.le_refl _, fun _ => ⟨rfl, rfl⟩⟩
  have hevs := hC.evs hx
  have hfv := hC.ev hfo
  -- what is handed on
  obtain ⟨capv, hfo', hcaps⟩ : ∃ capv : List Value, a.eval fo = .func (.func f) #[] capv.toArray ∧ All2 (RepA M) caps capv := by
    unfold aFn at hfv
    cases caps with
    | nil =>
      cases hfv with
      | imm _ _ h =>
        refine ⟨[], ?_, .nil⟩
        generalize a.eval fo = z at h
        cases h; rfl
    | cons c cs =>
      generalize a.eval fo = z at hfv
      cases hfv with
      | fn _ _ xs h => exact ⟨xs, rfl, h⟩
  have hall : All2 (RepA M) (asx.map (ren (rho m s.hp.length))) (args.toList.map a.eval ++ capv) := by
    rw [← hargs]
    exact hevs.append hcaps
  have hall' := all2_unmap (f := ren (rho m s.hp.length)) (g := AV.sc m.length) (fun v x hr hs => hTi.r hr hs) hall hs0
  have hrun := hcall W X' γ' κ' _ hC0 hall'
  unfold Oper.wp
  rw [call_run hcl ho hfo' W]
  have e : args.map a.eval ++ capv.toArray = (args.toList.map a.eval ++ capv).toArray := by apply Array.toList_inj.1; simp
  rw [e]
  refine hrun.mono ?_
  rintro ex W' ⟨x, γ1, κ1, rfl, hC1, hr1⟩
  -- back
  let n := s.hp.length
  let pos : Nat → Option Nat := fun j => if j < n then m.idxOf? j else some (m.length + (j - n))
  let γ2 : Nat → Option Nat := fun j => match pos j with
    | some i => γ1 i
    | none => γ j
  let κ2 : Nat → Nat := fun j => match pos j with
    | some i => κ1 i
    | none => κ j
  let hp2 := setAll s.hp m (hp1.map (renB (rho m n))) ++ (hp1.drop (len m)).map (renB (rho m n))
  have hl2 : hp2.length = n + (hp1.length - m.length) := by simp [hp2, setAll_len, len_eq, n]
  have pos_m : ∀ {i j : Nat}, m[i]? = some j → pos j = some i := by
    intro i j hij
    obtain ⟨_, _, _, hjl⟩ := hmi hij
    have hjn : j < n := hjl
    simp only [pos]
    rw [if_pos hjn]
    cases hq : m.idxOf? j with
    | none =>
      rw [List.idxOf?_eq_none_iff] at hq
      exact absurd (List.mem_of_getElem? hij) hq
    | some i' =>
      have h' : m[i']? = some j := by
        have := List.idxOf?_eq_some_iff.1 hq
        obtain ⟨hlt, he, _⟩ := this
        rw [List.getElem?_eq_getElem hlt, ]
        simpa using he
      rw [nodup_inj hnd hij h']
  have pos_new : ∀ {i : Nat}, m.length ≤ i → pos (n + (i - m.length)) = some i := by
    intro i hi
    simp only [pos]
    rw [if_neg (by omega)]
    congr 1; omega
  have pos_rho : ∀ i, i < hp1.length → pos (rho m n i) = some i := by
    intro i hi
    by_cases h : i < m.length
    · obtain ⟨j, hj⟩ := m_get h
      rw [show rho m n i = j from rho_in hj]; exact pos_m hj
    · rw [show rho m n i = n + (i - m.length) from rho_out (by omega)]; exact pos_new (by omega)
  have pos_none : ∀ {j : Nat}, j < n → j ∉ m → pos j = none := by
    intro j hj hm
    simp only [pos]
    rw [if_pos hj, List.idxOf?_eq_none_iff]; exact hm
  have hp2_rho : ∀ i b, hp1[i]? = some b → hp2[rho m n i]? = some (renB (rho m n) b) := by
    intro i b hb
    by_cases h : i < m.length
    · obtain ⟨j, hj⟩ := m_get h
      obtain ⟨_, _, _, hjl⟩ := hmi hj
      rw [show rho m n i = j from rho_in hj]
      simp only [hp2]
      rw [List.getElem?_append_left (by rw [setAll_len]; exact hjl)]
      exact setAll_at m _ _ i j _ hnd hj (by rw [List.getElem?_map, hb]; rfl) hjl
    · rw [show rho m n i = n + (i - m.length) from rho_out (by omega)]
      simp only [hp2]
      rw [List.getElem?_append_right (by rw [setAll_len]; omega), setAll_len, List.getElem?_map, List.getElem?_drop, len_eq]
      rw [show m.length + (n + (i - m.length) - s.hp.length) = i by omega, hb]
      rfl
  have hp2_old : ∀ j, j < n → j ∉ m → hp2[j]? = s.hp[j]? := by
    intro j hj hm
    simp only [hp2]
    rw [List.getElem?_append_left (by rw [setAll_len]; exact hj)]
    exact setAll_other m _ _ j hm
  -- every number of hp2 is an old one or comes from hp1
  have hcase : ∀ j, j < hp2.length → (j < n ∧ j ∉ m) ∨ ∃ i, i < hp1.length ∧ j = rho m n i := by
    intro j hj
    by_cases h : j < n
    · by_cases hm : j ∈ m
      · obtain ⟨i, hi⟩ := List.mem_iff_getElem?.1 hm
        have hil := (List.getElem?_eq_some_iff.1 hi).1
        exact .inr ⟨i, by omega, (rho_in hi).symm⟩
      · exact .inl ⟨h, hm⟩
    · refine .inr ⟨m.length + (j - n), by omega, ?_⟩
      rw [show rho m n (m.length + (j - n)) = n + ((m.length + (j - n)) - m.length) from rho_out (by omega)]
      omega
  have rho_lt : ∀ i, i < hp1.length → rho m n i < hp2.length := by
    intro i hi
    obtain ⟨b, hb⟩ : ∃ b, hp1[i]? = some b := ⟨_, List.getElem?_eq_getElem hi⟩
    exact (List.getElem?_eq_some_iff.1 (hp2_rho i b hb)).1
  have rho_m : ∀ i, i < hp1.length → rho m n i < n → rho m n i ∈ m := by
    intro i hi hlt
    by_cases h : i < m.length
    · obtain ⟨j, hj⟩ := m_get h
      rw [show rho m n i = j from rho_in hj]; exact List.mem_of_getElem? hj
    · rw [show rho m n i = n + (i - m.length) from rho_out (by omega)] at hlt
      omega
  have γ2_rho : ∀ i, i < hp1.length → γ2 (rho m n i) = γ1 i := by intro i hi; simp only [γ2, pos_rho i hi]
  have κ2_rho : ∀ i, i < hp1.length → κ2 (rho m n i) = κ1 i := by intro i hi; simp only [κ2, pos_rho i hi]
  have γ2_old : ∀ j, j < n → j ∉ m → γ2 j = γ j := by intro j hj hm; simp only [γ2, pos_none hj hm]
  have κ2_old : ∀ j, j < n → j ∉ m → κ2 j = κ j := by intro j hj hm; simp only [κ2, pos_none hj hm]
  let M1' : Mm := St.mm ⟨[], hp1⟩ C' γ1 κ1 W'
  let M1 : Mm := St.mm ⟨s.env, hp2⟩ C γ2 κ2 W'
  have hown1 : ∀ i g, i < hp1.length → γ1 i = some g → ¬ X' g ∧ (W.heap.size ≤ g ∨ ∃ q, q < hp0.length ∧ γ' q = some g) := fun i g hi hg => hC1.own i g hi hg
  have lentN : ∀ q g, q < hp0.length → γ' q = some g → ∃ j, m[q]? = some j ∧ j < n ∧ γ j = some g := by
    intro q g hq hg
    obtain ⟨j, hj⟩ := m_get (i := q) (by omega)
    obtain ⟨_, _, _, hjl⟩ := hmi hj
    have hg' : γ (rho m s.hp.length q) = some g := hg
    rw [rho_in hj] at hg'
    exact ⟨j, hj, hjl, hg'⟩
  have hNsub : ∀ b, M1.N b → M1'.N b := by
    rintro b (h | ⟨j, hj, hg⟩)
    · refine .inl ⟨.inl h, ?_⟩
      rintro ⟨q, hq, hg⟩
      obtain ⟨j, _, hjl, hg⟩ := lentN q b hq hg
      exact (hC.own j b hjl hg).1 h
    · rcases hcase j hj with ⟨h1, h2⟩ | ⟨i, hi, rfl⟩
      · have hg' : γ2 j = some b := hg
        rw [γ2_old j h1 h2] at hg'
        refine .inl ⟨.inr ⟨j, h1, hg'⟩, ?_⟩
        rintro ⟨q, hq, hgq⟩
        obtain ⟨j', hj', hjl', hg''⟩ := lentN q b hq hgq
        have := hC.inj j j' b h1 hjl' hg' hg''
        subst this
        exact h2 (List.mem_of_getElem? hj')
      · have hg' : γ2 (rho m n i) = some b := hg
        rw [γ2_rho i hi] at hg'
        exact .inr ⟨i, hi, hg'⟩
  have hTr : Tr hp1.length (rho m n) M1' M1 := by
    refine ⟨rfl, hNsub, ?_, γ2_rho, κ2_rho⟩
    intro i b hi hb
    exact ⟨renB (rho m n) b, hp2_rho i b hb, rfl, by simp [renB]⟩
  have hKeep : Keep M M1 := by
    refine ⟨fun b hb hex => ?_, fun j b hjb => ?_⟩
    · obtain ⟨oo, hoo⟩ := hex
      have hbs : b < W.heap.size := blk_lt (W := W) hoo
      have hnb : ¬ N b := hb
      have hmay : ¬ ∃ q, q < hp0.length ∧ γ' q = some b := by
        rintro ⟨q, hq, hg⟩
        obtain ⟨j, _, hjl, hg⟩ := lentN q b hq hg
        exact hnb (.inr ⟨j, hjl, hg⟩)
      refine ⟨hC1.old b hbs hmay, ?_⟩
      rintro (h | ⟨j, hj, hg⟩)
      · exact hnb (.inl h)
      · rcases hcase j hj with ⟨h1, h2⟩ | ⟨i, hi, rfl⟩
        · have hg' : γ2 j = some b := hg
          rw [γ2_old j h1 h2] at hg'
          exact hnb (.inr ⟨j, h1, hg'⟩)
        · have hg' : γ2 (rho m n i) = some b := hg
          rw [γ2_rho i hi] at hg'
          rcases (hown1 i b hi hg').2 with h | h
          · omega
          · exact hmay h
    · have hjb' : s.hp[j]? = some b := hjb
      have hjn : j < n := (List.getElem?_eq_some_iff.1 hjb').1
      by_cases hm : j ∈ m
      · obtain ⟨i, hi⟩ := List.mem_iff_getElem?.1 hm
        obtain ⟨b0, h1, h2, _⟩ := hmi hi
        rw [hjb'] at h2
        cases h2
        obtain ⟨b1, k1, k2, k3, k4⟩ := hC1.lent i b0 h1
        have hil : i < hp1.length := (List.getElem?_eq_some_iff.1 k1).1
        have hrj : rho m n i = j := rho_in hi
        refine ⟨renB (rho m n) b1, ?_, k2, by simpa [renB] using k3, fun e => ?_⟩
        · rw [← hrj]; exact hp2_rho i b1 k1
        · obtain ⟨e1, e2⟩ := k4 (by simpa [renB] using e)
          have e1' : γ1 i = γ (rho m s.hp.length i) := e1
          have e2' : κ1 i = κ (rho m s.hp.length i) := e2
          rw [rho_in hi] at e1' e2'
          constructor
          · show γ2 j = γ j
            rw [← hrj, γ2_rho i hil, e1', hrj]
          · show κ2 j = κ j
            rw [← hrj, κ2_rho i hil, e2', hrj]
      · exact ⟨b, (hp2_old j hjn hm).trans hjb', rfl, Nat.le_refl _, fun _ => ⟨γ2_old j hjn hm, κ2_old j hjn hm⟩⟩
  have hfin : Conc C ⟨s.env, hp2⟩ γ2 κ2 a W' := by
    refine ⟨hC.size, hC.defers, ?_, ?_, ?_, ?_, hC.xlt, ?_, hC1.hos.trans hC.hos, hC1.htape.trans hC.htape, hC1.hout.trans hC.hout, Nat.le_trans hC.hsize hC1.hsize, hC.lent.keep hKeep⟩
    · intro t v h
      obtain ⟨y, h1, h2⟩ := hC.env t v h
      exact ⟨y, h1, h2.keep hKeep⟩
    · intro j b hjb
      have hjb' : hp2[j]? = some b := hjb
      have hjl := (List.getElem?_eq_some_iff.1 hjb').1
      rcases hcase j hjl with ⟨h1, h2⟩ | ⟨i, hi, rfl⟩
      · rw [hp2_old j h1 h2] at hjb'
        have hB := hC.blk j b hjb'
        refine ⟨hB.pos, hB.rows, hB.cell, ?_, ?_, ?_⟩
        · show _ ≤ κ2 j
          rw [κ2_old j h1 h2]; exact hB.cap
        · show κ2 j ≤ _
          rw [κ2_old j h1 h2]; exact hB.capm
        · rcases hB.mem with ⟨e1, e2, e3⟩ | ⟨g, ys, sp, e1, e2, e3, e4⟩
          · exact .inl ⟨by show γ2 j = none; rw [γ2_old j h1 h2]; exact e1, e2, by show κ2 j = 0; rw [κ2_old j h1 h2]; exact e3⟩
          · refine .inr ⟨g, ys, sp, by show γ2 j = _; rw [γ2_old j h1 h2]; exact e1, ?_, by show _ = κ2 j * _; rw [κ2_old j h1 h2]; exact e3, e4.mono fun _ _ h => h.keep hKeep⟩
            have hgs : g < W.heap.size := blk_lt (W := W) e2
            have hmay : ¬ ∃ q, q < hp0.length ∧ γ' q = some g := by
              rintro ⟨q, hq, hg⟩
              obtain ⟨j', hj', hjl', hg'⟩ := lentN q g hq hg
              have := hC.inj j j' g h1 hjl' e1 hg'
              subst this
              exact h2 (List.mem_of_getElem? hj')
            exact (hC1.old g hgs hmay).trans e2
      · obtain ⟨b1, hb1⟩ : ∃ b1, hp1[i]? = some b1 := ⟨_, List.getElem?_eq_getElem hi⟩
        rw [hp2_rho i b1 hb1] at hjb'
        cases hjb'
        have hB := hC1.blk i b1 hb1
        have hflat : (renB (rho m n) b1).rows.flatten = b1.rows.flatten.map (ren1 (rho m n)) := by simp [renB, List.map_flatten]
        have hsc := List.all_eq_true.1 hs3 b1 (List.mem_of_getElem? hb1)
        have hscf : b1.rows.flatten.all (AV.sc1 hp1.length) = true := by
          rw [List.all_eq_true] at hsc ⊢
          intro c hc
          obtain ⟨r, hr, hc⟩ := List.mem_flatten.1 hc
          exact List.all_eq_true.1 (hsc r hr) c hc
        refine ⟨hB.pos, fun q hq => ?_, fun c hc => ?_, ?_, ?_, ?_⟩
        · obtain ⟨q', hq', rfl⟩ := List.mem_map.1 hq
          simpa [renB] using hB.rows q' hq'
        · rw [hflat] at hc
          obtain ⟨c', hc', rfl⟩ := List.mem_map.1 hc
          have := hB.cell c' hc'
          cases c' <;> first | rfl | (simp [AV.cell] at this; done)
        · show _ ≤ κ2 _
          rw [κ2_rho i hi]
          have hcap : b1.rows.length ≤ κ1 i := hB.cap
          simpa [renB] using hcap
        · show κ2 _ ≤ _
          rw [κ2_rho i hi]; exact hB.capm
        · rcases hB.mem with ⟨e1, e2, e3⟩ | ⟨g, ys, sp, e1, e2, e3, e4⟩
          · exact .inl ⟨by show γ2 _ = none; rw [γ2_rho i hi]; exact e1, by simpa [renB] using e2, by show κ2 _ = 0; rw [κ2_rho i hi]; exact e3⟩
          · refine .inr ⟨g, ys, sp, by show γ2 _ = _; rw [γ2_rho i hi]; exact e1, e2, by show _ = κ2 _ * _; rw [κ2_rho i hi]; exact e3, ?_⟩
            rw [hflat]
            exact all2_map (f := ren1 (rho m n)) (g := AV.sc1 hp1.length) (fun v x hr hs => hTr.r1 hr hs) e4 hscf
    · intro j j' g hj hj' h1 h2
      rcases hcase j hj with ⟨a1, a2⟩ | ⟨i, hi, rfl⟩ <;> rcases hcase j' hj' with ⟨b1, b2⟩ | ⟨i', hi', rfl⟩
      · rw [γ2_old j a1 a2] at h1; rw [γ2_old j' b1 b2] at h2
        exact hC.inj j j' g a1 b1 h1 h2
      · rw [γ2_old j a1 a2] at h1; rw [γ2_rho i' hi'] at h2
        exfalso
        rcases (hown1 i' g hi' h2) with ⟨hx, hw | ⟨q, hq, hg⟩⟩
        · have := hC.nlt g (.inr ⟨j, a1, h1⟩); omega
        · obtain ⟨j2, hj2, hjl2, hg2⟩ := lentN q g hq hg
          have := hC.inj j j2 g a1 hjl2 h1 hg2
          subst this
          exact a2 (List.mem_of_getElem? hj2)
      · rw [γ2_rho i hi] at h1; rw [γ2_old j' b1 b2] at h2
        exfalso
        rcases (hown1 i g hi h1) with ⟨hx, hw | ⟨q, hq, hg⟩⟩
        · have := hC.nlt g (.inr ⟨j', b1, h2⟩); omega
        · obtain ⟨j2, hj2, hjl2, hg2⟩ := lentN q g hq hg
          have := hC.inj j' j2 g b1 hjl2 h2 hg2
          subst this
          exact b2 (List.mem_of_getElem? hj2)
      · rw [γ2_rho i hi] at h1; rw [γ2_rho i' hi'] at h2
        rw [hC1.inj i i' g hi hi' h1 h2]
    · intro j g hj hg
      rcases hcase j hj with ⟨a1, a2⟩ | ⟨i, hi, rfl⟩
      · rw [γ2_old j a1 a2] at hg
        exact hC.own j g a1 hg
      · rw [γ2_rho i hi] at hg
        obtain ⟨hx, hw⟩ := hown1 i g hi hg
        rcases hw with hw | ⟨q, hq, hgq⟩
        · refine ⟨fun hX => ?_, .inl (Nat.le_trans hC.hsize hw)⟩
          have h1 := hC.xlt g hX
          have h2 := hC.hsize
          omega
        · obtain ⟨j2, hj2, hjl2, hg2⟩ := lentN q g hq hgq
          exact hC.own j2 g hjl2 hg2
    · intro b hb hmay
      have hbs : b < W.heap.size := Nat.lt_of_lt_of_le hb hC.hsize
      have hm' : ¬ ∃ q, q < hp0.length ∧ γ' q = some b := by
        rintro ⟨q, hq, hg⟩
        obtain ⟨j, _, hjl, hg⟩ := lentN q b hq hg
        rcases (hC.own j b hjl hg).2 with h | h
        · omega
        · exact hmay h
      exact (hC1.old b hbs hm').trans (hC.old b hb hmay)
  exact hK γ2 κ2 _ _ (hfin.put hd (hTr.r hr1 hs2))
end
end Go.Proofs.YtjjdabihnmilgaaGreat.A
namespace Go.Proofs.YtjjdabihnmilgaaGreat.A
open Go.RowKit
set_option linter.unusedVariables false
set_option linter.unusedSimpArgs false
section
variable {C : Cx} {s : St} {γ : Nat → Option Nat} {κ : Nat → Nat} {a : Act} {W : World} {o : Oper} {T : List (Nat × TI)} {l : List Oper} {Q : Exit → St → Prop}
theorem AW.reserve {c : Code} (ty sz : Nat) (hpos : Nat.blt 0 sz = true) (h : AW C c Q ⟨s.env, s.hp ++ [⟨ty, sz, []⟩]⟩) : AW C c Q s := by
  refine AW.weak (fun γ κ a W hC => ?_) h
  rw [Nat.blt_eq] at hpos
  obtain ⟨γ', κ', h1, _⟩ := hC.reserve ty sz hpos
  exact ⟨γ', κ', h1⟩
/-- The same memory, drawn otherwise. -/
theorem Conc.alike {W' : World} (hC : Conc C s γ κ a W) (h1 : W'.heap = W.heap) (h2 : W'.os = W.os) (h3 : W'.tape = W.tape) (h4 : W'.output = W.output) : Conc C s γ κ a W' :=
  hC.below ⟨h2, h3, h4, by rw [h1]; exact Nat.le_refl _, fun k _ => by rw [h1]⟩
/-- A new block in a place that was kept for it. -/
theorem Conc.place (hC : Conc C s γ κ a W) {p ty sz : Nat} (hp : s.hp[p]? = some ⟨ty, sz, []⟩) {rows : List (List AV)} {ys sp : List Value} {k : Nat} (hk : rows.length ≤ k) (hkm : k ≤ maxLen) (hlen : (ys ++ sp).length = k * sz) (hne : rows ≠ [])
    (hr : ∀ r ∈ rows, r.length = sz) (hc : ∀ c ∈ rows.flatten, c.cell = true) (hrep : All2 (RepA (s.mm C γ κ W)) rows.flatten ys) :
    ∃ γ' κ', Conc C ⟨s.env, s.hp.set p ⟨ty, sz, rows⟩⟩ γ' κ' a (W.alloc (.cells (ys ++ sp).toArray ty)) ∧ γ' p = some W.heap.size ∧ κ' p = k := by
  obtain ⟨γ', κ', h1, h2, h3⟩ := hC.moved hp (rows2 := rows) (ys2 := ys) (sp2 := sp) (by simpa using hk) hkm hlen hne hr hc (by simpa using hrep)
  simp only [List.nil_append] at h1
  exact ⟨γ', κ', h1.alike rfl rfl rfl rfl, h2, h3⟩
theorem OpOK.newAt {p ty sz : Nat} (hd : dok C.nt o.dst = true) (hp : s.hp[p]? = some ⟨ty, sz, []⟩) {cells : List AV} (hl : cells.length = sz) (hcell : cells.all AV.cell = true)
    (h : ∀ γ κ a W, Conc C s γ κ a W → ∃ xs, All2 (RepA (s.mm C γ κ W)) cells xs ∧ (execOp a.eval o).run C.P W = .ok (.value (.pointer (some ⟨W.heap.size, 0, none⟩))) (W.alloc (.cells xs.toArray ty))) :
    OpOK C s o (St.put ⟨s.env, s.hp.set p ⟨ty, sz, [cells]⟩⟩ o.dst (.ptr p 1 0 0)) :=
  OpOK.val hd fun γ κ a W hC => by
    obtain ⟨xs, h1, h2⟩ := h γ κ a W hC
    obtain ⟨γ', κ', c1, c2, c3⟩ := hC.place hp (rows := [cells]) (ys := xs) (sp := []) (k := 1) (by simp) (by decide) (by rw [List.append_nil, ← h1.length, hl]; omega) (by simp) (by simpa using hl) (by simpa using hcell) (by simpa using h1)
    rw [List.append_nil] at c1
    refine ⟨_, γ', κ', _, h2, c1, ?_⟩
    have hpl : p < s.hp.length := (List.getElem?_eq_some_iff.1 hp).1
    refine .ptr p 1 0 0 ⟨ty, sz, [cells]⟩ _ ?_ (Nat.le_refl _) fun _ => ⟨W.heap.size, c2, by simp⟩
    show (s.hp.set p _)[p]? = _
    rw [List.getElem?_set_self hpl]
theorem LS.alloc (p : Nat) (hT : TsOK C.P T) (hw : awant l s o = some true) (hd : dok C.nt o.dst = true) {t : TypeId} (ho : o.op = .alloc t) {i : TI} (hi : look T t = some i) (hp : nth s.hp p = some ⟨t, i.sz, []⟩) (hcell : i.zero.all AV.cell = true) : LS C l s o (mkFx l s o (.blk p ⟨t, i.sz, [i.zero]⟩ (.ptr p 1 0 0)) [p]) :=
  LS.blk [p] hw fun s' hl => by
    have hp' := (hl.xb p (by simp)).trans hp
    rw [nth_eq] at hp'
    refine OpOK.newAt hd hp' (hT t i hi).zl hcell fun γ κ a W hC => ?_
    obtain ⟨z, h1, h2⟩ := (hT t i hi).zeroValue
    refine ⟨_, constAVs_rep h1, ?_⟩
    unfold execOp; rw [ho]
    refine val_run ?_
    unfold Instr.alloc
    rw [run_bind (h2 W), Array.toArray_toList]
    rfl
theorem LS.box (p : Nat) (hw : awant l s o = some true) (hd : dok C.nt o.dst = true) {t : TypeId} {x : Operand} (ho : o.op = .box t x) {q : AV} (hx : s.ev x = some q) {sz : Nat} (hp : nth s.hp p = some ⟨t, sz, []⟩) (hl : Nat.beq (len (avCells q)) sz = true) (hcell : (avCells q).all AV.cell = true) : LS C l s o (mkFx l s o (.blk p ⟨t, sz, [avCells q]⟩ (.ptr p 1 0 0)) [p]) :=
  LS.blk [p] hw fun s' hl' => by
    have hp' := (hl'.xb p (by simp)).trans hp
    rw [nth_eq] at hp'
    have hl := Nat.eq_of_beq_eq_true hl
    rw [len_eq] at hl
    refine OpOK.newAt hd hp' hl hcell fun γ κ a W hC => ?_
    have hx' := (hl'.ev x (by rw [ho]; simp [Op.operands])).trans hx
    refine ⟨_, (hC.ev hx').cells, ?_⟩
    unfold execOp; rw [ho]
    refine val_run ?_
    unfold Instr.box
    rw [Array.toArray_toList]
    rfl
theorem LS.store (hT : TsOK C.P T) (hw : awant l s o = some true) (hd : o.dst = none) {t : TypeId} {p x : Operand} (ho : o.op = .store t p x) {i : TI} (hi : look T t = some i) {id ver row off : Nat} (hp : s.ev p = some (.ptr id ver row off)) {v : AV} (hx : s.ev x = some v)
    {ty sz : Nat} {rows : List (List AV)} (hb : nth s.hp id = some ⟨ty, sz, rows⟩) (hver : ver = rows.length) (hlen : (avCells v).length = i.sz) (hcell : (avCells v).all AV.cell = true) (hfit : off + i.sz ≤ sz) {r : List AV} (hr : rows[row]? = some r) :
    LS C l s o (mkFx l s o (.blk id ⟨ty, sz, rows.set row (putRow sz i.sz r off (avCells v))⟩ .undef) []) :=
  LS.blk [] hw fun s' hl => by
    have hb' := (hl.hp p (by rw [ho]; simp [Op.operands]) _ hp id (by simp [refs])).trans hb
    rw [nth_eq] at hb'
    have := OpOK.store_own hT hd ho hi ((hl.ev p (by rw [ho]; simp [Op.operands])).trans hp) ((hl.ev x (by rw [ho]; simp [Op.operands])).trans hx) hb' hver hlen hcell hfit hr
    rw [hd]
    exact this
theorem LS.append_os (hT : TsOK C.P T) (hw : awant l s o = some true) (hd : dok C.nt o.dst = true) {x y : Operand} {t tx e : TypeId} (ho : o.op = .call ⟨.builtin .append, #[x, y], #[t, tx]⟩) {i ie : TI} (hi : look T t = some i) (hk : i.kd = .sl e) (hie : look T e = some ie) {id n : Nat} (hx : s.ev x = some (.os id n))
    {ty sz : Nat} {rows : List (List AV)} (hb : nth s.hp id = some ⟨ty, sz, rows⟩) (hver : n = rows.length) (hty : ty = e) (hsz : sz = ie.sz) {rows2 : List (List AV)} (hsrc : ∀ s', Loc l s s' o [] → SrcA C s' ie tx y rows2) (hbound : (rows.length + rows2.length) * ie.bytes ≤ 140737488355328) (h63 : rows.length + rows2.length ≤ 9223372036854775807) :
    LS C l s o (mkFx l s o (.blk id ⟨ty, sz, rows ++ rows2⟩ (.os id (n + rows2.length))) []) :=
  LS.blk [] hw fun s' hl => by
    have hxm : x ∈ o.op.operands.toList := by rw [ho]; simp [Op.operands, Call.operands]
    have hb' := (hl.hp x hxm _ hx id (by simp [refs])).trans hb
    exact OpOK.append_os hT hd ho hi hk hie ((hl.ev x hxm).trans hx) hb' hver hty hsz (hsrc s' hl) hbound h63
/-- A slice literal in a place that was kept for it. -/
theorem LS.lit (p : Nat) (hT : TsOK C.P T) (hw : awant l s o = some true) (hd : dok C.nt o.dst = true) {t e : TypeId} {n : Nat} {ps : Array (Nat × Operand)} (ho : o.op = .buildSlice t n ps) {i ie : TI} (hi : look T t = some i) (hk : i.kd = .sl e) (hie : look T e = some ie) (hp : nth s.hp p = some ⟨e, ie.sz, []⟩) {vs : List (Nat × AV)} (hx : evps s ps.toList = some vs)
    {q : List AV} (h : aFill (fun j => some (j * ie.sz, ie.sz)) (reps n ie.zero) vs = some q) (hn : Nat.ble (n * ie.sz) 16777216 = true) (hn0 : Nat.blt 0 n = true) (hs : (Nat.blt 0 ie.sz && Nat.beq (len q) (n * ie.sz) && q.all AV.cell) = true) : LS C l s o (mkFx l s o (.blk p ⟨e, ie.sz, chunk n ie.sz q⟩ (.os p n)) [p]) :=
  LS.blk [p] hw fun s' hl => by
    have hp' := (hl.xb p (by simp)).trans hp
    rw [nth_eq] at hp'
    have hx' := (hl.evps (xs := ps.toList) (fun x hx => by
      rw [ho]
      simp only [Op.operands]
      exact List.mem_map.2 ⟨x, hx, rfl⟩)).trans hx
    have hT' := hT t i hi
    have hTe := hT e ie hie
    have hn := Nat.le_of_ble_eq_true hn
    rw [Nat.blt_eq] at hn0
    simp only [Bool.and_eq_true, Nat.blt_eq, List.all_eq_true] at hs
    obtain ⟨⟨c1, c2⟩, c3⟩ := hs
    have c2 := Nat.eq_of_beq_eq_true c2
    rw [len_eq] at c2
    refine OpOK.val hd fun γ κ a W hC => ?_
    obtain ⟨d, d1, d2, d3⟩ := hT'.und
    rw [hk] at d2
    obtain rfl := kd_sl d2
    obtain ⟨z', hz1, hz2⟩ := hTe.zeroValue
    have hzl : z'.cells.toList.length = ie.zero.length := (constAVs_rep (M := s'.mm C γ κ W) hz1).length.symm
    have hmade := madeCells_rep (constAVs_rep (M := s'.mm C γ κ W) hz1) n
    have h0 : n * ie.sz ≠ 0 := Nat.ne_of_gt (Nat.mul_pos hn0 c1)
    have hr2 : All2 (RepA (s'.mm C γ κ W)) (reps n ie.zero) ((Array.range (n * ie.sz)).map (z'.cells[· % z'.cells.size]!)).toList := by
      have e1 : n * ie.sz = n * z'.cells.toList.length := by rw [hzl, hTe.zl]
      rw [e1]
      simpa using hmade
    obtain ⟨cs', g1, g2⟩ := fill_ok (place' := fun j => some (j * ie.sz, ie.sz)) (fun i z h => h) (hC.evps hx') hr2 h
    have hnm : n ≤ maxLen := by
      have h1 : n ≤ n * ie.sz := Nat.le_mul_of_pos_right n c1
      have h2 : (16777216 : Nat) ≤ maxLen := by decide
      omega
    have hch := chunk_flat n ie.sz q c2
    obtain ⟨γ', κ', k1, k2, k3⟩ := hC.place hp' (rows := chunk n ie.sz q) (ys := cs'.toList) (sp := []) (k := n) (Nat.le_of_eq hch.2.1) hnm (by rw [List.append_nil, ← g2.length, c2]) (by intro e; have := hch.2.1; rw [e] at this; simp at this; omega) hch.2.2 (by rw [hch.1]; exact c3) (by rw [hch.1]; exact g2)
    simp only [List.append_nil, Array.toArray_toList] at k1
    refine ⟨.slice (some ⟨W.heap.size, 0, none⟩) n n, γ', κ', _, ?_, k1, ?_⟩
    · unfold execOp; rw [ho]
      refine val_run ?_
      unfold Instr.buildSlice
      rw [run_bind (und_run d1 W)]
      simp only
      rw [run_bind (hTe.sizeOf W), if_neg (by omega)]
      have e3 : (ps.map fun x : Nat × Operand => (x.1, a.eval x.2)).toList = ps.toList.map fun (i, x) => (i, a.eval x) := by simp
      rw [e3, if_neg h0, run_bind (hz2 W), run_bind (run_pure _ _), g1]
      rfl
    · have hpl : p < s'.hp.length := (List.getElem?_eq_some_iff.1 hp').1
      refine .os p n ⟨e, ie.sz, chunk n ie.sz q⟩ _ _ _ ?_ (Nat.le_of_eq hch.2.1.symm) fun _ => ⟨?_, rfl, ?_⟩
      · show (s'.hp.set p _)[p]? = _
        rw [List.getElem?_set_self hpl]
      · show _ = (γ' p).map _
        rw [k2]; rfl
      · show n = κ' p
        rw [k3]
/-- Values of a type are compared cell by cell. -/
def EqT (P : Program) (t : TypeId) (f : List AV → List AV → Option Bool) : Prop :=
  P.eqGuardType P.depth t = false ∧ ∀ (M : Mm) (l m : List AV) (b : Bool) (xs ys : List Value) (w : World), f l m = some b → All2 (RepA M) l xs → All2 (RepA M) m ys → (Op.equal t (.agg xs.toArray) (.agg ys.toArray)).run P w = .ok b w
def eqB (op : BinOp) (b : Bool) : Option Bool :=
  match op with
  | .eql => some b
  | .neq => some (!b)
  | _ => none
theorem OpOK.eqs {f : List AV → List AV → Option Bool} (hd : dok C.nt o.dst = true) {op : BinOp} {t t2 : TypeId} {x y : Operand} (ho : o.op = .binOp op t x y t2) {p q : List AV} (hx : s.ev x = some (.agg p)) (hy : s.ev y = some (.agg q)) (hE : EqT C.P t f) {b c : Bool} (hf : f p q = some b) (h : eqB op b = some c) : OpOK C s o (s.put o.dst (.imm (.bool c))) :=
  OpOK.quiet hd fun γ κ a W hC => by
    have h1 := hC.ev hx
    have h2 := hC.ev hy
    refine ⟨.bool c, ?_, .imm _ _ (.bool _)⟩
    have key : ∀ u v, RepA (s.mm C γ κ W) (.agg p) u → RepA (s.mm C γ κ W) (.agg q) v → (eqGuard op t x y u v).run C.P W = .ok () W ∧ (binOp op t u v).run C.P W = .ok (.bool c) W := by
      intro u v hu hv
      cases hu with
      | agg _ xs hu => cases hv with
        | agg _ ys hv =>
          have he := hE.2 _ _ _ _ xs ys W hf hu hv
          constructor
          · unfold eqGuard
            have hp : (program).run C.P W = .ok C.P W := rfl
            cases op <;> first
              | rfl
              | (simp only [Bool.not_true, Bool.false_eq_true, if_false]
                 rw [run_bind hp, run_bind hp, hE.1]
                 rfl)
          · unfold eqB at h
            split at h
            · obtain rfl := Option.some.inj h
              simp only [binOp]
              rw [run_bind he]; rfl
            · obtain rfl := Option.some.inj h
              simp only [binOp]
              rw [run_bind he]; rfl
            · cases h
    obtain ⟨k1, k2⟩ := key _ _ h1 h2
    exact bin_run ho k1 k2
theorem LS.eqs {f : List AV → List AV → Option Bool} (hw : awant l s o = some true) (hd : dok C.nt o.dst = true) {op : BinOp} {t t2 : TypeId} {x y : Operand} (ho : o.op = .binOp op t x y t2) {p q : List AV} (hx : s.ev x = some (.agg p)) (hy : s.ev y = some (.agg q)) (hE : EqT C.P t f) {b c : Bool} (hf : f p q = some b) (h : eqB op b = some c) : LS C l s o (mkFx l s o (.val (.imm (.bool c))) []) :=
  LS.quiet [] hw fun s' hl => OpOK.eqs hd ho ((hl.ev x (by rw [ho]; simp [Op.operands])).trans hx) ((hl.ev y (by rw [ho]; simp [Op.operands])).trans hy) hE hf h
end
end Go.Proofs.YtjjdabihnmilgaaGreat.A
namespace Go.Proofs.YtjjdabihnmilgaaGreat.A
open Go.RowKit
set_option linter.unusedVariables false
set_option linter.unusedSimpArgs false
section
variable {P : Program} {d : Nat} {xs ys : Array Value} {f : Field} {fs : List Field} {a b : Value} {r s : Bool} {w : World}
theorem eqf_last (hn : (f.name == "_") = false) (ha : (part f.type xs f.offset).run P w = .ok a w) (hb : (part f.type ys f.offset).run P w = .ok b w) (he : (Op.equalIn d f.type a b).run P w = .ok r w) : (Op.eqFields d xs ys [f]).run P w = .ok r w := by
  have hn' : f.name ≠ "_" := by simpa using hn
  simp only [Op.eqFields, if_pos hn', Sem.run_bind, ha, hb, he, Result.andThen_ok]
  cases r <;> simp
theorem eqf_cons (hn : (f.name == "_") = false) (ha : (part f.type xs f.offset).run P w = .ok a w) (hb : (part f.type ys f.offset).run P w = .ok b w) (he : (Op.equalIn d f.type a b).run P w = .ok r w) (hr : (Op.eqFields d xs ys fs).run P w = .ok s w) : (Op.eqFields d xs ys (f :: fs)).run P w = .ok (r && s) w := by
  have hn' : f.name ≠ "_" := by simpa using hn
  rw [Op.eqFields]
  simp only [if_pos hn', Sem.run_bind, ha, hb, he, Result.andThen_ok]
  cases r
  · simp
  · simpa using hr
theorem eqA_of {t : TypeId} {fs : Array Field} (hu : P.underlying t = some (.struct fs)) (hp : P.stoodInHeld t = false) (h : (Op.eqFields d xs ys fs.toList).run P w = .ok r w) : (Op.equalIn (d + 1) t (.agg xs) (.agg ys)).run P w = .ok r w := by
  have hf : P.fieldsOf t = fs := by simp [Program.fieldsOf, hu]
  rw [run_equalIn_struct (P := P) w d t xs ys (by rw [hf]; exact hu) hp, hf]
  exact h
theorem eqi_int {t : TypeId} {k' : IntKind} {k : IntKind} {m n : Int} (h : P.underlying t = some (.int k')) : (Op.equalIn (d + 1) t (.int k m) (.int k n)).run P w = .ok (dec (m = n)) w := by
  have e : dec (m = n) = (m == n) := by rw [dec_eq, Bool.eq_iff_iff]; simp
  rw [e]; exact run_equalIn_int w d t k k' m n h
theorem eqi_bool {t : TypeId} {m n : Bool} (h : P.underlying t = some .bool) : (Op.equalIn (d + 1) t (.bool m) (.bool n)).run P w = .ok (m == n) w := run_equalIn_bool' w d t m n h
theorem eqi_str {t : TypeId} {m n : ByteArray} (h : P.underlying t = some .string) : (Op.equalIn (d + 1) t (.string m) (.string n)).run P w = .ok (dec (m = n)) w := by
  rw [dec_eq, ← bytes_eq]; exact run_equalIn_string w d t m n h
theorem part_a {t : TypeId} {i : TI} (h : TOk P t i) (ha : i.isAgg = true) (xs : List Value) (off : Nat) {ys : List Value} (hy : (xs.drop off).take i.sz = ys) : (part t xs.toArray off).run P w = .ok (.agg ys.toArray) w := by
  have := part_agg (n := i.sz) (by rw [← ha]; exact h.isAgg w) (h.sizeOf w) xs off
  rw [hy] at this; exact this
theorem part_1 {t : TypeId} {i : TI} (h : TOk P t i) (ha : i.isAgg = false) (xs : List Value) (off : Nat) {y : Value} (hy : xs[off]? = some y) : (part t xs.toArray off).run P w = .ok y w :=
  part_one (by rw [← ha]; exact h.isAgg w) xs off hy
end
theorem equal_at {P : Program} {t : TypeId} {x y : Value} {w : World} {r : Result Bool} (k d : Nat) (h : k + d = 10000) (hr : (Op.equalIn (k + d) t x y).run P w = r) : (Op.equal t x y).run P w = r := by
  rw [h] at hr
  exact hr
theorem c_int {M : Mm} {k : IntKind} {n : Int} {l : List AV} {xs : List Value} (h : All2 (RepA M) (.imm (.int k n) :: l) xs) : ∃ r, xs = .int k n :: r ∧ All2 (RepA M) l r := by
  cases h with
  | cons h1 h2 => cases h1 with
    | imm _ _ h1 => cases h1; exact ⟨_, rfl, h2⟩
theorem c_str {M : Mm} {n : ByteArray} {l : List AV} {xs : List Value} (h : All2 (RepA M) (.imm (.str n) :: l) xs) : ∃ r, xs = .string n :: r ∧ All2 (RepA M) l r := by
  cases h with
  | cons h1 h2 => cases h1 with
    | imm _ _ h1 => cases h1; exact ⟨_, rfl, h2⟩
theorem c_bool {M : Mm} {n : Bool} {l : List AV} {xs : List Value} (h : All2 (RepA M) (.imm (.bool n) :: l) xs) : ∃ r, xs = .bool n :: r ∧ All2 (RepA M) l r := by
  cases h with
  | cons h1 h2 => cases h1 with
    | imm _ _ h1 => cases h1; exact ⟨_, rfl, h2⟩
theorem c_nil {M : Mm} {xs : List Value} (h : All2 (RepA M) [] xs) : xs = [] := by cases h; rfl
end Go.Proofs.YtjjdabihnmilgaaGreat.A
