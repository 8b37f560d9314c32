/- The law ChardataAsks of package canopylaw05 is true for every input whose arguments hold together at most 1048576 values and letters: the statement 'ChardataAsksUptoSaid'. Conditions: that bound alone. -/
import Derived.Test.YtmhejcnaanocpaaGreatXAskGrpBB
import Derived.Test.YtmhejcnaanocpaaGreatXAskGrpAY
import Derived.Test.YtmhejcnaanocpaaGreatXAskGrpAX
import Derived.Test.YtmhejcnaanocpaaGreatRows
import Derived.Test.YtmhejcnaanocpaaGreatXAskGrpAN
import Derived.ChangeArms
import Derived.WideShapes
import Derived.WalkKit
import Derived.ProofKit
import Derived.OpenShut
import Derived.ShutString
import Derived.ChangeOld
import Derived.Below
import Derived.JoinedCond
namespace Go.Proofs.YtmhejcnaanocpaaGreat.A
open Go.RowKit
set_option linter.unusedVariables false
set_option linter.unusedSimpArgs false
set_option maxRecDepth 100000
set_option maxHeartbeats 4000000
theorem LS.callsc {C : Cx} {s : St} {o : Oper} {l : List Oper} (xb : List Nat) (hw : awant l s o = some true) {fo : Operand} {args : Array Operand} {ats : Array TypeId} (ho : o.op = .call ⟨.value fo, args, ats⟩) (hd : dok C.nt o.dst = true) {f : Nat} (hfo : s.ev fo = some (.imm (.fn f))) {vs vs' : List AV} (hx : evs s args.toList = some vs) (hfz : ∀ s', Loc l s s' o xb → FzL C s' vs vs') {r : AV} (hc : PureC C.P f vs' r) (hs : r.scal = true) : LS C l s o (mkFx l s o (.val r) xb) :=
  yav xb hw fun s' hl => by
    obtain ⟨m1, m2⟩ := qa9 ho
    exact yat ho hd ((hl.ev fo m1).trans hfo) ((hl.evs m2).trans hx) (hfz s' hl) hc hs
theorem PureC.cv {P : Program} {f : FuncId} {aa ab : List AV} {r : AV} (h : PureC P f aa r) (e : ab.map A.cv = aa) : PureC P f ab r :=
  ⟨h.1, fun W X xs hX hx => h.2 W X xs hX (by rw [← e]; exact qmo hx)⟩
theorem qkr (f : List Node) (h : Int) (hf : Fit f) : PureC Tryz.prog 33 [fav f, iav h] (.tup [iav (if cfP f h false = 0 then ((nodeAt f h).data.length : Int) else 0), iav (cfP f h false)]) := by
  have c1 := qeb f h hf
  have c2 := qaj f h hf.len
  obtain ⟨n, hn⟩ : ∃ n, n = nodeAt f h := ⟨_, rfl⟩
  rw [← hn] at c2 ⊢
  have hml : (n.data.map u16).length = n.data.length := List.length_map _
  rw [← hml]
  obtain ⟨e, he⟩ : ∃ e, e = cfP f h false := ⟨_, rfl⟩
  rw [← he] at c1 ⊢
  refine yq tabs Tryz.func33 24 [.tmp 4, .tmp 5] rfl rfl rfl rfl rfl ?_; intro w0 X
  (repeat' (first | ((with_reducible show AL _ _ _ _ _); first | (refine AL.step tabs rfl ?_; try dsimp only [len, List.nil_append, List.cons_append]) | refine AL.op rfl (yb rfl rfl rfl rfl c1 rfl) ?_ | refine AL.op rfl (yb rfl rfl rfl rfl c2 rfl) ?_ | refine ym ?_) | refine yn ?_ | refine yc ?_ | refine ya ?_ | refine yf ?_ | refine yh rfl ?_ | refine yg rfl ?_ | (refine yk rfl (fun hc => ?_) (fun hc => ?_) <;> (try simp only [hsx] at hc) <;> (try first | omega | contradiction | (simp [qa] at hc; done))) | refine yo ?_ | refine yd ?_))
  · rw [if_neg (by assumption)]; exact RQ.fin rfl rfl rfl
  · have hc : e = 0 := by omega
    subst hc
    exact RQ.fin rfl rfl rfl
theorem qks (f : List Node) (h off cnt : Int) (hf : Fit f) : ∃ (u : List Int) (w : Int), subsA f h off cnt = .tup [.imm (.sl (u.map u16)), iav w] ∧ u.length ≤ 1000000000 := by
  unfold subsA
  split
  · exact ⟨[], _, rfl, by simp⟩
  · refine ⟨_, _, rfl, ?_⟩
    have := (hf.at h).data
    split
    · unfold subP; simp only [List.length_drop, List.length_take]; omega
    · simp
theorem qih (f : List Node) (h : Int) (hf : Fit f) : ∃ (u : List Int) (w : Int), wholeA f h = .tup [.imm (.sl (u.map u16)), iav w] ∧ u.length ≤ 1000000000 := by
  unfold wholeA
  by_cases he : cfP f h true = 0
  · rw [if_neg (by omega)]
    exact ⟨_, _, rfl, qkd f h hf (qci he).1⟩
  · rw [if_pos he]
    exact ⟨[], _, rfl, by simp⟩
theorem qkt (f : List Node) (h : Int) (hf : Fit f) (us : List Int) (hu : us.length ≤ 1000000000) : ∃ (u : List Int) (s : Bool) (w : Int), contA f h us = .tup [.imm (.sl (u.map u16)), bav s, iav w] ∧ u.length ≤ 1000000000 := by
  unfold contA
  split
  · exact ⟨[], _, _, rfl, by simp⟩
  · split
    · exact ⟨[], _, _, rfl, by simp⟩
    · split
      · exact ⟨_, _, _, rfl, (hf.at h).data⟩
      · exact ⟨_, _, _, rfl, hu⟩
theorem asks_all (f : List Node) (h off cnt : Int) (hf : Fit f) (h0 : 0 ≤ off) (h1 : off < 4294967296) (h2 : 0 ≤ cnt) (h3 : cnt < 4294967296) : PureC Tryz.prog 10 [fav f, iav h, u32 off, u32 cnt] (bav true) := by
  have c0 := qn4 f hf
  have a1 := qkq f h hf
  have b1 := qkr f h hf
  have a2 := qob f h off cnt hf h0 h1 h2 h3
  have b2 := qmf f h off cnt hf h0 h1 h2 h3
  have a3 := qme f h hf
  have b3 := qkp f h hf
  obtain ⟨us, hu, a4, b4⟩ := contents f h hf
  obtain ⟨u2, w2, e2, l2⟩ := qks f h off cnt hf
  obtain ⟨u3, w3, e3, l3⟩ := qih f h hf
  obtain ⟨u4, s4, w4, e4, l4⟩ := qkt f h hf us hu
  rw [e2] at a2 b2
  rw [e3] at a3 b3
  rw [e4] at a4 b4
  generalize (if cfP f h false = 0 then ((nodeAt f h).data.length : Int) else 0) = n1 at a1 b1
  generalize cfP f h false = w1 at a1 b1
  have s2 := qf5 u2 u2 l2 l2
  rw [show dec (u2 = u2) = true by rw [qb]] at s2
  have s3 := qf5 u3 u3 l3 l3
  rw [show dec (u3 = u3) = true by rw [qb]] at s3
  have s4c := qf5 u4 u4 l4 l4
  rw [show dec (u4 = u4) = true by rw [qb]] at s4c
  have s5 := qn2 f f hf
  rw [show dec (f = f) = true by rw [qb]] at s5
  clear e2 e3 e4 l2 l3 l4 hu
  cases s4 with
  | true =>
    refine yq tabs Tryz.func10 135 [.tmp 8] rfl rfl rfl rfl rfl ?_; intro w0 X
    (repeat' (first | ((with_reducible show AL _ _ _ _ _); first | (refine AL.step tabs rfl ?_; try dsimp only [len, List.nil_append, List.cons_append]) | refine AL.op rfl (yb rfl rfl rfl rfl c0 rfl) ?_ | refine AL.op rfl (yb rfl rfl rfl rfl a1 rfl) ?_ | refine AL.op rfl (yb rfl rfl rfl rfl b1 rfl) ?_ | refine AL.op rfl (yb rfl rfl rfl rfl a2 rfl) ?_ | refine AL.op rfl (yb rfl rfl rfl rfl b2 rfl) ?_ | refine AL.op rfl (yb rfl rfl rfl rfl a3 rfl) ?_ | refine AL.op rfl (yb rfl rfl rfl rfl b3 rfl) ?_ | refine AL.op rfl (yb rfl rfl rfl rfl a4 rfl) ?_ | refine AL.op rfl (yb rfl rfl rfl rfl b4 rfl) ?_ | refine AL.op rfl (yb rfl rfl rfl rfl qkc rfl) ?_ | refine AL.op rfl (yb rfl rfl rfl rfl s2 rfl) ?_ | refine AL.op rfl (yb rfl rfl rfl rfl s3 rfl) ?_ | refine AL.op rfl (yb rfl rfl rfl rfl s4c rfl) ?_ | refine AL.op rfl (yb rfl rfl rfl rfl s5 rfl) ?_ | refine ym ?_ | (refine yj rfl rfl rfl (fun hc => ?_) (fun hc => ?_) <;> (fail_if_success (exact absurd hc (by decide))) <;> (try simp only [hsx] at hc) <;> (try first | omega | contradiction | (simp [qa] at hc; done)))) | refine yn ?_ | refine yc ?_ | refine ya ?_ | refine yf ?_ | refine yo ?_ | refine yd ?_))
    all_goals first
      | exact RQ.fin rfl rfl rfl
  | false =>
    refine yq tabs Tryz.func10 135 [.tmp 8] rfl rfl rfl rfl rfl ?_; intro w0 X
    (repeat' (first | ((with_reducible show AL _ _ _ _ _); first | (refine AL.step tabs rfl ?_; try dsimp only [len, List.nil_append, List.cons_append]) | refine AL.op rfl (yb rfl rfl rfl rfl c0 rfl) ?_ | refine AL.op rfl (yb rfl rfl rfl rfl a1 rfl) ?_ | refine AL.op rfl (yb rfl rfl rfl rfl b1 rfl) ?_ | refine AL.op rfl (yb rfl rfl rfl rfl a2 rfl) ?_ | refine AL.op rfl (yb rfl rfl rfl rfl b2 rfl) ?_ | refine AL.op rfl (yb rfl rfl rfl rfl a3 rfl) ?_ | refine AL.op rfl (yb rfl rfl rfl rfl b3 rfl) ?_ | refine AL.op rfl (yb rfl rfl rfl rfl a4 rfl) ?_ | refine AL.op rfl (yb rfl rfl rfl rfl b4 rfl) ?_ | refine AL.op rfl (yb rfl rfl rfl rfl qkc rfl) ?_ | refine AL.op rfl (yb rfl rfl rfl rfl s2 rfl) ?_ | refine AL.op rfl (yb rfl rfl rfl rfl s3 rfl) ?_ | refine AL.op rfl (yb rfl rfl rfl rfl s4c rfl) ?_ | refine AL.op rfl (yb rfl rfl rfl rfl s5 rfl) ?_ | refine ym ?_ | (refine yj rfl rfl rfl (fun hc => ?_) (fun hc => ?_) <;> (fail_if_success (exact absurd hc (by decide))) <;> (try simp only [hsx] at hc) <;> (try first | omega | contradiction | (simp [qa] at hc; done)))) | refine yn ?_ | refine yc ?_ | refine ya ?_ | refine yf ?_ | refine yo ?_ | refine yd ?_))
    all_goals first
      | exact RQ.fin rfl rfl rfl
variable {P : Program} {α β : Type}
def noX : Nat → Prop := fun _ => False
theorem qku {H : Type} {d : DataW H} {l : List (DataW H)} (h : d ∈ l) : Rows.uptoBulk d ≤ Rows.uptoBulkAll l := by
  induction l with
  | nil => cases h
  | cons x r ih =>
    simp only [Rows.uptoBulkAll]
    cases List.mem_cons.1 h with
    | inl e => subst e; omega
    | inr e => have := ih e; omega
theorem qmg {H : Type} (d : DataW H) : 1 ≤ Rows.uptoBulk d := by
  cases d with
  | lit l => cases l <;> simp [Rows.uptoBulk]
  | nil => simp [Rows.uptoBulk]
  | ptr d => simp [Rows.uptoBulk]
  | slice elems spare => simp [Rows.uptoBulk]
  | agg parts => simp [Rows.uptoBulk]
  | iface t d => simp [Rows.uptoBulk]
  | map entries => simp [Rows.uptoBulk]
  | held h => simp [Rows.uptoBulk]
theorem qg9 {H : Type} (l : List (DataW H)) : l.length ≤ Rows.uptoBulkAll l := by
  induction l with
  | nil => simp [Rows.uptoBulkAll]
  | cons x r ih => have := qmg x; simp only [Rows.uptoBulkAll, List.length_cons]; omega
structure Opens (P : Program) (t : TypeId) (rd : α → List IV) (sz : Nat) (Fit : α → Nat → Prop) : Prop where
  len : ∀ a, (rd a).length = sz
  get : ∀ {H : Type} {enc : TypeId × Value → H} {w : World} {spare : Nat → Bool} {held : Bool} {fuel : Nat} {cs : List Value} {x : DataW H × List MemPlace},
    DataW.trod enc P w 0 spare held fuel t cs = some x → ∃ a : α, All2 (RepI w noX) (rd a) cs ∧ Fit a (Rows.uptoBulk x.1)
  mono : ∀ {a : α} {b b' : Nat}, b ≤ b' → Fit a b → Fit a b'
theorem Opens.int {t : TypeId} {k : IntKind} (ht : P.underlying t = some (.int k)) : Opens P t (fun n : Int => [.int k n]) 1 (fun _ _ => True) where
  len := fun _ => rfl
  mono := fun _ h => h
  get := by
    intro H enc w spare held fuel cs x h
    obtain ⟨n, rfl, rfl, hw⟩ := DataW.trod_int ht h
    exact ⟨n, .cons (.int _ _) .nil, trivial⟩
theorem Opens.bool {t : TypeId} (ht : P.underlying t = some .bool) : Opens P t (fun b : Bool => [.bool b]) 1 (fun _ _ => True) where
  len := fun _ => rfl
  mono := fun _ h => h
  get := by
    intro H enc w spare held fuel cs x h
    obtain ⟨n, rfl, rfl⟩ := DataW.trod_bool ht h
    exact ⟨n, .cons (.bool _) .nil, trivial⟩
theorem Opens.string {t : TypeId} (ht : P.underlying t = some .string) : Opens P t (fun s : ByteArray => [.str s]) 1 (fun _ _ => True) where
  len := fun _ => rfl
  mono := fun _ h => h
  get := by
    intro H enc w spare held fuel cs x h
    obtain ⟨n, rfl, rfl, hw⟩ := DataW.trod_string ht h
    exact ⟨n, .cons (.str _) .nil, trivial⟩
theorem qgf {Q : Nat → α → Prop} : ∀ n : Nat, (∀ i, i < n → ∃ p, Q i p) → ∃ xs : List α, xs.length = n ∧ ∀ i p, xs[i]? = some p → Q i p
  | 0, _ => ⟨[], rfl, fun i p h => by simp at h⟩
  | n + 1, h => by
    obtain ⟨xs, hl, hq⟩ := qgf n (fun i hi => h i (by omega))
    obtain ⟨p, hp⟩ := h n (by omega)
    refine ⟨xs ++ [p], by simp [hl], fun i q hi => ?_⟩
    by_cases e : i < xs.length
    · rw [List.getElem?_append_left e] at hi
      exact hq i q hi
    · have hlt := (List.getElem?_eq_some_iff.1 hi).1
      simp [hl] at hlt
      obtain rfl : i = n := by omega
      rw [List.getElem?_append_right (by omega), hl, Nat.sub_self] at hi
      simp at hi
      subst hi
      exact hp
theorem qew {R : IV → Value → Prop} {rd : α → List IV} : ∀ {l : List (α × List Value)}, (∀ p ∈ l, All2 R (rd p.1) p.2) → All2 R ((l.map Prod.fst).map rd).flatten (l.map Prod.snd).flatten
  | [], _ => .nil
  | p :: r, h => by
    simp only [List.map_cons, List.flatten_cons]
    exact (h p (by simp)).append (qew fun q hq => h q (by simp [hq]))
theorem qmh (a : Addr) (i j : Nat) : (a.add i).add j = a.add (i + j) := by
  unfold Addr.add
  by_cases hi : i = 0
  · subst hi; simp
  · by_cases hj : j = 0
    · subst hj; simp
    · simp [hi, hj, Nat.add_assoc]
theorem Opens.slice {t e : TypeId} {rd : α → List IV} {sz : Nat} {Fit : α → Nat → Prop} (ht : P.underlying t = some (.slice e)) (hc : P.cellsOf e = sz) (hsz : 0 < sz) (he : Opens P e rd sz Fit) :
    Opens P t (fun xs : List α => [.sl (xs.map rd)]) 1 (fun xs b => xs.length < b ∧ ∀ x ∈ xs, Fit x b) where
  len := fun _ => rfl
  mono := fun h h2 => ⟨Nat.lt_of_lt_of_le h2.1 h, fun x hx => he.mono h (h2.2 x hx)⟩
  get := by
    intro H enc w spare held fuel cs x h
    rcases DataW.trod_slice ht h with ⟨rfl, rfl⟩ | ⟨a, len, cap, elems, rest, n, _, rfl, rfl, hb, hl, hm, hlen, hel, _, _⟩
    · exact ⟨[], .cons (.nil _ _) .nil, by simp [Rows.uptoBulk]⟩
    · have each : ∀ i : Nat, i < len → ∃ p : α × List Value, All2 (RepI w noX) (rd p.1) p.2 ∧ p.2.length = sz ∧ (∀ j u, p.2[j]? = some u → w.cell? (a.add (i * sz + j)) = some u) ∧ ∃ y : DataW H × List MemPlace, elems[i]? = some y ∧ Fit p.1 (Rows.uptoBulk y.1) := by
        intro i hi
        have h1 := hel i hi
        obtain ⟨y, hy⟩ : ∃ y, elems[i]? = some y := ⟨_, List.getElem?_eq_getElem (by omega)⟩
        rw [hy, hc] at h1
        obtain ⟨c, hcs, htr⟩ := Option.bind_eq_some_iff.1 h1
        obtain ⟨p, hK, hF⟩ := he.get htr
        have hcl : c.length = sz := by rw [← hK.length, he.len]
        refine ⟨(p, c), hK, hcl, fun j u hj => ?_, y, hy, hF⟩
        unfold World.cells? at hcs
        rw [if_pos (Nat.zero_le _)] at hcs
        have hj2 : j < sz := by
          have := (List.getElem?_eq_some_iff.1 hj).1
          rw [← hcl]
          exact this
        have := mapM_some_get hcs j j (List.getElem?_range hj2)
        rw [← qmh, this, hj]
      obtain ⟨xs, hxl, hxq⟩ := qgf len each
      have hall : ∀ p ∈ xs, ∃ i, xs[i]? = some p := fun p hp => by
        obtain ⟨j, hj, rfl⟩ := List.getElem_of_mem hp
        exact ⟨j, List.getElem?_eq_getElem hj⟩
      refine ⟨xs.map Prod.fst, .cons ?_ .nil, ?_, ?_⟩
      · by_cases h0 : xs = []
        · subst h0
          simp at hxl
          subst hxl
          exact .nil _ _
        · have hr2 : ∀ r ∈ xs.map Prod.snd, r.length = sz := by
            intro r hr
            obtain ⟨p, hp, rfl⟩ := List.mem_map.1 hr
            obtain ⟨i, hi⟩ := hall p hp
            exact (hxq i p hi).2.1
          refine .sl _ a len cap sz (xs.map Prod.snd).flatten (by simpa using h0) hsz (by simp [hxl]) hl (fun h => h) ?_ ?_ (qew fun p hp => ?_)
          · intro r hr
            obtain ⟨p, _, rfl⟩ := List.mem_map.1 hr
            exact he.len p
          · intro k u hk
            have hk2 := (List.getElem?_eq_some_iff.1 hk).1
            rw [qae hr2] at hk2
            have hdm : k = k / sz * sz + k % sz := by rw [Nat.mul_comm]; exact (Nat.div_add_mod k sz).symm
            have hlt : k / sz < (xs.map Prod.snd).length := (Nat.div_lt_iff_lt_mul hsz).2 hk2
            obtain ⟨r, hr⟩ : ∃ r, (xs.map Prod.snd)[k / sz]? = some r := ⟨_, List.getElem?_eq_getElem hlt⟩
            have hg := qha hr2 hr (Nat.mod_lt k hsz)
            rw [← hdm, hk] at hg
            rw [List.getElem?_map] at hr
            obtain ⟨p, hp, rfl⟩ := Option.map_eq_some_iff.1 hr
            have := (hxq _ p hp).2.2.1 _ u hg.symm
            rw [← hdm] at this
            exact this
          · obtain ⟨i, hi⟩ := hall p hp
            exact (hxq i p hi).1
      · have h1 := qg9 (elems.map (·.1))
        simp [Rows.uptoBulk] at h1 ⊢
        omega
      · intro p hp
        obtain ⟨q, hq, rfl⟩ := List.mem_map.1 hp
        obtain ⟨i, hi⟩ := hall q hq
        obtain ⟨_, _, _, y, hy, hF⟩ := hxq i q hi
        refine he.mono ?_ hF
        have hm : y.1 ∈ elems.map (·.1) := List.mem_map_of_mem (List.mem_of_getElem? hy)
        have := qku hm
        simp only [Rows.uptoBulk]
        omega
structure OpensF (P : Program) (fs : List Field) (o : Nat) (rd : α → List IV) (sz : Nat) (Fit : α → Nat → Prop) : Prop where
  len : ∀ a, (rd a).length = sz
  get : ∀ {H : Type} {enc : TypeId × Value → H} {w : World} {spare : Nat → Bool} {held : Bool} {fuel : Nat} {cs : List Value} {xs : List (DataW H × List MemPlace)}, cs.length = o + sz →
    (fs.mapM fun f => DataW.trod enc P w 0 spare held fuel f.type ((cs.drop f.offset).take (P.cellsOf f.type))) = some xs → ∃ a : α, All2 (RepI w noX) (rd a) (cs.drop o) ∧ Fit a (Rows.uptoBulkAll (xs.map (·.1)))
  mono : ∀ {a : α} {b b' : Nat}, b ≤ b' → Fit a b → Fit a b'
theorem OpensF.one {f : Field} {o : Nat} {rd : α → List IV} {sz : Nat} {Fit : α → Nat → Prop} (h : Opens P f.type rd sz Fit) (ho : f.offset = o) (hc : P.cellsOf f.type = sz) : OpensF P [f] o rd sz Fit where
  len := h.len
  mono := h.mono
  get := by
    intro H enc w spare held fuel cs xs hl hx
    have h0 := mapM_some_get hx 0 f rfl
    have hlen := mapM_some_length hx
    obtain ⟨y, rfl⟩ : ∃ y, xs = [y] := by
      match xs, hlen with
      | [y], _ => exact ⟨y, rfl⟩
    simp at h0
    rw [ho, hc, List.take_of_length_le (by simp; omega)] at h0
    obtain ⟨a, hK, hF⟩ := h.get h0
    exact ⟨a, hK, h.mono (by simp [Rows.uptoBulkAll]) hF⟩
theorem OpensF.cons {f : Field} {fs : List Field} {o : Nat} {rd : α → List IV} {rd2 : β → List IV} {sz sz2 : Nat} {Fit : α → Nat → Prop} {Fit2 : β → Nat → Prop} (h : Opens P f.type rd sz Fit) (ho : f.offset = o) (hc : P.cellsOf f.type = sz) (h2 : OpensF P fs (o + sz) rd2 sz2 Fit2) :
    OpensF P (f :: fs) o (fun p : α × β => rd p.1 ++ rd2 p.2) (sz + sz2) (fun x b => Fit x.1 b ∧ Fit2 x.2 b) where
  len := fun p => by rw [List.length_append, h.len, h2.len]
  mono := fun hb hf => ⟨h.mono hb hf.1, h2.mono hb hf.2⟩
  get := by
    intro H enc w spare held fuel cs xs hl hx
    have hlen := mapM_some_length hx
    obtain ⟨y, ys, rfl⟩ : ∃ y ys, xs = y :: ys := by
      match xs, hlen with
      | y :: ys, _ => exact ⟨y, ys, rfl⟩
    have h0 := mapM_some_get hx 0 f rfl
    simp at h0
    rw [ho, hc] at h0
    obtain ⟨a, hK, hF⟩ := h.get h0
    have hx2 : (fs.mapM fun f => DataW.trod enc P w 0 spare held fuel f.type ((cs.drop f.offset).take (P.cellsOf f.type))) = some ys := by
      simp only [List.mapM_cons, Option.bind_eq_bind, Option.bind_eq_some_iff] at hx
      obtain ⟨y', hy', ys', hys, he⟩ := hx
      simp at he
      rw [hys, he.2]
    obtain ⟨b, hK2, hF2⟩ := h2.get (by rw [hl]; omega) hx2
    refine ⟨(a, b), ?_, h.mono (by simp [Rows.uptoBulkAll]) hF, h2.mono (by simp [Rows.uptoBulkAll]) hF2⟩
    have := hK.append hK2
    rw [← List.drop_drop, List.take_append_drop] at this
    exact this
theorem ybk {t : TypeId} {fs : Array Field} {rd : α → List IV} {sz : Nat} {Fit : α → Nat → Prop} (ht : P.underlying t = some (.struct fs)) (hf : OpensF P fs.toList 0 rd sz Fit) (hc : P.cellsOf t = sz) : Opens P t rd sz Fit where
  len := hf.len
  mono := fun hb h => hf.mono hb h
  get := by
    intro H enc w spare held fuel cs x h
    cases fuel with
    | zero => simp [DataW.trod] at h
    | succ n =>
      unfold DataW.trod at h
      rw [ht] at h
      simp only at h
      split at h
      · rename_i hl
        obtain ⟨xs, hxs, rfl⟩ := Option.map_eq_some_iff.1 h
        obtain ⟨a, hK, hF⟩ := hf.get (by rw [hl, hc]; omega) hxs
        refine ⟨a, by simpa using hK, hf.mono (by simp [Rows.uptoBulk]) hF⟩
      · cases h
theorem Opens.iso {t : TypeId} {rd : α → List IV} {rd' : β → List IV} {sz : Nat} {Fit : α → Nat → Prop} {Fit' : β → Nat → Prop} (h : Opens P t rd sz Fit) (g : α → β) (hr : ∀ a, rd' (g a) = rd a) (gi : β → α) (hg : ∀ b, g (gi b) = b) (hf : ∀ a b, Fit a b → Fit' (g a) b) (hm : ∀ {a : β} {b b' : Nat}, b ≤ b' → Fit' a b → Fit' a b') : Opens P t rd' sz Fit' where
  len := fun b => by rw [← hg b, hr]; exact h.len _
  mono := hm
  get := by
    intro H enc w spare held fuel cs x hx
    obtain ⟨a, h1, h2⟩ := h.get hx
    exact ⟨g a, by rw [hr]; exact h1, hf _ _ h2⟩
end Go.Proofs.YtmhejcnaanocpaaGreat.A
namespace Go.Proofs.YtmhejcnaanocpaaGreat.A
open Go.RowKit
set_option linter.unusedVariables false
set_option linter.unusedSimpArgs false
theorem opName : Opens Tryz.prog 39 Name.iv 3 (fun _ _ => True) :=
  (ybk Tryz.underlying39 (.cons (.string Tryz.underlying9) rfl (by kernel_rfl) (.cons (.string Tryz.underlying9) rfl (by kernel_rfl) (.one (.string Tryz.underlying9) rfl (by kernel_rfl)))) (by kernel_rfl)).iso
    (fun p => ⟨p.1, p.2.1, p.2.2⟩) (fun _ => rfl) (fun n => (n.sp, n.pf, n.lc)) (fun _ => rfl) (fun _ _ _ => trivial) (fun _ h => h)
theorem opAttr : Opens Tryz.prog 104 Attr.iv 4 (fun _ _ => True) :=
  (ybk Tryz.underlying104 (.cons opName rfl (by kernel_rfl) (.one (.string Tryz.underlying9) rfl (by kernel_rfl))) (by kernel_rfl)).iso
    (fun p => ⟨p.1, p.2⟩) (fun _ => rfl) (fun n => (n.name, n.value)) (fun _ => rfl) (fun _ _ _ => trivial) (fun _ h => h)
theorem opNode : Opens Tryz.prog 44 Node.iv 16 (fun n b => n.data.length < b ∧ n.attrs.length < b ∧ n.kids.length < b) :=
  (ybk Tryz.underlying44 (.cons (.int Tryz.underlying37) rfl (by kernel_rfl) (.cons opName rfl (by kernel_rfl) (.cons (.string Tryz.underlying9) rfl (by kernel_rfl) (.cons (.string Tryz.underlying9) rfl (by kernel_rfl)
    (.cons (.slice Tryz.underlying36 (by kernel_rfl) (by decide) (.int Tryz.underlying55)) rfl (by kernel_rfl) (.cons (.slice Tryz.underlying40 (by kernel_rfl) (by decide) opAttr) rfl (by kernel_rfl)
    (.cons (.int Tryz.underlying3) rfl (by kernel_rfl) (.cons (.slice Tryz.underlying41 (by kernel_rfl) (by decide) (.int Tryz.underlying3)) rfl (by kernel_rfl)
    (.cons (.int Tryz.underlying3) rfl (by kernel_rfl) (.cons (.int Tryz.underlying3) rfl (by kernel_rfl) (.cons (.int Tryz.underlying3) rfl (by kernel_rfl) (.cons (.int Tryz.underlying42) rfl (by kernel_rfl) (.cons (.bool Tryz.underlying4) rfl (by kernel_rfl) (.one (.bool Tryz.underlying4) rfl (by kernel_rfl))))))))))))))) (by kernel_rfl)).iso
    (fun p => ⟨p.1, p.2.1, p.2.2.1, p.2.2.2.1, p.2.2.2.2.1, p.2.2.2.2.2.1, p.2.2.2.2.2.2.1, p.2.2.2.2.2.2.2.1, p.2.2.2.2.2.2.2.2.1, p.2.2.2.2.2.2.2.2.2.1, p.2.2.2.2.2.2.2.2.2.2.1, p.2.2.2.2.2.2.2.2.2.2.2.1, p.2.2.2.2.2.2.2.2.2.2.2.2.1, p.2.2.2.2.2.2.2.2.2.2.2.2.2⟩) (fun _ => rfl)
    (fun n => (n.kind, n.name, n.pub, n.sys, n.data, n.attrs, n.parent, n.kids, n.doc, n.host, n.shadow, n.mode, n.manual, n.html)) (fun _ => rfl) (fun _ _ h => ⟨h.2.2.2.2.1.1, h.2.2.2.2.2.1.1, h.2.2.2.2.2.2.2.1.1⟩) (fun h h2 => ⟨Nat.lt_of_lt_of_le h2.1 h, Nat.lt_of_lt_of_le h2.2.1 h, Nat.lt_of_lt_of_le h2.2.2 h⟩)
theorem opForest : Opens Tryz.prog 24 (fun f : List Node => [.sl (f.map Node.iv)]) 1 (fun f b => f.length < b ∧ ∀ n ∈ f, n.data.length < b ∧ n.attrs.length < b ∧ n.kids.length < b) :=
  ybk Tryz.underlying24 (.one (.slice Tryz.underlying22 (by kernel_rfl) (by decide) opNode) rfl (by kernel_rfl)) (by kernel_rfl)
theorem fit_bulk {f : List Node} {b : Nat} (hb : b ≤ 1048577) (h : f.length < b ∧ ∀ n ∈ f, n.data.length < b ∧ n.attrs.length < b ∧ n.kids.length < b) : Fit f :=
  ⟨by omega, fun n hn => by have := h.2 n hn; exact ⟨by omega, by omega, by omega⟩⟩
theorem argForest {w : World} {f : List Node} {cs : List Value} (h : All2 (RepI w noX) [.sl (f.map Node.iv)] cs) : RepA (M0 w noX) (fav f) (.agg cs.toArray) :=
  .agg _ _ (by
    cases h with
    | cons h1 h2 => cases h2; exact .cons (.imm _ _ h1) .nil)
theorem argInt {w : World} {k : IntKind} {n : Int} {v : Value} (h : All2 (RepI w noX) [.int k n] [v]) : RepA (M0 w noX) (.imm (.int k n)) v := by
  cases h with
  | cons h1 h2 => exact .imm _ _ h1
theorem Opens.intR {P : Program} {t : TypeId} {k : IntKind} (ht : P.underlying t = some (.int k)) : Opens P t (fun n : Int => [.int k n]) 1 (fun n _ => k.min ≤ n ∧ n ≤ k.max) where
  len := fun _ => rfl
  mono := fun _ h => h
  get := by
    intro H enc w spare held fuel cs x h
    obtain ⟨n, rfl, rfl, hw⟩ := DataW.trod_int ht h
    refine ⟨n, .cons (.int _ _) .nil, ?_⟩
    unfold Lit.wf at hw
    rw [Bool.and_eq_true] at hw
    exact ⟨of_decide_eq_true hw.1, of_decide_eq_true hw.2⟩
theorem u32lo {n : Int} (h : IntKind.u32.min ≤ n ∧ n ≤ IntKind.u32.max) : 0 ≤ n := h.1
theorem u32hi {n : Int} (h : IntKind.u32.min ≤ n ∧ n ≤ IntKind.u32.max) : n < 4294967296 := by
  have : IntKind.u32.max = 4294967295 := by decide
  omega
end Go.Proofs.YtmhejcnaanocpaaGreat.A
namespace Go.Proofs.YtmhejcnaanocpaaGreat.chardataAsks
open Go.ChangeShapes Go.WideShapes Go.ChangeAt Go.RowKit Go.Proofs.YtmhejcnaanocpaaGreat.A
set_option linter.unusedVariables false
theorem own : ownKnob Tryz.prog.godebug = none := by kernel_rfl
theorem laidOut : laidOutB Tryz.prog = true := by kernel_rfl
set_option maxRecDepth 100000 in
theorem contract (H : Type) (enc : TypeId × Value → H) (W : World) (base : Nat) (args : Array Value) (ds gs : List (DataW H)) (before : List MemPlace)
    (hval0 : ∀ (j : Nat) t v, Tryz.f10.params[j]? = some t → args[j]? = some v → Value.okWide Tryz.prog W .any base t v)
    (hW : DataW.Whole enc Tryz.prog Tryz.f10.params.toList Rows.chardataAsksSpec.vars false W args.toList ds gs before) (hk : Rows.uptoSmall H (ds ++ gs) = true) :
    Calls Tryz.prog 10 args W fun e W' => ∃ v, e = .returned v ∧ Rows.chardataAsksSpec.post enc Tryz.prog Tryz.f10 false true false false W args v W' := by
  have hval : ∀ (j : Nat) t v, Tryz.f10.params[j]? = some t → args[j]? = some v → Value.okWide Tryz.prog W .any base t v := hval0
  have hW' := hW
  obtain ⟨p, q, hA0, hV, rfl, hfz, hnd⟩ := hW
  have hA : DataW.TrodAll enc Tryz.prog W 0 (fun _ => true) true Tryz.f10.params.toList args.toList ds p := hA0
  rw [Tryz.params10] at hA hval
  obtain ⟨v0, vs0, d0, ds0, p0, q0, hargs, rfl, rfl, h0, r0⟩ := trodAll_cons hA
  obtain ⟨v1, vs1, d1, ds1, p1, q1, rfl, rfl, rfl, h1, r1⟩ := trodAll_cons r0
  obtain ⟨v2, vs2, d2, ds2, p2, q2, rfl, rfl, rfl, h2, r2⟩ := trodAll_cons r1
  obtain ⟨v3, vs3, d3, ds3, p3, q3, rfl, rfl, rfl, h3, r3⟩ := trodAll_cons r2
  obtain ⟨rfl, rfl, rfl⟩ := trodAll_nil r3
  obtain rfl : args = #[v0, v1, v2, v3] := by cases args; simp_all
  obtain ⟨rfl, rfl⟩ := trodVars_none hV
  have hb : Rows.uptoBulkAll ([d0, d1, d2, d3] : List (DataW H)) ≤ 1048576 := by
    have h_ := of_decide_eq_true hk
    simpa only [List.append_nil] using h_
  clear hk
  have lt0 : ∀ x ∈ p0, x.block < W.heap.size := by obtain ⟨m, hm⟩ := h0; exact DataW.trod_lt m _ _ _ hm
  have lt1 : ∀ x ∈ p1, x.block < W.heap.size := by obtain ⟨m, hm⟩ := h1; exact DataW.trod_lt m _ _ _ hm
  have lt2 : ∀ x ∈ p2, x.block < W.heap.size := by obtain ⟨m, hm⟩ := h2; exact DataW.trod_lt m _ _ _ hm
  have lt3 : ∀ x ∈ p3, x.block < W.heap.size := by obtain ⟨m, hm⟩ := h3; exact DataW.trod_lt m _ _ _ hm
  have b0 : Rows.uptoBulk d0 ≤ 1048576 := Nat.le_trans (qku (by simp)) hb
  have k0 := h0
  have k1 := h1
  have k2 := h2
  have k3 := h3
  obtain ⟨m0, hm0⟩ := k0
  obtain ⟨x0, K0, F0⟩ := opForest.get hm0
  replace F0 := opForest.mono (Nat.le_succ_of_le b0) F0
  obtain ⟨cs0, rfl, _⟩ := okWide_struct Tryz.underlying24 (hval 0 24 v0 rfl rfl)
  obtain ⟨m1, hm1⟩ := k1
  obtain ⟨x1, K1, _⟩ := (Opens.int Tryz.underlying3).get hm1
  obtain ⟨z1, rfl, _, _, _⟩ := open_int Tryz.underlying3 (hval 1 3 v1 rfl rfl) h1
  obtain ⟨m2, hm2⟩ := k2
  obtain ⟨x2, K2, R2⟩ := (Opens.intR Tryz.underlying25).get hm2
  obtain ⟨z2, rfl, _, _, _⟩ := open_int Tryz.underlying25 (hval 2 25 v2 rfl rfl) h2
  obtain ⟨m3, hm3⟩ := k3
  obtain ⟨x3, K3, R3⟩ := (Opens.intR Tryz.underlying25).get hm3
  obtain ⟨z3, rfl, _, _, _⟩ := open_int Tryz.underlying25 (hval 3 25 v3 rfl rfl) h3
  refine ((asks_all x0 x1 x2 x3 (fit_bulk (Nat.le_refl _) F0) (u32lo R2) (u32hi R2) (u32lo R3) (u32hi R3)).2 W noX _ (fun b h => h.elim) (.cons (argForest K0) (.cons (argInt K1) (.cons (argInt K2) (.cons (argInt K3) .nil))))).mono fun e W' ⟨x, he, bel, hx⟩ => ?_
  subst he
  obtain rfl : x = .bool true := by
    cases hx with
    | imm _ _ h => exact h.bool_inv
  exact ⟨_, rfl, _, _, _, [], _, [], hW', trodAll_mk1 (shut_bool Tryz.underlying4 _), (trodAll_cons_mk (Below.trod laidOut (by kernel_rfl) (of_decide_eq_true (by kernel_rfl)) h0 bel lt0) (trodAll_cons_mk (Below.trod laidOut (by kernel_rfl) (of_decide_eq_true (by kernel_rfl)) h1 bel lt1) (trodAll_cons_mk (Below.trod laidOut (by kernel_rfl) (of_decide_eq_true (by kernel_rfl)) h2 bel lt2) (trodAll_cons_mk (Below.trod laidOut (by kernel_rfl) (of_decide_eq_true (by kernel_rfl)) h3 bel lt3) trodAll_mk0)))), rfl, bel.frame _, fun h => by cases h⟩
set_option maxRecDepth 100000 in
theorem lifted (os : Os) (started : os.Started) (H : Type) (enc : TypeId × Value → H) (F : Stop.Interp) :
    ReturnsInHanded {} Tryz.checked os 10 .any ((Rows.OpenSpec.upto Rows.chardataAsksSpec).pre6 enc Tryz.prog Tryz.f10 Rows.chardataAsksUptoRow.domain false) (((Rows.OpenSpec.upto Rows.chardataAsksSpec).at F).post enc Tryz.prog Tryz.f10 false true false false) := by
  refine returnsInHanded_of_cond (C := Tryz.checked) (s := Rows.OpenSpec.upto Rows.chardataAsksSpec) (k := Rows.uptoSmall) rfl own started (by kernel_rfl) Tryz.func10
    (OpenSpec.witness (enc := enc) (C := Tryz.checked) (s := Rows.OpenSpec.upto Rows.chardataAsksSpec) (k := Rows.uptoSmall) rfl false ⟨#[], #[.agg #[.slice none 0 0], .int .i64 0, .int .u32 0, .int .u32 0], []⟩ 8 (by kernel_rfl) (by kernel_rfl) (by kernel_rfl)
      (x := ([.agg [.nil], .lit (.int .i64 0), .lit (.int .u32 0), .lit (.int .u32 0)], [], [])) (by kernel_rfl) rfl (by kernel_rfl)) ?_
  intro W base args ds gs before hval hW _ hk _
  exact contract H enc W base args ds gs before hval hW hk
theorem over : Rows.chardataAsksUptoRow.holds Tryz.pinned (Rows.OpenSpec.upto Rows.chardataAsksSpec) :=
  OpenClaim.holds_of_cond 10 Tryz.f10 rfl rfl rfl rfl rfl rfl rfl ⟨rfl, rfl, rfl, rfl, rfl⟩ rfl rfl rfl rfl rfl (by kernel_rfl) Tryz.func10 (by kernel_rfl)
    (of_decide_eq_true (by kernel_rfl)) (by unfold Func.isWrapper; first | (rw [if_pos (by decide +kernel)]; kernel_rfl) | (rw [if_neg (by decide +kernel)]; exact ⟨rfl, rfl⟩))
    (fun os started H enc _ F => lifted os started H enc F)
end Go.Proofs.YtmhejcnaanocpaaGreat.chardataAsks
namespace Go.Proofs.YtmhejcnaanocpaaGreat
theorem chardataAsks_holds : Rows.ChardataAsksUptoSaid := chardataAsks.over
#print axioms chardataAsks_holds
end Go.Proofs.YtmhejcnaanocpaaGreat
