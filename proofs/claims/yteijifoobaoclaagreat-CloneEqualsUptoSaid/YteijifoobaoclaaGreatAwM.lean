/- The abstract walk, part M: one operation by one function; weaker states. -/
import Derived.Test.YteijifoobaoclaaGreatAwL
namespace Go.Proofs.YteijifoobaoclaaGreat.A
open Go.RowKit
set_option linter.unusedVariables false
set_option linter.unusedSimpArgs false
noncomputable def bBin (T : List (Nat × TI)) (op : BinOp) (t : TypeId) (x y : AV) : Option Bool :=
  match x, y with
  | .imm (.int k m), .imm (.int k2 n) => if k = k2 then iCmp op m n else none
  | .imm (.str m), .imm (.str n) => sCmp op m n
  | .imm (.bool m), .imm (.bool n) => (match look T t with
    | some i => (match (match i.kd with | .bool => true | _ => false) with
      | true => bCmp op m n
      | false => none)
    | none => none)
  | _, _ => none
def putO (s : St) (d : Option Nat) : Option AV → Option St
  | some v => some (s.put d v)
  | none => none
def putN (d : Option Nat) : Option (AV × St) → Option St
  | some (v, s1) => some (s1.put d v)
  | none => none
noncomputable def aop (T : List (Nat × TI)) (s : St) (o : Oper) : Option St :=
  match o.op with
  | .move x => putO s o.dst (s.ev x)
  | .assign x => putO s o.dst (s.ev x)
  | .pick c x y => (match s.ev c with
    | some (.imm (.bool b)) => putO s o.dst (s.ev (pk b x y))
    | _ => none)
  | .alloc t => (match look T t with
    | some i => putN o.dst (aNew s t i.zero i.sz)
    | none => none)
  | .box t x => (match s.ev x with
    | some q => putN o.dst (aNew s t (avCells q) (len (avCells q)))
    | none => none)
  | .load t p => (match s.ev p with
    | some q => putO s o.dst (aLoad T s t q)
    | none => none)
  | .store t p x => (match o.dst with
    | some _ => none
    | none => (match s.ev p with
      | some q => (match s.ev x with
        | some v => aStore T s t q v
        | none => none)
      | none => none))
  | .fieldAddr t x f => (match s.ev x with
    | some q => (match curB s q with
      | true => putO s o.dst (aFieldAddr T t f q)
      | false => none)
    | none => none)
  | .field t x f => (match s.ev x with
    | some q => putO s o.dst (aField T t f q)
    | none => none)
  | .extract x i => (match s.ev x with
    | some q => putO s o.dst (aEx i q)
    | none => none)
  | .unOp .not t x => (match s.ev x with
    | some (.imm (.bool b)) => some (s.put o.dst (.imm (.bool !b)))
    | _ => none)
  | .binOp op t x y _ => (match s.ev x with
    | some q => (match s.ev y with
      | some r => (match bBin T op t q r with
        | some b => some (s.put o.dst (.imm (.bool b)))
        | none => none)
      | none => none)
    | none => none)
  | .nilCheck x => (match s.ev x with
    | some q => (match isPtr s q with
      | true => some (s.put o.dst q)
      | false => none)
    | none => none)
  | .build t ps => (match look T t with
    | some i => (match i.flds with
      | [] => none
      | _ :: _ => (match evps s ps.toList with
        | some vs => (match aFill (fplace i) i.zero vs with
          | some l => some (s.put o.dst (.agg l))
          | none => none)
        | none => none))
    | none => none)
  | .buildSlice t n ps => (match look T t with
    | some i => (match i.kd with
      | .sl e => (match look T e with
        | some ie => (match Nat.ble (n * ie.sz) 16777216 with
          | true => (match evps s ps.toList with
            | some vs => (match aFill (fun j => some (j * ie.sz, ie.sz)) (reps n ie.zero) vs with
              | some l => putN o.dst (aLit s e ie.sz n l)
              | none => none)
            | none => none)
          | false => none)
        | none => none)
      | _ => none)
    | none => none)
  | .makeFunc (.func f) first caps => (match first.toList with
    | [] => (match evs s caps.toList with
      | some vs => some (s.put o.dst (aFn f vs))
      | none => none)
    | _ :: _ => none)
  | .call ⟨.builtin .len, args, ats⟩ => (match args.toList with
    | [x] => (match ats.toList with
      | [t] => (match look T t with
        | some i => (match s.ev x with
          | some q => (match aLen s i q with
            | some n => some (s.put o.dst (.imm (.int .i64 n)))
            | none => none)
          | none => none)
        | none => none)
      | _ => none)
    | _ => none)
  | _ => none
section
variable {C : Cx} {s : St} {γ : Nat → Option Nat} {κ : Nat → Nat} {a : Act} {W : World} {o : Oper} {T : List (Nat × TI)} {l rest : List Oper} {Q : Exit → St → Prop}
theorem putO_some {d : Option Nat} {v : Option AV} {s1 : St} (h : putO s d v = some s1) : ∃ u, v = some u ∧ s1 = s.put d u := by
  cases v with
  | none => cases h
  | some u => exact ⟨u, rfl, (Option.some.inj h).symm⟩
theorem putN_some {d : Option Nat} {v : Option (AV × St)} {s1 : St} (h : putN d v = some s1) : ∃ u s2, v = some (u, s2) ∧ s1 = s2.put d u := by
  cases v with
  | none => cases h
  | some u => exact ⟨u.1, u.2, rfl, (Option.some.inj h).symm⟩
theorem aop_ok (hT : TsOK C.P T) (hd : dok C.nt o.dst = true) {s1 : St} (h : aop T s o = some s1) : OpOK C s o s1 := by
  unfold aop at h
  split at h
  · rename_i x ho
    obtain ⟨u, h1, rfl⟩ := putO_some h
    exact OpOK.move hd ho h1
  · rename_i x ho
    obtain ⟨u, h1, rfl⟩ := putO_some h
    exact OpOK.assign hd ho h1
  · rename_i c x y ho
    split at h
    · rename_i b hb
      obtain ⟨u, h1, rfl⟩ := putO_some h
      exact OpOK.pick hd ho hb h1
    · cases h
  · rename_i t ho
    split at h
    · rename_i i hi
      obtain ⟨u, s2, h1, rfl⟩ := putN_some h
      exact OpOK.alloc hT hd ho hi h1
    · cases h
  · rename_i t x ho
    split at h
    · rename_i q hq
      obtain ⟨u, s2, h1, rfl⟩ := putN_some h
      exact OpOK.box hd ho hq h1
    · cases h
  · rename_i t p ho
    split at h
    · rename_i q hq
      obtain ⟨u, h1, rfl⟩ := putO_some h
      exact OpOK.load hT hd ho hq h1
    · cases h
  · rename_i t p x ho
    split at h
    · cases h
    · rename_i hn
      split at h
      · rename_i q hq
        split at h
        · rename_i v hv
          exact OpOK.store hT hn ho hq hv h
        · cases h
      · cases h
  · rename_i t x f ho
    split at h
    · rename_i q hq
      split at h
      · rename_i hc
        obtain ⟨u, h1, rfl⟩ := putO_some h
        exact OpOK.fieldAddr hT hd ho hq hc h1
      · cases h
    · cases h
  · rename_i t x f ho
    split at h
    · rename_i q hq
      obtain ⟨u, h1, rfl⟩ := putO_some h
      exact OpOK.field hT hd ho hq h1
    · cases h
  · rename_i x i ho
    split at h
    · rename_i q hq
      obtain ⟨u, h1, rfl⟩ := putO_some h
      exact OpOK.extract hd ho hq h1
    · cases h
  · rename_i t x ho
    split at h
    · rename_i b hb
      obtain rfl := Option.some.inj h
      exact OpOK.not hd ho hb
    · cases h
  · rename_i op t x y t2 ho
    split at h
    · rename_i q hq
      split at h
      · rename_i r hr
        split at h
        · rename_i b hb
          obtain rfl := Option.some.inj h
          unfold bBin at hb
          split at hb
          · split at hb
            · rename_i e
              subst e
              exact OpOK.cmp hd ho hq hr hb
            · cases hb
          · exact OpOK.scmp hd ho hq hr hb
          · split at hb
            · rename_i i hi
              split at hb
              · rename_i hk
                exact OpOK.bcmp hT hd ho hi hk hq hr hb
              · cases hb
            · cases hb
          · cases hb
        · cases h
      · cases h
    · cases h
  · rename_i x ho
    split at h
    · rename_i q hq
      split at h
      · rename_i hp
        obtain rfl := Option.some.inj h
        exact OpOK.nilCheck hd ho hq hp
      · cases h
    · cases h
  · rename_i t ps ho
    split at h
    · rename_i i hi
      split at h
      · cases h
      · rename_i f fs hf
        split at h
        · rename_i vs hvs
          split at h
          · rename_i l hl
            obtain rfl := Option.some.inj h
            exact OpOK.build hT hd ho hi (by rw [hf]; simp) hvs hl
          · cases h
        · cases h
    · cases h
  · rename_i t n ps ho
    split at h
    · rename_i i hi
      split at h
      · rename_i e hk
        split at h
        · rename_i ie hie
          split at h
          · rename_i hn
            split at h
            · rename_i vs hvs
              split at h
              · rename_i l hl
                obtain ⟨u, s2, h1, rfl⟩ := putN_some h
                exact OpOK.buildSlice hT hd ho hi hk hie hvs hl (Nat.le_of_ble_eq_true hn) h1
              · cases h
            · cases h
          · cases h
        · cases h
      · cases h
    · cases h
  · rename_i f first caps ho
    split at h
    · rename_i hf
      split at h
      · rename_i vs hvs
        obtain rfl := Option.some.inj h
        have e : first = #[] := by apply Array.toList_inj.1; simpa using hf
        subst e
        exact OpOK.makeFunc hd ho hvs
      · cases h
    · cases h
  · rename_i args ats ho
    split at h
    · rename_i x hx
      split at h
      · rename_i t ht
        split at h
        · rename_i i hi
          split at h
          · rename_i q hq
            split at h
            · rename_i n hn
              obtain rfl := Option.some.inj h
              have e1 : args = #[x] := by apply Array.toList_inj.1; simpa using hx
              have e2 : ats = #[t] := by apply Array.toList_inj.1; simpa using ht
              subst e1 e2
              exact OpOK.blen hT hd ho hi hq hn
            · cases h
          · cases h
        · cases h
      · cases h
    · cases h
  · cases h
noncomputable def astep (T : List (Nat × TI)) (nt : Nat) (l : List Oper) (s : St) (o : Oper) : Option St :=
  match awant l s o with
  | some true => (match dok nt o.dst with
    | true => aop T s o
    | false => none)
  | some false => (match dok nt o.dst with
    | true => some (s.put o.dst .undef)
    | false => none)
  | none => none
theorem AL.step (hT : TsOK C.P T) {e1 : List (Nat × AV)} {h1 : List Blk} (h : astep T C.nt l s o = some ⟨e1, h1⟩) (k : AL C l Q rest ⟨e1, h1⟩) : AL C l Q (o :: rest) s := by
  unfold astep at h
  split at h
  · rename_i hw
    split at h
    · rename_i hd
      exact AL.op hw (aop_ok hT hd h) k
    · cases h
  · rename_i hw
    split at h
    · rename_i hd
      have e := Option.some.inj h
      rw [← e] at k
      exact AL.skip hw hd k
    · cases h
  · cases h
-- weaker states
def EnvLe (e : List (Nat × AV)) : List (Nat × AV) → Prop
  | [] => True
  | (t, v) :: r => get e t = some v ∧ EnvLe e r
def AV.sc0 (k : Nat) : AV → Bool
  | .imm _ => true
  | .nils => true
  | .nocap => true
  | .pin _ => true
  | .undef => true
  | .mp _ _ _ => true
  | .mpi _ _ => true
  | .ptr id _ _ _ => Nat.blt id k
  | .os id _ => Nat.blt id k
  | _ => false
def AV.sc1 (k : Nat) : AV → Bool
  | .fn _ caps => caps.all (AV.sc0 k)
  | .agg l => l.all (AV.sc0 k)
  | .tup l => l.all (AV.sc0 k)
  | v => v.sc0 k
def AV.sc (k : Nat) : AV → Bool
  | .agg l => l.all (AV.sc1 k)
  | .tup l => l.all (AV.sc1 k)
  | .fn _ caps => caps.all (AV.sc1 k)
  | v => v.sc1 k
theorem get_le {e : List (Nat × AV)} : ∀ {e1 : List (Nat × AV)}, EnvLe e e1 → ∀ {t : Nat} {v : AV}, get e1 t = some v → get e t = some v ∧ ∃ p ∈ e1, p.2 = v
  | [], _, t, v, h => by cases h
  | (d, u) :: r, hle, t, v, h => by
    simp only [get] at h
    split at h
    · rename_i hb
      have hb := Nat.eq_of_beq_eq_true hb
      subst hb
      obtain rfl := Option.some.inj h
      exact ⟨hle.1, (d, u), by simp, rfl⟩
    · obtain ⟨h1, p, h2, h3⟩ := get_le hle.2 h
      exact ⟨h1, p, by simp [h2], h3⟩
theorem sc0_keep {M M' : Mm} {k : Nat} (hW : M'.W = M.W) (hN : ∀ b, M'.N b → M.N b) (hγ : M'.γ = M.γ) (hκ : M'.κ = M.κ) (hh : ∀ id, id < k → M'.hp[id]? = M.hp[id]?) {v : AV} {x : Value} (h : RepA M v x) (hs : v.sc0 k = true) : RepA M' v x := by
  have himm : ∀ b, ¬ M.N b → (∃ o, M.W.heap[b]? = some o) → M'.W.heap[b]? = M.W.heap[b]? ∧ ¬ M'.N b := fun b hb _ => ⟨by rw [hW], fun h => hb (hN b h)⟩
  cases h with
  | imm v x h => exact .imm _ _ (h.keep himm)
  | nils => exact .nils
  | nocap A => exact .nocap A
  | undef => exact .undef
  | mp g ks vs h => exact .mp g ks vs (h.keep himm)
  | mpi g ks vs h => exact .mpi g ks vs (h.keep himm)
  | pin l ad ys h0 hb hy h =>
    refine .pin l ad ys h0 (fun h => hb (hN _ h)) ?_ (h.mono fun _ _ h => h.keep himm)
    rw [hW]; exact hy
  | ptr id ver row off b q hb hv hx =>
    have : id < k := by simpa [AV.sc0] using hs
    exact .ptr id ver row off b q (by rw [hh id this]; exact hb) hv (by rw [hγ]; exact hx)
  | os id n b A c d hb hv hx =>
    have : id < k := by simpa [AV.sc0] using hs
    exact .os id n b A c d (by rw [hh id this]; exact hb) hv (by rw [hγ, hκ]; exact hx)
  | _ => simp [AV.sc0] at hs
theorem all_keep {M M' : Mm} {f : AV → Bool} (hf : ∀ {v x}, RepA M v x → f v = true → RepA M' v x) {l : List AV} {xs : List Value} (h : All2 (RepA M) l xs) (hs : l.all f = true) : All2 (RepA M') l xs := by
  rw [List.all_eq_true] at hs
  exact h.mono_mem fun v x hm _ hr => hf hr (hs v hm)
theorem sc1_keep {M M' : Mm} {k : Nat} (hW : M'.W = M.W) (hN : ∀ b, M'.N b → M.N b) (hγ : M'.γ = M.γ) (hκ : M'.κ = M.κ) (hh : ∀ id, id < k → M'.hp[id]? = M.hp[id]?) {v : AV} {x : Value} (h : RepA M v x) (hs : v.sc1 k = true) : RepA M' v x := by
  have h0 : ∀ {v x}, RepA M v x → v.sc0 k = true → RepA M' v x := fun h hs => sc0_keep hW hN hγ hκ hh h hs
  cases h with
  | fn f caps xs h => exact .fn f caps xs (all_keep h0 h hs)
  | agg l xs h => exact .agg l xs (all_keep h0 h hs)
  | tup l xs h => exact .tup l xs (all_keep h0 h hs)
  | _ => exact h0 (by first | exact .imm _ _ ‹_› | exact .nils | exact .nocap _ | exact .undef | exact .pin _ _ _ ‹_› ‹_› ‹_› ‹_› | exact .mp _ _ _ ‹_› | exact .mpi _ _ _ ‹_› | exact .ptr _ _ _ _ _ _ ‹_› ‹_› ‹_› | exact .os _ _ _ _ _ _ ‹_› ‹_› ‹_›) hs
theorem sc_keep {M M' : Mm} {k : Nat} (hW : M'.W = M.W) (hN : ∀ b, M'.N b → M.N b) (hγ : M'.γ = M.γ) (hκ : M'.κ = M.κ) (hh : ∀ id, id < k → M'.hp[id]? = M.hp[id]?) {v : AV} {x : Value} (h : RepA M v x) (hs : v.sc k = true) : RepA M' v x := by
  have h0 : ∀ {v x}, RepA M v x → v.sc1 k = true → RepA M' v x := fun h hs => sc1_keep hW hN hγ hκ hh h hs
  cases h with
  | fn f caps xs h => exact .fn f caps xs (all_keep h0 h hs)
  | agg l xs h => exact .agg l xs (all_keep h0 h hs)
  | tup l xs h => exact .tup l xs (all_keep h0 h hs)
  | _ => exact h0 (by first | exact .imm _ _ ‹_› | exact .nils | exact .nocap _ | exact .undef | exact .pin _ _ _ ‹_› ‹_› ‹_› ‹_› | exact .mp _ _ _ ‹_› | exact .mpi _ _ _ ‹_› | exact .ptr _ _ _ _ _ _ ‹_› ‹_› ‹_› | exact .os _ _ _ _ _ _ ‹_› ‹_› ‹_›) hs
/-- Slots are forgotten, and the own blocks from number k on. -/
theorem Le.cut_same (k : Nat) {s1 : St} (hhp : s1.hp = s.hp.take k) (henv : EnvLe s.env s1.env) (hsc : s1.env.all (fun p => p.2.sc k) = true) (hblk : s1.hp.all (fun b => b.rows.all fun r => r.all (AV.sc1 k)) = true) (hl : C.hp0.length ≤ k) (hC : Conc C s γ κ a W) : Conc C s1 γ κ a W := by
  obtain ⟨e1, h1⟩ := s1
  simp only at hhp
  subst hhp
  have hlen : (s.hp.take k).length ≤ s.hp.length := by simp; omega
  have hget : ∀ id, id < k → (s.hp.take k)[id]? = s.hp[id]? := fun id hi => List.getElem?_take_of_lt hi
  have hN : ∀ b, nset C.X γ (s.hp.take k).length b → nset C.X γ s.hp.length b := by
    rintro b (h | ⟨i, hi, hg⟩)
    · exact .inl h
    · exact .inr ⟨i, by omega, hg⟩
  have hkeep : ∀ {v x}, RepA (s.mm C γ κ W) v x → v.sc k = true → RepA (St.mm ⟨e1, s.hp.take k⟩ C γ κ W) v x := fun h hs => sc_keep (M := s.mm C γ κ W) (M' := St.mm ⟨e1, s.hp.take k⟩ C γ κ W) rfl hN rfl rfl hget h hs
  have hkeep1 : ∀ {v x}, RepA (s.mm C γ κ W) v x → v.sc1 k = true → RepA (St.mm ⟨e1, s.hp.take k⟩ C γ κ W) v x := fun h hs => sc1_keep (M := s.mm C γ κ W) (M' := St.mm ⟨e1, s.hp.take k⟩ C γ κ W) rfl hN rfl rfl hget h hs
  rw [List.all_eq_true] at hsc hblk
  refine ⟨hC.size, hC.defers, ?_, ?_, fun i j g hi hj => hC.inj i j g (Nat.lt_of_lt_of_le hi hlen) (Nat.lt_of_lt_of_le hj hlen), fun i g hi => hC.own i g (Nat.lt_of_lt_of_le hi hlen), hC.xlt, hC.old, hC.hos, hC.htape, hC.hout, hC.hsize, ?_⟩
  · intro t v h
    obtain ⟨h1, p, h2, rfl⟩ := get_le henv h
    obtain ⟨x, h3, h4⟩ := hC.env t _ h1
    exact ⟨x, h3, hkeep h4 (hsc p h2)⟩
  · intro id b hb
    have hb' : (s.hp.take k)[id]? = some b := hb
    have hid : id < k := by
      have := (List.getElem?_eq_some_iff.1 hb').1
      simp at this; omega
    have hb0 : s.hp[id]? = some b := by rw [← hget id hid]; exact hb'
    have ho := hC.blk id b hb0
    have hs := hblk b (List.mem_of_getElem? hb')
    refine ⟨ho.pos, ho.rows, ho.cell, ho.cap, ho.capm, ?_⟩
    rcases ho.mem with h1 | ⟨g', ys', sp', h1, h2, h3, h4⟩
    · exact .inl h1
    · refine .inr ⟨g', ys', sp', h1, h2, h3, h4.mono_mem fun v x hm _ h => hkeep1 h ?_⟩
      obtain ⟨r, hr, hv⟩ := List.mem_flatten.1 hm
      rw [List.all_eq_true] at hs
      have := hs r hr
      rw [List.all_eq_true] at this
      exact this v hv
  · intro i b0 hb0
    obtain ⟨b, h1, h2⟩ := hC.lent i b0 hb0
    have : i < C.hp0.length := (List.getElem?_eq_some_iff.1 hb0).1
    exact ⟨b, by show (s.hp.take k)[i]? = _; rw [hget i (by omega)]; exact h1, h2⟩
theorem Le.cut (k : Nat) {s1 : St} (hhp : s1.hp = s.hp.take k) (henv : EnvLe s.env s1.env) (hsc : s1.env.all (fun p => p.2.sc k) = true) (hblk : s1.hp.all (fun b => b.rows.all fun r => r.all (AV.sc1 k)) = true) (hl : C.hp0.length ≤ k) : Le C s s1 :=
  fun γ κ a W hC => ⟨γ, κ, Le.cut_same k hhp henv hsc hblk hl hC⟩
end
theorem PureC.mk {P : Program} {f : FuncId} {fn : Func} {c : Code} {args : List AV} {r : AV} {T : List (Nat × TI)} (hT : TsOK P T) (hf : P.funcs[f]? = some fn) (nt : Nat) (rs : List ResultVar) (hb : fn.body = some c) (hn : (fn.name == "runtime.NumGoroutine") = false) (hnt : fn.ntmps = nt) (hrs : fn.results.toList = rs) (hlen : Nat.ble (len args) nt = true)
    (h : ∀ w0 X, AW ⟨P, X, [], fun _ => none, fun _ => 0, fun _ => False, w0, nt⟩ c (RQ ⟨P, X, [], fun _ => none, fun _ => 0, fun _ => False, w0, nt⟩ T rs r) ⟨params 0 args, []⟩) : PureC P f args r := by
  subst hnt hrs
  refine PureC.of_AW T hT hf hb hn ?_ h
  have := Nat.le_of_ble_eq_true hlen
  rwa [len_eq] at this
end Go.Proofs.YteijifoobaoclaaGreat.A
