/- The abstract walk, part M: one operation by one function; weaker states. -/
import Derived.Test.YtjjdabihnmilgaaGreatXRTGrpAD
import Derived.Orders
namespace Go.Proofs.YtjjdabihnmilgaaGreat.A
open Go.RowKit
set_option linter.unusedVariables false
set_option linter.unusedSimpArgs false
noncomputable def bBin (T : List (Nat × TI)) (op : BinOp) (t : TypeId) (x y : AV) : Option Bool :=
  match x, y with
  | .imm (.int k m), .imm (.int k2 n) => if k = k2 then iCmp op m n else none
  | .imm (.str m), .imm (.str n) => sCmp op m n
  | .imm (.bool m), .imm (.bool n) => (match look T t with
    | some i => (match (match i.kd with | .bool => true | _ => false) with
      | true => bCmp op m n
      | false => none)
    | none => none)
  | _, _ => none
def putO (s : St) (d : Option Nat) : Option AV → Option St
  | some v => some (s.put d v)
  | none => none
def putN (d : Option Nat) : Option (AV × St) → Option St
  | some (v, s1) => some (s1.put d v)
  | none => none
noncomputable def aop (T : List (Nat × TI)) (s : St) (o : Oper) : Option St :=
  match o.op with
  | .move x => putO s o.dst (s.ev x)
  | .assign x => putO s o.dst (s.ev x)
  | .pick c x y => (match s.ev c with
    | some (.imm (.bool b)) => putO s o.dst (s.ev (pk b x y))
    | _ => none)
  | .alloc t => (match look T t with
    | some i => putN o.dst (aNew s t i.zero i.sz)
    | none => none)
  | .box t x => (match s.ev x with
    | some q => putN o.dst (aNew s t (avCells q) (len (avCells q)))
    | none => none)
  | .load t p => (match s.ev p with
    | some q => putO s o.dst (aLoad T s t q)
    | none => none)
  | .store t p x => (match o.dst with
    | some _ => none
    | none => (match s.ev p with
      | some q => (match s.ev x with
        | some v => aStore T s t q v
        | none => none)
      | none => none))
  | .fieldAddr t x f => (match s.ev x with
    | some q => (match curB s q with
      | true => putO s o.dst (aFieldAddr T t f q)
      | false => none)
    | none => none)
  | .field t x f => (match s.ev x with
    | some q => putO s o.dst (aField T t f q)
    | none => none)
  | .extract x i => (match s.ev x with
    | some q => putO s o.dst (aEx i q)
    | none => none)
  | .unOp .not t x => (match s.ev x with
    | some (.imm (.bool b)) => some (s.put o.dst (.imm (.bool !b)))
    | _ => none)
  | .binOp op t x y _ => (match s.ev x with
    | some q => (match s.ev y with
      | some r => (match bBin T op t q r with
        | some b => some (s.put o.dst (.imm (.bool b)))
        | none => none)
      | none => none)
    | none => none)
  | .nilCheck x => (match s.ev x with
    | some q => (match isPtr s q with
      | true => some (s.put o.dst q)
      | false => none)
    | none => none)
  | .build t ps => (match look T t with
    | some i => (match i.flds with
      | [] => none
      | _ :: _ => (match evps s ps.toList with
        | some vs => (match aFill (fplace i) i.zero vs with
          | some l => some (s.put o.dst (.agg l))
          | none => none)
        | none => none))
    | none => none)
  | .buildSlice t n ps => (match look T t with
    | some i => (match i.kd with
      | .sl e => (match look T e with
        | some ie => (match Nat.ble (n * ie.sz) 16777216 with
          | true => (match evps s ps.toList with
            | some vs => (match aFill (fun j => some (j * ie.sz, ie.sz)) (reps n ie.zero) vs with
              | some l => putN o.dst (aLit s e ie.sz n l)
              | none => none)
            | none => none)
          | false => none)
        | none => none)
      | _ => none)
    | none => none)
  | .makeFunc (.func f) first caps => (match first.toList with
    | [] => (match evs s caps.toList with
      | some vs => some (s.put o.dst (aFn f vs))
      | none => none)
    | _ :: _ => none)
  | .call ⟨.builtin .len, args, ats⟩ => (match args.toList with
    | [x] => (match ats.toList with
      | [t] => (match look T t with
        | some i => (match s.ev x with
          | some q => (match aLen s i q with
            | some n => some (s.put o.dst (.imm (.int .i64 n)))
            | none => none)
          | none => none)
        | none => none)
      | _ => none)
    | _ => none)
  | _ => none
section
variable {C : Cx} {s : St} {γ : Nat → Option Nat} {κ : Nat → Nat} {a : Act} {W : World} {o : Oper} {T : List (Nat × TI)} {l rest : List Oper} {Q : Exit → St → Prop}
theorem putO_some {d : Option Nat} {v : Option AV} {s1 : St} (h : putO s d v = some s1) : ∃ u, v = some u ∧ s1 = s.put d u := by
  cases v with
  | none => cases h
  | some u => exact ⟨u, rfl, (Option.some.inj h).symm⟩
theorem putN_some {d : Option Nat} {v : Option (AV × St)} {s1 : St} (h : putN d v = some s1) : ∃ u s2, v = some (u, s2) ∧ s1 = s2.put d u := by
  cases v with
  | none => cases h
  | some u => exact ⟨u.1, u.2, rfl, (Option.some.inj h).symm⟩
theorem aop_ok (hT : TsOK C.P T) (hd : dok C.nt o.dst = true) {s1 : St} (h : aop T s o = some s1) : OpOK C s o s1 := by
  unfold aop at h
  split at h
  · rename_i x ho
    obtain ⟨u, h1, rfl⟩ := putO_some h
    exact OpOK.move hd ho h1
  · rename_i x ho
    obtain ⟨u, h1, rfl⟩ := putO_some h
    exact OpOK.assign hd ho h1
  · rename_i c x y ho
    split at h
    · rename_i b hb
      obtain ⟨u, h1, rfl⟩ := putO_some h
      exact OpOK.pick hd ho hb h1
    · cases h
  · rename_i t ho
    split at h
    · rename_i i hi
      obtain ⟨u, s2, h1, rfl⟩ := putN_some h
      exact OpOK.alloc hT hd ho hi h1
    · cases h
  · rename_i t x ho
    split at h
    · rename_i q hq
      obtain ⟨u, s2, h1, rfl⟩ := putN_some h
      exact OpOK.box hd ho hq h1
    · cases h
  · rename_i t p ho
    split at h
    · rename_i q hq
      obtain ⟨u, h1, rfl⟩ := putO_some h
      exact OpOK.load hT hd ho hq h1
    · cases h
  · rename_i t p x ho
    split at h
    · cases h
    · rename_i hn
      split at h
      · rename_i q hq
        split at h
        · rename_i v hv
          exact OpOK.store hT hn ho hq hv h
        · cases h
      · cases h
  · rename_i t x f ho
    split at h
    · rename_i q hq
      split at h
      · rename_i hc
        obtain ⟨u, h1, rfl⟩ := putO_some h
        exact OpOK.fieldAddr hT hd ho hq hc h1
      · cases h
    · cases h
  · rename_i t x f ho
    split at h
    · rename_i q hq
      obtain ⟨u, h1, rfl⟩ := putO_some h
      exact OpOK.field hT hd ho hq h1
    · cases h
  · rename_i x i ho
    split at h
    · rename_i q hq
      obtain ⟨u, h1, rfl⟩ := putO_some h
      exact OpOK.extract hd ho hq h1
    · cases h
  · rename_i t x ho
    split at h
    · rename_i b hb
      obtain rfl := Option.some.inj h
      exact OpOK.not hd ho hb
    · cases h
  · rename_i op t x y t2 ho
    split at h
    · rename_i q hq
      split at h
      · rename_i r hr
        split at h
        · rename_i b hb
          obtain rfl := Option.some.inj h
          unfold bBin at hb
          split at hb
          · split at hb
            · rename_i e
              subst e
              exact OpOK.cmp hd ho hq hr hb
            · cases hb
          · exact OpOK.scmp hd ho hq hr hb
          · split at hb
            · rename_i i hi
              split at hb
              · rename_i hk
                exact OpOK.bcmp hT hd ho hi hk hq hr hb
              · cases hb
            · cases hb
          · cases hb
        · cases h
      · cases h
    · cases h
  · rename_i x ho
    split at h
    · rename_i q hq
      split at h
      · rename_i hp
        obtain rfl := Option.some.inj h
        exact OpOK.nilCheck hd ho hq hp
      · cases h
    · cases h
  · rename_i t ps ho
    split at h
    · rename_i i hi
      split at h
      · cases h
      · rename_i f fs hf
        split at h
        · rename_i vs hvs
          split at h
          · rename_i l hl
            obtain rfl := Option.some.inj h
            exact OpOK.build hT hd ho hi (by rw [hf]; simp) hvs hl
          · cases h
        · cases h
    · cases h
  · rename_i t n ps ho
    split at h
    · rename_i i hi
      split at h
      · rename_i e hk
        split at h
        · rename_i ie hie
          split at h
          · rename_i hn
            split at h
            · rename_i vs hvs
              split at h
              · rename_i l hl
                obtain ⟨u, s2, h1, rfl⟩ := putN_some h
                exact OpOK.buildSlice hT hd ho hi hk hie hvs hl (Nat.le_of_ble_eq_true hn) h1
              · cases h
            · cases h
          · cases h
        · cases h
      · cases h
    · cases h
  · rename_i f first caps ho
    split at h
    · rename_i hf
      split at h
      · rename_i vs hvs
        obtain rfl := Option.some.inj h
        have e : first = #[] := by apply Array.toList_inj.1; simpa using hf
        subst e
        exact OpOK.makeFunc hd ho hvs
      · cases h
    · cases h
  · rename_i args ats ho
    split at h
    · rename_i x hx
      split at h
      · rename_i t ht
        split at h
        · rename_i i hi
          split at h
          · rename_i q hq
            split at h
            · rename_i n hn
              obtain rfl := Option.some.inj h
              have e1 : args = #[x] := by apply Array.toList_inj.1; simpa using hx
              have e2 : ats = #[t] := by apply Array.toList_inj.1; simpa using ht
              subst e1 e2
              exact OpOK.blen hT hd ho hi hq hn
            · cases h
          · cases h
        · cases h
      · cases h
    · cases h
  · cases h
noncomputable def astep (T : List (Nat × TI)) (nt : Nat) (l : List Oper) (s : St) (o : Oper) : Option St :=
  match awant l s o with
  | some true => (match dok nt o.dst with
    | true => aop T s o
    | false => none)
  | some false => (match dok nt o.dst with
    | true => some (s.put o.dst .undef)
    | false => none)
  | none => none
theorem AL.step (hT : TsOK C.P T) {e1 : List (Nat × AV)} {h1 : List Blk} (h : astep T C.nt l s o = some ⟨e1, h1⟩) (k : AL C l Q rest ⟨e1, h1⟩) : AL C l Q (o :: rest) s := by
  unfold astep at h
  split at h
  · rename_i hw
    split at h
    · rename_i hd
      exact AL.op hw (aop_ok hT hd h) k
    · cases h
  · rename_i hw
    split at h
    · rename_i hd
      have e := Option.some.inj h
      rw [← e] at k
      exact AL.skip hw hd k
    · cases h
  · cases h
-- weaker states
def EnvLe (e : List (Nat × AV)) : List (Nat × AV) → Prop
  | [] => True
  | (t, v) :: r => get e t = some v ∧ EnvLe e r
def AV.sc0 (k : Nat) : AV → Bool
  | .imm _ => true
  | .nils => true
  | .nocap => true
  | .pin _ => true
  | .undef => true
  | .mp _ _ _ => true
  | .mpi _ _ => true
  | .ptr id _ _ _ => Nat.blt id k
  | .os id _ => Nat.blt id k
  | .sub id _ _ _ => Nat.blt id k
  | _ => false
def AV.sc1 (k : Nat) : AV → Bool
  | .fn _ caps => caps.all (AV.sc0 k)
  | .agg l => l.all (AV.sc0 k)
  | .tup l => l.all (AV.sc0 k)
  | v => v.sc0 k
def AV.sc (k : Nat) : AV → Bool
  | .agg l => l.all (AV.sc1 k)
  | .tup l => l.all (AV.sc1 k)
  | .fn _ caps => caps.all (AV.sc1 k)
  | v => v.sc1 k
theorem get_le {e : List (Nat × AV)} : ∀ {e1 : List (Nat × AV)}, EnvLe e e1 → ∀ {t : Nat} {v : AV}, get e1 t = some v → get e t = some v ∧ ∃ p ∈ e1, p.2 = v
  | [], _, t, v, h => by cases h
  | (d, u) :: r, hle, t, v, h => by
    simp only [get] at h
    split at h
    · rename_i hb
      have hb := Nat.eq_of_beq_eq_true hb
      subst hb
      obtain rfl := Option.some.inj h
      exact ⟨hle.1, (d, u), by simp, rfl⟩
    · obtain ⟨h1, p, h2, h3⟩ := get_le hle.2 h
      exact ⟨h1, p, by simp [h2], h3⟩
theorem sc0_keep {M M' : Mm} {k : Nat} (hW : M'.W = M.W) (hN : ∀ b, M'.N b → M.N b) (hγ : M'.γ = M.γ) (hκ : M'.κ = M.κ) (hh : ∀ id, id < k → M'.hp[id]? = M.hp[id]?) {v : AV} {x : Value} (h : RepA M v x) (hs : v.sc0 k = true) : RepA M' v x := by
  have himm : ∀ b, ¬ M.N b → (∃ o, M.W.heap[b]? = some o) → M'.W.heap[b]? = M.W.heap[b]? ∧ ¬ M'.N b := fun b hb _ => ⟨by rw [hW], fun h => hb (hN b h)⟩
  cases h with
  | imm v x h => exact .imm _ _ (h.keep himm)
  | nils => exact .nils
  | nocap A => exact .nocap A
  | undef => exact .undef
  | mp g ks vs h => exact .mp g ks vs (h.keep himm)
  | mpi g ks vs h => exact .mpi g ks vs (h.keep himm)
  | pin l ad ys h0 hb hy h =>
    refine .pin l ad ys h0 (fun h => hb (hN _ h)) ?_ (h.mono fun _ _ h => h.keep himm)
    rw [hW]; exact hy
  | ptr id ver row off b q hb hv hx =>
    have : id < k := by simpa [AV.sc0] using hs
    exact .ptr id ver row off b q (by rw [hh id this]; exact hb) hv (by rw [hγ]; exact hx)
  | os id n b A c d hb hv hx =>
    have : id < k := by simpa [AV.sc0] using hs
    exact .os id n b A c d (by rw [hh id this]; exact hb) hv (by rw [hγ, hκ]; exact hx)
  | sub id v o n b A c hb hv hx hc =>
    have : id < k := by simpa [AV.sc0] using hs
    exact .sub id v o n b A c (by rw [hh id this]; exact hb) hv (by rw [hγ]; exact hx) hc
  | _ => simp [AV.sc0] at hs
theorem all_keep {M M' : Mm} {f : AV → Bool} (hf : ∀ {v x}, RepA M v x → f v = true → RepA M' v x) {l : List AV} {xs : List Value} (h : All2 (RepA M) l xs) (hs : l.all f = true) : All2 (RepA M') l xs := by
  rw [List.all_eq_true] at hs
  exact h.mono_mem fun v x hm _ hr => hf hr (hs v hm)
theorem sc1_keep {M M' : Mm} {k : Nat} (hW : M'.W = M.W) (hN : ∀ b, M'.N b → M.N b) (hγ : M'.γ = M.γ) (hκ : M'.κ = M.κ) (hh : ∀ id, id < k → M'.hp[id]? = M.hp[id]?) {v : AV} {x : Value} (h : RepA M v x) (hs : v.sc1 k = true) : RepA M' v x := by
  have h0 : ∀ {v x}, RepA M v x → v.sc0 k = true → RepA M' v x := fun h hs => sc0_keep hW hN hγ hκ hh h hs
  cases h with
  | fn f caps xs h => exact .fn f caps xs (all_keep h0 h hs)
  | agg l xs h => exact .agg l xs (all_keep h0 h hs)
  | tup l xs h => exact .tup l xs (all_keep h0 h hs)
  | _ => exact h0 (by first | exact .imm _ _ ‹_› | exact .nils | exact .nocap _ | exact .undef | exact .pin _ _ _ ‹_› ‹_› ‹_› ‹_› | exact .mp _ _ _ ‹_› | exact .mpi _ _ _ ‹_› | exact .ptr _ _ _ _ _ _ ‹_› ‹_› ‹_› | exact .os _ _ _ _ _ _ ‹_› ‹_› ‹_› | exact .sub _ _ _ _ _ _ _ ‹_› ‹_› ‹_› ‹_›) hs
theorem sc_keep {M M' : Mm} {k : Nat} (hW : M'.W = M.W) (hN : ∀ b, M'.N b → M.N b) (hγ : M'.γ = M.γ) (hκ : M'.κ = M.κ) (hh : ∀ id, id < k → M'.hp[id]? = M.hp[id]?) {v : AV} {x : Value} (h : RepA M v x) (hs : v.sc k = true) : RepA M' v x := by
  have h0 : ∀ {v x}, RepA M v x → v.sc1 k = true → RepA M' v x := fun h hs => sc1_keep hW hN hγ hκ hh h hs
  cases h with
  | fn f caps xs h => exact .fn f caps xs (all_keep h0 h hs)
  | agg l xs h => exact .agg l xs (all_keep h0 h hs)
  | tup l xs h => exact .tup l xs (all_keep h0 h hs)
  | _ => exact h0 (by first | exact .imm _ _ ‹_› | exact .nils | exact .nocap _ | exact .undef | exact .pin _ _ _ ‹_› ‹_› ‹_› ‹_› | exact .mp _ _ _ ‹_› | exact .mpi _ _ _ ‹_› | exact .ptr _ _ _ _ _ _ ‹_› ‹_› ‹_› | exact .os _ _ _ _ _ _ ‹_› ‹_› ‹_› | exact .sub _ _ _ _ _ _ _ ‹_› ‹_› ‹_› ‹_›) hs
/-- Slots are forgotten, and the own blocks from number k on. -/
theorem Le.cut_same (k : Nat) {s1 : St} (hhp : s1.hp = s.hp.take k) (henv : EnvLe s.env s1.env) (hsc : s1.env.all (fun p => p.2.sc k) = true) (hblk : s1.hp.all (fun b => b.rows.all fun r => r.all (AV.sc1 k)) = true) (hl : C.hp0.length ≤ k) (hC : Conc C s γ κ a W) : Conc C s1 γ κ a W := by
  obtain ⟨e1, h1⟩ := s1
  simp only at hhp
  subst hhp
  have hlen : (s.hp.take k).length ≤ s.hp.length := by simp; omega
  have hget : ∀ id, id < k → (s.hp.take k)[id]? = s.hp[id]? := fun id hi => List.getElem?_take_of_lt hi
  have hN : ∀ b, nset C.X γ (s.hp.take k).length b → nset C.X γ s.hp.length b := by
    rintro b (h | ⟨i, hi, hg⟩)
    · exact .inl h
    · exact .inr ⟨i, by omega, hg⟩
  have hkeep : ∀ {v x}, RepA (s.mm C γ κ W) v x → v.sc k = true → RepA (St.mm ⟨e1, s.hp.take k⟩ C γ κ W) v x := fun h hs => sc_keep (M := s.mm C γ κ W) (M' := St.mm ⟨e1, s.hp.take k⟩ C γ κ W) rfl hN rfl rfl hget h hs
  have hkeep1 : ∀ {v x}, RepA (s.mm C γ κ W) v x → v.sc1 k = true → RepA (St.mm ⟨e1, s.hp.take k⟩ C γ κ W) v x := fun h hs => sc1_keep (M := s.mm C γ κ W) (M' := St.mm ⟨e1, s.hp.take k⟩ C γ κ W) rfl hN rfl rfl hget h hs
  rw [List.all_eq_true] at hsc hblk
  refine ⟨hC.size, hC.defers, ?_, ?_, fun i j g hi hj => hC.inj i j g (Nat.lt_of_lt_of_le hi hlen) (Nat.lt_of_lt_of_le hj hlen), fun i g hi => hC.own i g (Nat.lt_of_lt_of_le hi hlen), hC.xlt, hC.old, hC.hos, hC.htape, hC.hout, hC.hsize, ?_⟩
  · intro t v h
    obtain ⟨h1, p, h2, rfl⟩ := get_le henv h
    obtain ⟨x, h3, h4⟩ := hC.env t _ h1
    exact ⟨x, h3, hkeep h4 (hsc p h2)⟩
  · intro id b hb
    have hb' : (s.hp.take k)[id]? = some b := hb
    have hid : id < k := by
      have := (List.getElem?_eq_some_iff.1 hb').1
      simp at this; omega
    have hb0 : s.hp[id]? = some b := by rw [← hget id hid]; exact hb'
    have ho := hC.blk id b hb0
    have hs := hblk b (List.mem_of_getElem? hb')
    refine ⟨ho.pos, ho.rows, ho.cell, ho.cap, ho.capm, ?_⟩
    rcases ho.mem with h1 | ⟨g', ys', sp', h1, h2, h3, h4⟩
    · exact .inl h1
    · refine .inr ⟨g', ys', sp', h1, h2, h3, h4.mono_mem fun v x hm _ h => hkeep1 h ?_⟩
      obtain ⟨r, hr, hv⟩ := List.mem_flatten.1 hm
      rw [List.all_eq_true] at hs
      have := hs r hr
      rw [List.all_eq_true] at this
      exact this v hv
  · intro i b0 hb0
    obtain ⟨b, h1, h2⟩ := hC.lent i b0 hb0
    have : i < C.hp0.length := (List.getElem?_eq_some_iff.1 hb0).1
    exact ⟨b, by show (s.hp.take k)[i]? = _; rw [hget i (by omega)]; exact h1, h2⟩
theorem Le.cut (k : Nat) {s1 : St} (hhp : s1.hp = s.hp.take k) (henv : EnvLe s.env s1.env) (hsc : s1.env.all (fun p => p.2.sc k) = true) (hblk : s1.hp.all (fun b => b.rows.all fun r => r.all (AV.sc1 k)) = true) (hl : C.hp0.length ≤ k) : Le C s s1 :=
  fun γ κ a W hC => ⟨γ, κ, Le.cut_same k hhp henv hsc hblk hl hC⟩
end
theorem PureC.mk {P : Program} {f : FuncId} {fn : Func} {c : Code} {args : List AV} {r : AV} {T : List (Nat × TI)} (hT : TsOK P T) (hf : P.funcs[f]? = some fn) (nt : Nat) (rs : List ResultVar) (hb : fn.body = some c) (hn : (fn.name == "runtime.NumGoroutine") = false) (hnt : fn.ntmps = nt) (hrs : fn.results.toList = rs) (hlen : Nat.ble (len args) nt = true)
    (h : ∀ w0 X, AW ⟨P, X, [], fun _ => none, fun _ => 0, fun _ => False, w0, nt⟩ c (RQ ⟨P, X, [], fun _ => none, fun _ => 0, fun _ => False, w0, nt⟩ T rs r) ⟨params 0 args, []⟩) : PureC P f args r := by
  subst hnt hrs
  refine PureC.of_AW T hT hf hb hn ?_ h
  have := Nat.le_of_ble_eq_true hlen
  rwa [len_eq] at this
end Go.Proofs.YtjjdabihnmilgaaGreat.A
namespace Go.Proofs.YtjjdabihnmilgaaGreat.A
open Go.RowKit
set_option linter.unusedVariables false
set_option linter.unusedSimpArgs false
/-- What an operation does to the state. -/
inductive Dl where
  | val (v : AV)
  | blk (p : Nat) (b : Blk) (v : AV)
def Dl.ap (d : Dl) (dst : Option Nat) (s : St) : St :=
  match d with
  | .val v => s.put dst v
  | .blk p b v => (match s with
    | ⟨e, h⟩ => St.put ⟨e, h.set p b⟩ dst v)
def Dl.wb : Dl → Option Nat
  | .val _ => none
  | .blk p _ _ => some p
structure Fx where
  dst : Option Nat
  d : Dl
  rs : List Nat
  rb : List Nat
def Fx.ap (f : Fx) (s : St) : St := f.d.ap f.dst s
/-- The state where those of L are done, in the text's order. -/
def runL (L : Nat → Bool) : Nat → List Fx → St → St
  | _, [], s => s
  | i, f :: r, s => runL L (i + 1) r (match L i with | true => f.ap s | false => s)
theorem put_env (s : St) (dst : Option Nat) (v : AV) (t : Nat) (h : dst ≠ some t) : get (s.put dst v).env t = get s.env t := by
  obtain ⟨e, h1⟩ := s
  cases dst with
  | none => rfl
  | some d =>
    show get ((d, v) :: e) t = _
    simp only [get]
    split
    · rename_i hb
      have := Nat.eq_of_beq_eq_true hb
      subst this
      exact absurd rfl h
    · rfl
theorem put_hp (s : St) (dst : Option Nat) (v : AV) : (s.put dst v).hp = s.hp := by
  obtain ⟨e, h1⟩ := s
  cases dst <;> rfl
theorem ap_env (f : Fx) (s : St) (t : Nat) (h : f.dst ≠ some t) : get (f.ap s).env t = get s.env t := by
  unfold Fx.ap Dl.ap
  split
  · exact put_env s _ _ t h
  · obtain ⟨e, h1⟩ := s
    exact put_env _ _ _ t h
theorem ap_hp (f : Fx) (s : St) (p : Nat) (h : f.d.wb ≠ some p) : (f.ap s).hp[p]? = s.hp[p]? := by
  unfold Fx.ap Dl.ap
  split
  · rw [put_hp]
  · rename_i q b v hd
    rw [hd] at h
    obtain ⟨e, h1⟩ := s
    simp only
    rw [put_hp]
    simp only
    rw [List.getElem?_set_ne (fun e => h (by rw [e]; rfl))]
theorem ap_len (f : Fx) (s : St) : (f.ap s).hp.length = s.hp.length := by
  unfold Fx.ap Dl.ap
  split
  · rw [put_hp]
  · obtain ⟨e, h1⟩ := s
    simp only
    rw [put_hp]
    simp
/-- The same to every look. -/
structure Sm (s t : St) : Prop where
  env : ∀ x, get s.env x = get t.env x
  hp : s.hp = t.hp
theorem Sm.refl (s : St) : Sm s s := ⟨fun _ => rfl, rfl⟩
theorem Sm.trans {a b c : St} (h : Sm a b) (k : Sm b c) : Sm a c := ⟨fun x => (h.env x).trans (k.env x), h.hp.trans k.hp⟩
theorem Sm.put {s t : St} (h : Sm s t) (dst : Option Nat) (v : AV) : Sm (s.put dst v) (t.put dst v) := by
  obtain ⟨e, h1⟩ := s
  obtain ⟨e2, h2⟩ := t
  cases dst with
  | none => exact h
  | some d =>
    refine ⟨fun x => ?_, h.hp⟩
    show get ((d, v) :: e) x = get ((d, v) :: e2) x
    simp only [get]
    split
    · rfl
    · exact h.env x
theorem Sm.ap {s t : St} (h : Sm s t) (f : Fx) : Sm (f.ap s) (f.ap t) := by
  unfold Fx.ap Dl.ap
  split
  · exact h.put _ _
  · obtain ⟨e, h1⟩ := s
    obtain ⟨e2, h2⟩ := t
    have hh : h1 = h2 := h.hp
    subst hh
    rename_i q b v _
    exact Sm.put (s := ⟨e, h1.set q b⟩) (t := ⟨e2, h1.set q b⟩) ⟨h.env, rfl⟩ f.dst v
theorem Sm.conc {C : Cx} {s t : St} (h : Sm s t) {γ κ a W} (hC : Conc C s γ κ a W) : Conc C t γ κ a W :=
  hC.sub_env h.hp.symm fun x v hx => hC.env x v ((h.env x).trans hx)
/-- Two that write apart. -/
theorem ap_comm {f g : Fx} (h1 : ∀ d, f.dst = some d → g.dst ≠ some d) (h2 : ∀ p, f.d.wb = some p → g.d.wb ≠ some p) (s : St) : Sm (f.ap (g.ap s)) (g.ap (f.ap s)) := by
  have hp : (f.ap (g.ap s)).hp = (g.ap (f.ap s)).hp := by
    obtain ⟨e, h⟩ := s
    obtain ⟨fd, fδ, _, _⟩ := f
    obtain ⟨gd, gδ, _, _⟩ := g
    unfold Fx.ap Dl.ap
    cases fδ with
    | val v => cases gδ with
      | val u => simp only [put_hp]
      | blk q c u => cases fd <;> cases gd <;> rfl
    | blk p b v => cases gδ with
      | val u => cases fd <;> cases gd <;> rfl
      | blk q c u =>
        have hne : p ≠ q := fun e => h2 p rfl (by rw [e]; rfl)
        cases fd <;> cases gd <;> exact List.set_comm _ _ hne.symm
  refine ⟨fun x => ?_, hp⟩
  by_cases e1 : f.dst = some x
  · have e2 := h1 x e1
    rw [ap_env g _ x e2]
    have key : ∀ s1 s2 : St, get (f.ap s1).env x = get (f.ap s2).env x := by
      intro s1 s2
      obtain ⟨a1, b1⟩ := s1
      obtain ⟨a2, b2⟩ := s2
      unfold Fx.ap Dl.ap
      cases f.d <;> simp only [e1, St.put, get, Nat.beq_refl]
    exact key _ _
  · rw [ap_env f _ x e1]
    by_cases e2 : g.dst = some x
    · have key : ∀ s1 s2 : St, get (g.ap s1).env x = get (g.ap s2).env x := by
        intro s1 s2
        obtain ⟨a1, b1⟩ := s1
        obtain ⟨a2, b2⟩ := s2
        unfold Fx.ap Dl.ap
        cases g.d <;> simp only [e2, St.put, get, Nat.beq_refl]
      exact key _ _
    · rw [ap_env g _ x e2, ap_env g _ x e2, ap_env f _ x e1]
theorem runL_sm (L : Nat → Bool) : ∀ (l : List Fx) (i : Nat) {s t : St}, Sm s t → Sm (runL L i l s) (runL L i l t)
  | [], i, s, t, h => h
  | f :: r, i, s, t, h => by
    simp only [runL]
    cases L i with
    | true => exact runL_sm L r (i + 1) (h.ap f)
    | false => exact runL_sm L r (i + 1) h
theorem runL_len (L : Nat → Bool) : ∀ (l : List Fx) (i : Nat) (s : St), (runL L i l s).hp.length = s.hp.length
  | [], i, s => rfl
  | f :: r, i, s => by
    simp only [runL]
    rw [runL_len L r (i + 1)]
    cases L i with
    | true => exact ap_len f s
    | false => rfl
/-- A place that nobody of those in which L and L' part writes. -/
theorem runL_env (L L' : Nat → Bool) (x : Nat) : ∀ (l : List Fx) (i : Nat) (s t : St), get s.env x = get t.env x → (∀ j f, l[j]? = some f → L (i + j) ≠ L' (i + j) → f.dst ≠ some x) → get (runL L i l s).env x = get (runL L' i l t).env x
  | [], i, s, t, h, _ => h
  | f :: r, i, s, t, h, hx => by
    simp only [runL]
    refine runL_env L L' x r (i + 1) _ _ ?_ fun j g hj hne => hx (j + 1) g (by simpa using hj) (by rw [show i + (j + 1) = i + 1 + j by omega]; exact hne)
    have h0 := hx 0 f rfl
    simp only [Nat.add_zero] at h0
    cases e1 : L i <;> cases e2 : L' i
    · exact h
    · simp only; rw [ap_env f t x (h0 (by rw [e1, e2]; simp))]; exact h
    · simp only; rw [ap_env f s x (h0 (by rw [e1, e2]; simp))]; exact h
    · simp only
      by_cases hd : f.dst = some x
      · obtain ⟨a1, b1⟩ := s
        obtain ⟨a2, b2⟩ := t
        unfold Fx.ap Dl.ap
        cases f.d <;> simp only [hd, St.put, get, Nat.beq_refl]
      · rw [ap_env f s x hd, ap_env f t x hd]; exact h
theorem runL_hp (L L' : Nat → Bool) (p : Nat) : ∀ (l : List Fx) (i : Nat) (s t : St), s.hp.length = t.hp.length → s.hp[p]? = t.hp[p]? → (∀ j f, l[j]? = some f → L (i + j) ≠ L' (i + j) → f.d.wb ≠ some p) → (runL L i l s).hp[p]? = (runL L' i l t).hp[p]?
  | [], i, s, t, _, h, _ => h
  | f :: r, i, s, t, hl, h, hx => by
    simp only [runL]
    refine runL_hp L L' p r (i + 1) _ _ ?_ ?_ fun j g hj hne => hx (j + 1) g (by simpa using hj) (by rw [show i + (j + 1) = i + 1 + j by omega]; exact hne)
    · cases L i <;> cases L' i <;> simp [ap_len, hl]
    have h0 := hx 0 f rfl
    simp only [Nat.add_zero] at h0
    cases e1 : L i <;> cases e2 : L' i
    · exact h
    · simp only; rw [ap_hp f t p (h0 (by rw [e1, e2]; simp))]; exact h
    · simp only; rw [ap_hp f s p (h0 (by rw [e1, e2]; simp))]; exact h
    · simp only
      by_cases hd : f.d.wb = some p
      · obtain ⟨a1, b1⟩ := s
        obtain ⟨a2, b2⟩ := t
        unfold Fx.ap Dl.ap
        cases hf : f.d with
        | val v => rw [hf] at hd; cases hd
        | blk q b v =>
          rw [hf] at hd
          obtain rfl : q = p := by simpa [Dl.wb] using hd
          have hl' : b1.length = b2.length := hl
          simp only [put_hp]
          by_cases hq : q < b1.length
          · rw [List.getElem?_set_self hq, List.getElem?_set_self (by omega)]
          · rw [List.getElem?_eq_none (by simp; omega), List.getElem?_eq_none (by simp; omega)]
      · rw [ap_hp f s p hd, ap_hp f t p hd]; exact h
/-- One more of L, behind the others. -/
theorem runL_add (L : Nat → Bool) (k : Nat) : ∀ (l : List Fx) (i : Nat) (s : St) (g : Fx), i ≤ k → L k = false → l[k - i]? = some g →
    (∀ j f, l[j]? = some f → k < i + j → L (i + j) = true → (∀ d, g.dst = some d → f.dst ≠ some d) ∧ (∀ p, g.d.wb = some p → f.d.wb ≠ some p)) →
    Sm (g.ap (runL L i l s)) (runL (fun j => if j = k then true else L j) i l s)
  | [], i, s, g, hik, hk, hg, _ => by simp at hg
  | f :: r, i, s, g, hik, hk, hg, hx => by
    simp only [runL]
    by_cases e : i = k
    · subst e
      simp at hg
      subst hg
      simp only [hk, if_true]
      -- behind i, L and L' are one; f goes ahead of all
      have key : ∀ (q : List Fx) (m : Nat) (s : St), i < m → (∀ j h, q[j]? = some h → L (m + j) = true → (∀ d, f.dst = some d → h.dst ≠ some d) ∧ (∀ p, f.d.wb = some p → h.d.wb ≠ some p)) → Sm (f.ap (runL L m q s)) (runL (fun j => if j = i then true else L j) m q (f.ap s)) := by
        intro q
        induction q with
        | nil => intro m s hm _; exact Sm.refl _
        | cons h q ih =>
          intro m s hm hq
          simp only [runL]
          rw [if_neg (by omega)]
          have h0 := hq 0 h rfl
          simp only [Nat.add_zero] at h0
          have hq' : ∀ j g, q[j]? = some g → L (m + 1 + j) = true → (∀ d, f.dst = some d → g.dst ≠ some d) ∧ (∀ p, f.d.wb = some p → g.d.wb ≠ some p) :=
            fun j g hj hl => hq (j + 1) g (by simpa using hj) (by rw [show m + (j + 1) = m + 1 + j by omega]; exact hl)
          cases hL : L m with
          | false => exact ih (m + 1) s (by omega) hq'
          | true =>
            obtain ⟨c1, c2⟩ := h0 hL
            refine (ih (m + 1) (h.ap s) (by omega) hq').trans (runL_sm _ q (m + 1) ?_)
            exact ap_comm c1 c2 s
      exact key r (i + 1) s (by omega) fun j h hj hl => hx (j + 1) h (by simpa using hj) (by omega) (by rw [show i + (j + 1) = i + 1 + j by omega]; exact hl)
    · rw [if_neg e]
      refine runL_add L k r (i + 1) _ g (by omega) hk ?_ fun j h hj hlt hl => hx (j + 1) h (by simpa using hj) (by omega) (by rw [show i + (j + 1) = i + 1 + j by omega]; exact hl)
      rw [show k - i = (k - (i + 1)) + 1 by omega, List.getElem?_cons_succ] at hg
      exact hg
-- who comes ahead of whom
def ons (o : Oper) : List Nat := o.after.toList.filterMap fun e => match Region.binds .any e with | true => some e.on | false => none
def memB (x : Nat) : List Nat → Bool
  | [] => false
  | y :: l => match Nat.beq x y with
    | true => true
    | false => memB x l
theorem memB_iff (x : Nat) : ∀ l, memB x l = true ↔ x ∈ l
  | [] => by simp [memB]
  | y :: l => by
    simp only [memB]
    split
    · rename_i h; have := Nat.eq_of_beq_eq_true h; simp [this]
    · rename_i h
      have : x ≠ y := fun e => by subst e; simp at h
      rw [memB_iff x l]; simp [this]
/-- All that come ahead, of each operation. -/
def anc : List Oper → List (List Nat) → List (List Nat)
  | [], acc => acc
  | o :: r, acc => anc r (acc ++ [(ons o).flatMap fun j => j :: acc.getD j []])
theorem anc_get : ∀ (l : List Oper) (acc : List (List Nat)) (i : Nat), (i < acc.length → (anc l acc)[i]? = acc[i]?) ∧ (anc l acc).length = acc.length + l.length
  | [], acc, i => ⟨fun _ => rfl, by simp [anc]⟩
  | o :: r, acc, i => by
    obtain ⟨h1, h2⟩ := anc_get r (acc ++ [(ons o).flatMap fun j => j :: acc.getD j []]) i
    refine ⟨fun hi => ?_, by simp only [anc, h2, List.length_append, List.length_cons, List.length_nil]; omega⟩
    simp only [anc]
    rw [h1 (by simp; omega), List.getElem?_append_left hi]
/-- A set that holds with each operation all that it waits for holds all its ancestors. -/
theorem anc_closed (L : Nat → Bool) : ∀ (l : List Oper) (acc : List (List Nat)) (pre : List Oper), pre.length = acc.length →
    (∀ i o, (pre ++ l)[i]? = some o → L i = true → ∀ j ∈ ons o, L j = true) →
    (∀ i a, acc[i]? = some a → L i = true → ∀ j ∈ a, L j = true) →
    ∀ i a, (anc l acc)[i]? = some a → L i = true → ∀ j ∈ a, L j = true
  | [], acc, pre, hl, hc, ha, i, a, h => ha i a h
  | o :: r, acc, pre, hl, hc, ha, i, a, h => by
    simp only [anc] at h
    refine anc_closed L r _ (pre ++ [o]) (by simp [hl]) (by simpa using hc) ?_ i a h
    intro k b hb hL j hj
    rcases Nat.lt_or_ge k acc.length with hk | hk
    · rw [List.getElem?_append_left hk] at hb
      exact ha k b hb hL j hj
    · rw [List.getElem?_append_right hk] at hb
      have hk' : k = acc.length := by
        rcases Nat.eq_or_lt_of_le hk with e | e
        · exact e.symm
        · rw [List.getElem?_eq_none (by simp; omega)] at hb; cases hb
      subst hk'
      simp at hb
      subst hb
      obtain ⟨m, hm, hj⟩ := List.mem_flatMap.1 hj
      have hLm := hc acc.length o (by rw [← hl, List.getElem?_append_right (Nat.le_refl _)]; simp) hL m hm
      rcases List.mem_cons.1 hj with e | e
      · rw [e]; exact hLm
      · try rw [List.getD_eq_getElem?_getD] at e
        cases hq : acc[m]? with
        | none => rw [hq] at e; simp at e
        | some q => rw [hq] at e; exact ha m q hq hLm j e
def disj (a b : List Nat) : Bool := a.all fun x => !memB x b
theorem disj_spec {a b : List Nat} (h : disj a b = true) {x : Nat} (hx : x ∈ a) : x ∉ b := by
  have := List.all_eq_true.1 h x hx
  simp at this
  intro hb
  rw [(memB_iff x b).2 hb] at this
  cases this
/-- Two operations, the second behind the first in the text: it waits for the first, or they have nothing to do with one another. -/
def pairOK (f g : Fx) : Bool := disj f.dst.toList (g.rs ++ g.dst.toList) && disj f.rs g.dst.toList && disj f.d.wb.toList (g.rb ++ g.d.wb.toList) && disj f.rb g.d.wb.toList
def allOK : List Fx → List (List Nat) → Nat → List (Nat × Fx) → Bool
  | [], _, _, _ => true
  | g :: r, an, i, pre => (match an with
    | [] => false
    | a :: an => pre.all (fun q => memB q.1 a || pairOK q.2 g) && allOK r an (i + 1) (pre ++ [(i, g)]))
theorem allOK_spec : ∀ (l : List Fx) (an : List (List Nat)) (i : Nat) (pre : List (Nat × Fx)), allOK l an i pre = true → (∀ j g a, l[j]? = some g → an[j]? = some a → (∀ q ∈ pre, q.1 ∈ a ∨ pairOK q.2 g = true) ∧ ∀ k f, l[k]? = some f → k < j → (i + k) ∈ a ∨ pairOK f g = true)
  | [], an, i, pre, h, j, g, a, hg, ha => by simp at hg
  | g0 :: r, [], i, pre, h, j, g, a, hg, ha => by cases h
  | g0 :: r, a0 :: an, i, pre, h, j, g, a, hg, ha => by
    simp only [allOK, Bool.and_eq_true, List.all_eq_true, Bool.or_eq_true] at h
    obtain ⟨h1, h2⟩ := h
    cases j with
    | zero =>
      simp at hg ha
      subst hg ha
      exact ⟨fun q hq => (h1 q hq).imp (memB_iff _ _).1 id, fun k f _ hk => by omega⟩
    | succ j =>
      obtain ⟨k1, k2⟩ := allOK_spec r an (i + 1) (pre ++ [(i, g0)]) h2 j g a (by simpa using hg) (by simpa using ha)
      refine ⟨fun q hq => k1 q (by simp [hq]), fun k f hf hk => ?_⟩
      cases k with
      | zero =>
        simp at hf
        subst hf
        exact k1 (i, g0) (by simp)
      | succ k =>
        have := k2 k f (by simpa using hf) (by omega)
        rw [show i + (k + 1) = i + 1 + k by omega]
        exact this
section
variable {C : Cx} {Q : Exit → St → Prop} {l : List Oper}
/-- What an operation does, wherever what it looks at is as in s. -/
def LS (C : Cx) (l : List Oper) (s : St) (o : Oper) (f : Fx) : Prop :=
  f.dst = o.dst ∧ ∀ s', (∀ t ∈ f.rs, get s'.env t = get s.env t) → (∀ p ∈ f.rb, s'.hp[p]? = s.hp[p]?) → s'.hp.length = s.hp.length →
    (awant l s' o = some true ∧ OpOK C s' o (f.ap s')) ∨ (awant l s' o = some false ∧ dok C.nt o.dst = true ∧ f.d = .val .undef)
/-- The walk in the text's order. -/
inductive DW (C : Cx) (l : List Oper) : List Oper → St → List Fx → St → Prop
  | nil (s : St) : DW C l [] s [] s
  | cons {o : Oper} {r : List Oper} {s s2 : St} {f : Fx} {fs : List Fx} (h1 : LS C l s o f) (h2 : DW C l r (f.ap s) fs s2) : DW C l (o :: r) s (f :: fs) s2
theorem DW.len {r : List Oper} {s s2 : St} {fs : List Fx} (h : DW C l r s fs s2) : r.length = fs.length := by
  induction h with
  | nil s => rfl
  | cons _ _ ih => simp [ih]
theorem DW.fin {r : List Oper} {s s2 : St} {fs : List Fx} (h : DW C l r s fs s2) : ∀ i L, (∀ j, i ≤ j → j < i + fs.length → L j = true) → runL L i fs s = s2 := by
  induction h with
  | nil s => intro i L _; rfl
  | @cons o r s s2 f fs h1 h2 ih =>
    intro i L hL
    simp only [runL]
    rw [hL i (Nat.le_refl _) (by simp)]
    exact ih (i + 1) L fun j h1 h2 => hL j (by omega) (by simp; omega)
theorem DW.at {r : List Oper} {s s2 : St} {fs : List Fx} (h : DW C l r s fs s2) : ∀ (i k : Nat) (o : Oper) (f : Fx), r[k]? = some o → fs[k]? = some f → LS C l (runL (fun j => decide (j < i + k)) i fs s) o f := by
  induction h with
  | nil s => intro i k o f h; simp at h
  | @cons o r s s2 f fs h1 h2 ih =>
    intro i k o' f' ho hf
    simp only [runL]
    cases k with
    | zero =>
      simp at ho hf
      subst ho hf
      have : ∀ (q : List Fx) (m : Nat) (s : St), i ≤ m → runL (fun j => decide (j < i + 0)) m q s = s := by
        intro q
        induction q with
        | nil => intro m s _; rfl
        | cons g q ih =>
          intro m s hm
          simp only [runL]
          rw [decide_eq_false (by omega)]
          exact ih (m + 1) s (by omega)
      rw [decide_eq_false (by omega), this fs (i + 1) s (by omega)]
      exact h1
    | succ k =>
      rw [decide_eq_true (by omega)]
      have := ih (i + 1) k o' f' (by simpa using ho) (by simpa using hf)
      rw [show i + (k + 1) = i + 1 + k by omega]
      exact this
def backOK : List Oper → Nat → Bool
  | [], _ => true
  | o :: r, i => (ons o).all (fun j => Nat.blt j i) && backOK r (i + 1)
theorem backOK_spec : ∀ (l : List Oper) (i : Nat), backOK l i = true → ∀ k o, l[k]? = some o → ∀ j ∈ ons o, j < i + k
  | [], i, h, k, o, ho => by simp at ho
  | q :: r, i, h, k, o, ho => by
    simp only [backOK, Bool.and_eq_true, List.all_eq_true, Nat.blt_eq] at h
    cases k with
    | zero => simp at ho; subst ho; intro j hj; have := h.1 j hj; omega
    | succ k =>
      intro j hj
      have := backOK_spec r (i + 1) h.2 k o (by simpa using ho) j hj
      omega
theorem count_list : ∀ (l : List Bool) (i n : Nat) (hi : i < l.length), l[i] = false → (l.filter (! ·)).length = n + 1 → ((l.set i true).filter (! ·)).length = n
  | [], i, n, hi, _, _ => by simp at hi
  | b :: l, 0, n, hi, h', hn => by
    simp at h'
    subst h'
    simp at hn ⊢
    exact hn
  | b :: l, i + 1, n, hi, h', hn => by
    have hi' : i < l.length := by simpa using hi
    have h'' : l[i] = false := by simpa using h'
    simp only [List.set_cons_succ]
    cases b with
    | true =>
      simp at hn ⊢
      exact count_list l i n hi' h'' hn
    | false =>
      simp at hn
      have hpos : ∃ m, n = m + 1 := by
        cases n with
        | zero =>
          exfalso
          have hnil : l.filter (! ·) = [] := List.length_eq_zero_iff.1 (by simpa using hn)
          rw [List.filter_eq_nil_iff] at hnil
          have := hnil (l[i]'hi') (by simp)
          rw [h''] at this
          simp at this
        | succ m => exact ⟨m, rfl⟩
      obtain ⟨m, rfl⟩ := hpos
      have := count_list l i m hi' h'' hn
      simp
      exact this
theorem count_set {a : Array Bool} {i : Nat} (hi : i < a.size) (h : a[i] = false) {n : Nat} (hn : (a.toList.filter (! ·)).length = n + 1) : ((a.setIfInBounds i true).toList.filter (! ·)).length = n := by
  rw [Array.toList_setIfInBounds]
  exact count_list a.toList i n (by simpa using hi) (by simpa using h) hn
theorem getD_set {a : Array Bool} {i : Nat} (hi : i < a.size) (j : Nat) : (a.setIfInBounds i true).getD j false = if j = i then true else a.getD j false := by
  rw [Array.getD_eq_getD_getElem?, Array.getD_eq_getD_getElem?]
  by_cases e : j = i
  · subst e
    rw [Array.getElem?_setIfInBounds_self_of_lt hi, if_pos rfl]; rfl
  · rw [Array.getElem?_setIfInBounds_ne (fun h => e h.symm), if_neg e]
theorem AW.draw (hm : C.P.follows .mixedOrders = true) {id : Nat} {s s2 : St} {fs : List Fx} (hw : DW C l l s fs s2) (hback : backOK l 0 = true) (hok : allOK fs (anc l []) 0 [] = true) (hQ : Q .normal s2) : AW C (.region id l.toArray true) Q s := by
  intro γ κ a W hC
  refine wp_region_any hm ?_
  have hn := hw.len
  have hback' := backOK_spec l 0 hback
  have hpair := allOK_spec fs (anc l []) 0 [] hok
  have hal : (anc l []).length = l.length := by simpa using (anc_get l [] 0).2
  have hC0 : Conc C s γ κ a { W with drawn := W.drawn + 1 } := by
    have hb : Below W.heap.size W { W with drawn := W.drawn + 1 } := ⟨rfl, rfl, rfl, Nat.le_refl _, fun _ _ => rfl⟩
    exact hC.below hb
  have key : ∀ (fuel : Nat) (listed : Array Bool) (γ : Nat → Option Nat) (κ : Nat → Nat) (a : Act) (W : World), listed.size = l.length → (listed.toList.filter (! ·)).length = fuel →
      (∀ i o, l[i]? = some o → listed.getD i false = true → ∀ j ∈ ons o, listed.getD j false = true) →
      Conc C (runL (fun i => listed.getD i false) 0 fs s) γ κ a W → wpAny C.P .any l.toArray (CQ C Q) fuel listed a W := by
    intro fuel
    induction fuel with
    | zero =>
      intro listed γ κ a W hsz hcnt hcl hC
      have hall : ∀ i, i < l.length → listed.getD i false = true := by
        intro i hi
        have hnil : listed.toList.filter (! ·) = [] := List.length_eq_zero_iff.1 hcnt
        rw [List.filter_eq_nil_iff] at hnil
        have := hnil (listed[i]'(by omega)) (by simp)
        simp at this
        rw [Array.getD_eq_getD_getElem?, Array.getElem?_eq_getElem (by omega)]
        simpa using this
      have hready : Region.ready .any l.toArray listed = [] := by
        unfold Region.ready
        rw [List.filter_eq_nil_iff]
        intro i hi
        have hi' : i < l.length := by simpa using hi
        have := hall i hi'
        rw [Array.getD_eq_getD_getElem?, Array.getElem?_eq_getElem (by omega)] at this
        simp [Array.getD_eq_getD_getElem?, Array.getElem?_eq_getElem (show i < listed.size by omega)]
        simp at this
        simp [this]
      refine ⟨hready, s2, γ, κ, ?_, hQ⟩
      rw [hw.fin 0 _ (fun j _ hj => hall j (by omega))] at hC
      exact hC
    | succ fuel ih =>
      intro listed γ κ a W hsz hcnt hcl hC
      have mem_ready : ∀ i, i ∈ Region.ready .any l.toArray listed ↔ ∃ o, l[i]? = some o ∧ listed.getD i false = false ∧ ∀ j ∈ ons o, listed.getD j false = true := by
        intro i
        unfold Region.ready
        rw [List.mem_filter]
        constructor
        · rintro ⟨h1, h2⟩
          have hi : i < l.length := by simpa using h1
          simp only [List.getElem?_toArray, List.getElem?_eq_getElem hi, Option.map_some, Option.getD_some, Bool.and_eq_true] at h2
          refine ⟨l[i], List.getElem?_eq_getElem hi, ?_, ?_⟩
          · have := h2.1
            rw [Array.getD_eq_getD_getElem?, Array.getElem?_eq_getElem (by omega)] at this ⊢
            simpa using this
          · intro j hj
            obtain ⟨e, he, hje⟩ := List.mem_filterMap.1 hj
            have h3 := h2.2
            rw [Array.all_eq_true'] at h3
            have := h3 e (by simpa using he)
            cases hb : Region.binds .any e with
            | false => rw [hb] at hje; cases hje
            | true =>
              rw [hb] at hje this
              obtain rfl := Option.some.inj hje
              simpa using this
        · rintro ⟨o, ho, h1, h2⟩
          have hi : i < l.length := (List.getElem?_eq_some_iff.1 ho).1
          refine ⟨by simpa using hi, ?_⟩
          simp only [List.getElem?_toArray, ho, Option.map_some, Option.getD_some, Bool.and_eq_true]
          refine ⟨?_, ?_⟩
          · rw [Array.getD_eq_getD_getElem?, Array.getElem?_eq_getElem (by omega)] at h1 ⊢
            simpa using h1
          · rw [Array.all_eq_true']
            intro e he
            cases hb : Region.binds .any e with
            | false => rfl
            | true =>
              have := h2 e.on (List.mem_filterMap.2 ⟨e, by simpa using he, by rw [hb]⟩)
              simpa using this
      refine ⟨fun hready => ?_, fun i hi => ?_⟩
      · -- nothing is ready: that can't be: the first one that isn't listed is
        exfalso
        have hex : ∃ i, i < l.length ∧ listed.getD i false = false := by
          have hne : listed.toList.filter (! ·) ≠ [] := by intro e; rw [e] at hcnt; simp at hcnt
          obtain ⟨b, hb⟩ := List.exists_mem_of_ne_nil _ hne
          obtain ⟨hb1, hb2⟩ := List.mem_filter.1 hb
          obtain ⟨i, hi⟩ := List.mem_iff_getElem?.1 hb1
          have hi' := (List.getElem?_eq_some_iff.1 hi).1
          refine ⟨i, by rw [← hsz]; simpa using hi', ?_⟩
          rw [Array.getD_eq_getD_getElem?, ← Array.getElem?_toList, hi]
          simpa using hb2
        have hmin : ∃ i, i < l.length ∧ listed.getD i false = false ∧ ∀ j, j < i → listed.getD j false = true := by
          obtain ⟨i, h1, h2⟩ := hex
          induction i using Nat.strongRecOn with
          | _ i ihi =>
            by_cases hall : ∀ j, j < i → listed.getD j false = true
            · exact ⟨i, h1, h2, hall⟩
            · have : ∃ j, j < i ∧ listed.getD j false = false := by
                apply Classical.byContradiction
                intro hno
                apply hall
                intro j hj
                cases hb : listed.getD j false with
                | true => rfl
                | false => exact absurd ⟨j, hj, hb⟩ hno
              obtain ⟨j, hj, hb⟩ := this
              exact ihi j hj (by omega) hb
        obtain ⟨i, h1, h2, h3⟩ := hmin
        have : i ∈ Region.ready .any l.toArray listed := (mem_ready i).2 ⟨l[i], List.getElem?_eq_getElem h1, h2, fun j hj => h3 j (by have := hback' i _ (List.getElem?_eq_getElem h1) j hj; omega)⟩
        rw [hready] at this
        cases this
      · obtain ⟨o, ho, hli, hon⟩ := (mem_ready i).1 hi
        have hil : i < l.length := (List.getElem?_eq_some_iff.1 ho).1
        obtain ⟨f, hf⟩ : ∃ f, fs[i]? = some f := ⟨_, List.getElem?_eq_getElem (by omega)⟩
        have hLS := hw.at 0 i o f ho hf
        simp only [Nat.zero_add] at hLS
        obtain ⟨hdst, hloc⟩ := hLS
        -- all that come ahead of i are listed; nothing that is listed waits for i
        have hancL : ∀ k b, (anc l [])[k]? = some b → listed.getD k false = true → ∀ j ∈ b, listed.getD j false = true :=
          anc_closed (fun k => listed.getD k false) l [] [] rfl (by simpa using hcl) (by simp)
        have hanci : ∀ b, (anc l [])[i]? = some b → ∀ j ∈ b, j = i ∨ listed.getD j false = true := by
          intro b hb j hj
          have := anc_closed (fun k => decide (k = i) || listed.getD k false) l [] [] rfl (by
            intro k q hq hk j hj
            simp only [List.nil_append] at hq
            simp only [Bool.or_eq_true, decide_eq_true_eq] at hk ⊢
            rcases hk with e | e
            · subst e
              rw [ho] at hq
              cases hq
              exact .inr (hon j hj)
            · exact .inr (hcl k q hq e j hj)) (by simp) i b hb (by simp) j hj
          simpa using this
        have hpi : ∀ j g, fs[j]? = some g → listed.getD j false ≠ decide (j < i) → (j < i ∧ pairOK g f = true) ∨ (i < j ∧ pairOK f g = true) := by
          intro j g hg hne
          have hjl : j < l.length := by rw [hn]; exact (List.getElem?_eq_some_iff.1 hg).1
          rcases Nat.lt_trichotomy j i with h | h | h
          · refine .inl ⟨h, ?_⟩
            rw [decide_eq_true h] at hne
            have hj : listed.getD j false = false := by simpa using hne
            obtain ⟨b, hb⟩ : ∃ b, (anc l [])[i]? = some b := ⟨_, List.getElem?_eq_getElem (by omega)⟩
            rcases (hpair i f b hf hb).2 j g hg h with e | e
            · rcases hanci b hb _ e with e2 | e2
              · omega
              · simp only [Nat.zero_add] at e2; rw [hj] at e2; cases e2
            · exact e
          · subst h
            rw [hli] at hne
            simp at hne
          · refine .inr ⟨h, ?_⟩
            rw [decide_eq_false (by omega)] at hne
            have hj : listed.getD j false = true := by simpa using hne
            obtain ⟨b, hb⟩ : ∃ b, (anc l [])[j]? = some b := ⟨_, List.getElem?_eq_getElem (by omega)⟩
            rcases (hpair j g b hg hb).2 i f hf h with e | e
            · have := hancL j b hb hj _ e
              simp only [Nat.zero_add] at this
              rw [hli] at this; cases this
            · exact e
        have hsp : ∀ (x : Nat) (y : Option Nat), y = some x → x ∈ y.toList := by rintro x y rfl; simp
        have hagree := hloc (runL (fun i => listed.getD i false) 0 fs s) (fun t ht => by
            refine runL_env _ _ t fs 0 s s rfl fun j g hg hne hdt => ?_
            simp only [Nat.zero_add] at hne
            rcases hpi j g hg hne with ⟨_, hp⟩ | ⟨_, hp⟩ <;> simp only [pairOK, Bool.and_eq_true] at hp
            · exact disj_spec hp.1.1.1 (hsp t _ hdt) (by simp [ht])
            · exact disj_spec hp.1.1.2 ht (hsp t _ hdt)) (fun p hp' => by
            refine runL_hp _ _ p fs 0 s s rfl rfl fun j g hg hne hdt => ?_
            simp only [Nat.zero_add] at hne
            rcases hpi j g hg hne with ⟨_, hp⟩ | ⟨_, hp⟩ <;> simp only [pairOK, Bool.and_eq_true] at hp
            · exact disj_spec hp.1.2 (hsp p _ hdt) (by simp [hp'])
            · exact disj_spec hp.2 hp' (hsp p _ hdt)) (by rw [runL_len, runL_len])
        -- behind it
        have hszi : i < listed.size := by omega
        have hbi : listed[i] = false := by
          rw [Array.getD_eq_getD_getElem?, Array.getElem?_eq_getElem hszi] at hli
          simpa using hli
        have hnext : ∀ γ κ a W, Conc C (f.ap (runL (fun i => listed.getD i false) 0 fs s)) γ κ a W → wpAny C.P .any l.toArray (CQ C Q) fuel (listed.setIfInBounds i true) a W := by
          intro γ κ a W hC'
          refine ih _ γ κ a W (by simpa using hsz) (count_set hszi hbi hcnt) ?_ ?_
          · intro k q hq hk j hj
            rw [getD_set hszi] at hk ⊢
            by_cases e : j = i
            · rw [if_pos e]
            · rw [if_neg e]
              by_cases e2 : k = i
              · subst e2
                rw [ho] at hq
                cases hq
                exact hon j hj
              · rw [if_neg e2] at hk
                exact hcl k q hq hk j hj
          · have hs := runL_add (fun i => listed.getD i false) i fs 0 s f (Nat.zero_le _) hli hf (fun j g hg hlt hl => by
              simp only [Nat.zero_add] at hlt hl
              have := hpi j g hg (by rw [hl, decide_eq_false (by omega)]; simp)
              rcases this with ⟨h, _⟩ | ⟨_, hp⟩
              · omega
              · simp only [pairOK, Bool.and_eq_true] at hp
                exact ⟨fun d hd hgd => disj_spec hp.1.1.1 (hsp d _ hd) (by simp [hgd]), fun p hd hgd => disj_spec hp.1.2 (hsp p _ hd) (by simp [hgd])⟩)
            have e : (fun j => if j = i then true else listed.getD j false) = fun j => (listed.setIfInBounds i true).getD j false := by
              funext j; rw [getD_set hszi]
            rw [e] at hs
            exact hs.conc hC'
        unfold wpOp
        rw [List.getElem?_toArray, ho]
        simp only
        rcases hagree with ⟨hwt, hop⟩ | ⟨hwt, hdk, hd⟩
        · rw [if_pos (awant_ok hC hwt)]
          exact .inl (hop γ κ a W hC _ _ hnext)
        · rw [if_neg (by rw [awant_ok hC hwt]; simp)]
          refine hnext γ κ _ _ ?_
          have := hC.put hdk (v := .undef) .undef
          have e : f.ap (runL (fun i => listed.getD i false) 0 fs s) = (runL (fun i => listed.getD i false) 0 fs s).put o.dst .undef := by
            unfold Fx.ap Dl.ap
            rw [hd, hdst]
          rw [e]; exact this
  refine key l.toArray.size (Array.replicate l.toArray.size false) γ κ a _ (by simp) (by simp) ?_ ?_
  · intro i o ho hk
    exfalso
    rw [Array.getD_eq_getD_getElem?, Array.getElem?_replicate] at hk
    split at hk <;> simp at hk
  · have : ∀ (q : List Fx) (m : Nat) (s : St), runL (fun i => (Array.replicate l.toArray.size false).getD i false) m q s = s := by
      intro q
      induction q with
      | nil => intro m s; rfl
      | cons g q ih =>
        intro m s
        simp only [runL]
        have : (Array.replicate l.toArray.size false).getD m false = false := by
          rw [Array.getD_eq_getD_getElem?, Array.getElem?_replicate]
          split <;> rfl
        rw [this]
        exact ih (m + 1) s
    rw [this]
    exact hC0
end
end Go.Proofs.YtjjdabihnmilgaaGreat.A
