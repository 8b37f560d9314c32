/- Contracts: the reference of layer 5: texts, Content. -/
import Derived.Test.YtmhejcnaanocpaaGreatXAskGrpAZ
import Derived.Test.YtmhejcnaanocpaaGreatXAskGrpBA
import Derived.Test.YtmhejcnaanocpaaGreatXAskGrpAV
import Derived.Test.YtmhejcnaanocpaaGreatXAskGrpAX
import Derived.Test.YtmhejcnaanocpaaGreatXAskGrpAY
import Derived.Test.YtmhejcnaanocpaaGreatXAskGrpAK
namespace Go.Proofs.YtmhejcnaanocpaaGreat.A
open Go.RowKit
set_option linter.unusedVariables false
set_option linter.unusedSimpArgs false
set_option maxRecDepth 100000
set_option maxHeartbeats 4000000
noncomputable def refT (f : List Node) : Nat → Int → List Int
  | 0, _ => []
  | m + 1, h => if dec (textB (nodeAt f h).kind) = true then (nodeAt f h).data else (nodeAt f h).kids.flatMap (refT f m)
theorem qec {f : List Node} {B : Nat} (m : Nat) (ih : ∀ h, (refT f m h).length ≤ (withinL f m h).length * B) : ∀ l : List Int, (l.flatMap (refT f m)).length ≤ (l.flatMap (withinL f m)).length * B
  | [] => Nat.zero_le _
  | k :: l => by
    simp only [List.flatMap_cons, List.length_append]
    rw [Nat.add_mul]
    exact Nat.add_le_add (ih k) (qec m ih l)
theorem qdl {f : List Node} {B : Nat} (hB : ∀ h, (nodeAt f h).data.length ≤ B) : ∀ m h, (refT f m h).length ≤ (withinL f m h).length * B
  | 0, h => Nat.zero_le _
  | m + 1, h => by
    unfold refT withinL
    rw [List.length_cons]
    split
    · exact Nat.le_trans (hB h) (Nat.le_mul_of_pos_left _ (Nat.succ_pos _))
    · exact Nat.le_trans (qec m (qdl hB m) (nodeAt f h).kids) (Nat.mul_le_mul_right _ (Nat.le_succ _))
theorem qid (g : Int → List Int) (l : List Int) {i : Int} (h0 : 0 ≤ i) (h1 : i < l.length) : (l.take (i + 1).toNat).flatMap g = (l.take i.toNat).flatMap g ++ g (atI l i) := by
  rw [show (i + 1).toNat = i.toNat + 1 by omega, List.take_add_one, qaz h0 h1, List.flatMap_append]
  simp
theorem qie (f : List Node) (m : Nat) (l : List Int) (i : Nat) : ((l.take i).flatMap (withinL f m)).length ≤ (l.flatMap (withinL f m)).length := by
  conv => rhs; rw [← List.take_append_drop i l, List.flatMap_append, List.length_append]
  omega
theorem qkk (f : List Node) (m : Nat) (l : List Int) {k : Int} (hk : k ∈ l) : (withinL f m k).length ≤ (l.flatMap (withinL f m)).length := by
  induction l with
  | nil => cases hk
  | cons x l ih =>
    simp only [List.flatMap_cons, List.length_append]
    rcases List.mem_cons.1 hk with e | e
    · subst e; omega
    · have := ih e; omega
theorem qn9 (f : List Node) (hf : Fit f) : ∀ (m : Nat) (h : Int), Hgt f m h → (withinL f m h).length ≤ 5000 → PureC Tryz.prog 80 [fav f, iav h] (.imm (.sl ((refT f m h).map u16))) := by
  intro m
  induction m with
  | zero => intro h hH; exact hH.elim
  | succ m ih =>
    intro h hH hlen
    have c1 := qaj f h hf.len
    have c2 := qea (nodeAt f h).kind
    have hdl := (hf.at h).data
    have hkl := (hf.at h).kids
    have hH : ∀ k ∈ (nodeAt f h).kids, Hgt f m k := hH
    have hlen : ((nodeAt f h).kids.flatMap (withinL f m)).length + 1 ≤ 5000 := hlen
    have hB : ∀ h, (nodeAt f h).data.length ≤ 1000000000 := fun h => (hf.at h).data
    have hfl := qec m (qdl hB m)
    unfold refT
    obtain ⟨n, hn⟩ : ∃ n, n = nodeAt f h := ⟨_, rfl⟩
    rw [← hn] at c1 c2 hdl hkl hH hlen ⊢
    obtain ⟨b, hb⟩ : ∃ b, b = inB f h := ⟨_, rfl⟩
    rw [← hb] at c1
    obtain ⟨t, ht⟩ : ∃ t, t = dec (textB n.kind) := ⟨_, rfl⟩
    rw [← ht] at c2 ⊢
    cases t with
    | true =>
      rw [if_pos rfl]
      refine yq tabs Tryz.func80 37 [.tmp 4] rfl rfl rfl rfl rfl ?_; intro w0 X
      (repeat' (first | ((with_reducible show AL _ _ _ _ _); first | (refine AL.step tabs rfl ?_; try dsimp only [len, List.nil_append, List.cons_append]) | refine AL.op rfl (yb rfl rfl rfl rfl c1 rfl) ?_ | refine AL.op rfl (yb rfl rfl rfl rfl c2 rfl) ?_ | refine yad rfl (yal (ie := ti55) (b := ⟨55, 1, []⟩) tabs rfl rfl rfl rfl rfl rfl rfl rfl rfl rfl (SrcA.imm (rows := n.data.map u16) tabs rfl rfl rfl (by simp [u16, ti55])) (by simp [ti55, chunk]; omega) (by simp [chunk]; omega)) rfl ?_ | refine ym ?_ | (refine AL.op rfl (yi rfl rfl rfl rfl rfl (by omega) (by omega)) ?_) | (refine AL.op rfl (ye tabs rfl rfl rfl rfl rfl rfl rfl (fun _ => rfl) (by decide) (by omega) (by omega)) ?_)) | refine yn ?_ | refine yc ?_ | refine ya ?_ | refine yf ?_ | refine AW.block ?_ | refine yt ?_ | refine yh rfl ?_ | refine yg rfl ?_ | (refine yk rfl (fun hc => ?_) (fun hc => ?_) <;> (try simp only [hsx] at hc) <;> (try first | omega | contradiction | (simp [qa] at hc; done))) | refine yo ?_ | refine yy ?_ | refine yd ?_ | refine yp ?_ | refine yw ?_ | refine yr ?_ | refine InB.off rfl ?_ | refine yz ?_ | refine yu ?_))
      refine yao rfl (Fz.os (b := ⟨55, 1, (n.data.map u16).map (·.map .imm)⟩) (rows := n.data.map u16) rfl ?_ rfl)
      simp
    | false =>
      rw [if_neg (by simp)]
      have hml : (n.kids.map i64).length = n.kids.length := List.length_map _
      refine yq tabs Tryz.func80 37 [.tmp 4] rfl rfl rfl rfl rfl ?_; intro w0 X
      (repeat' (first | ((with_reducible show AL _ _ _ _ _); first | (refine AL.step tabs rfl ?_; try dsimp only [len, List.nil_append, List.cons_append]) | refine AL.op rfl (yb rfl rfl rfl rfl c1 rfl) ?_ | refine AL.op rfl (yb rfl rfl rfl rfl c2 rfl) ?_ | refine ym ?_ | (refine AL.op rfl (yi rfl rfl rfl rfl rfl (by omega) (by omega)) ?_) | (refine AL.op rfl (ye tabs rfl rfl rfl rfl rfl rfl rfl (fun _ => rfl) (by decide) (by omega) (by omega)) ?_)) | refine yn ?_ | refine yc ?_ | refine ya ?_ | refine yf ?_ | refine AW.block ?_ | refine yt ?_ | refine yh rfl ?_ | refine yg rfl ?_ | (refine yk rfl (fun hc => ?_) (fun hc => ?_) <;> (try simp only [hsx] at hc) <;> (try first | omega | contradiction | (simp [qa] at hc; done))) | refine yo ?_ | refine yy ?_ | refine yd ?_ | refine yp ?_ | refine yw ?_ | refine yr ?_ | refine InB.off rfl ?_ | refine yz ?_ | refine yu ?_))
      refine ybl (Le.fresh 7 55 1 rfl rfl) ?_
      refine yak (α := Int) (fun i => ⟨[(2, .ptr 0 1 0 0), (7, .os 2 ((n.kids.take i.toNat).flatMap (refT f m)).length), (24, .imm (.sl (n.kids.map i64))), (25, iav (n.kids.map i64).length), (26, iav i)], [⟨24, 1, [[.imm (.sl (f.map Node.iv))]]⟩, ⟨44, 16, [rowS n]⟩, ⟨55, 1, ((n.kids.take i.toNat).flatMap (refT f m)).map cU⟩]⟩) (fun i => 0 ≤ i ∧ i ≤ n.kids.length) (fun i => (n.kids.length - i).toNat) 0 (yae 3 rfl (by repeat' (first | exact trivial | refine ⟨rfl, ?_⟩)) rfl (by simp only [qax]; exact ⟨rfl, qao n _, rfl⟩) (Nat.zero_le _)) ⟨Int.le_refl _, by omega⟩ ?_
      intro i ⟨i0, i1⟩
      by_cases hlt : i < n.kids.length
      · have hmem : atI n.kids i ∈ n.kids := qa8 i0 hlt
        have hone := qkk f m n.kids hmem
        have c3 := ih (atI n.kids i) (hH _ hmem) (by omega)
        have hl1 := qdl hB m (atI n.kids i)
        have hl2 := hfl (n.kids.take i.toNat)
        have hl3 := qie f m n.kids i.toNat
        have hnx := qid (refT f m) n.kids i0 hlt
        generalize (n.kids.take i.toNat).flatMap (refT f m) = acc at hl2 hnx ⊢
        (repeat' (first | ((with_reducible show AL _ _ _ _ _); first | (refine AL.step tabs rfl ?_; try dsimp only [len, List.nil_append, List.cons_append]) | refine AL.op rfl (yb rfl rfl rfl rfl c3 rfl) ?_ | refine yad rfl (yar (ie := ti55) (xs := acc) (ys := refT f m (atI n.kids i)) (g := cU) (ty := 55) (sz := 1) tabs rfl rfl rfl rfl rfl rfl rfl rfl rfl rfl (srcU tabs rfl rfl _ rfl) (by simp only [ti55]; omega) (by omega)) rfl ?_ | refine ym ?_ | (refine AL.op rfl (yi rfl rfl rfl rfl rfl (by omega) (by omega)) ?_) | (refine AL.op rfl (ye tabs rfl rfl rfl rfl rfl rfl rfl (fun _ => rfl) (by decide) (by omega) (by omega)) ?_)) | (exfalso; omega) | refine yn ?_ | refine yc ?_ | refine ya ?_ | refine yf ?_ | refine AW.block ?_ | refine yt ?_ | refine yh rfl ?_ | refine yg rfl ?_ | (refine yk rfl (fun hc => ?_) (fun hc => ?_) <;> (try simp only [hsx] at hc) <;> (try first | omega | contradiction | (simp [qa] at hc; done))) | refine yo ?_ | refine yy ?_ | refine yd ?_ | refine yp ?_ | refine yw ?_ | refine yr ?_ | refine InB.off rfl ?_ | refine yz ?_ | refine yu ?_))
        all_goals first
          | (exfalso; omega)
          | (refine yag (i + 1) ?_ ⟨by omega, by omega⟩ (by omega)
             rw [hnx]
             exact yae 3 rfl (by repeat' (first | exact trivial | refine ⟨rfl, ?_⟩)) rfl (by simp only [qax]; exact ⟨rfl, qao n _, qia _ _⟩) (Nat.zero_le _))
      · have e : n.kids.take i.toNat = n.kids := List.take_of_length_le (by omega)
        rw [e]
        (repeat' (first | ((with_reducible show AL _ _ _ _ _); first | (refine AL.step tabs rfl ?_; try dsimp only [len, List.nil_append, List.cons_append]) | refine ym ?_ | (refine AL.op rfl (yi rfl rfl rfl rfl rfl (by omega) (by omega)) ?_) | (refine AL.op rfl (ye tabs rfl rfl rfl rfl rfl rfl rfl (fun _ => rfl) (by decide) (by omega) (by omega)) ?_)) | (exfalso; omega) | refine yn ?_ | refine yc ?_ | refine ya ?_ | refine yf ?_ | refine AW.block ?_ | refine yt ?_ | refine yh rfl ?_ | refine yg rfl ?_ | (refine yk rfl (fun hc => ?_) (fun hc => ?_) <;> (try simp only [hsx] at hc) <;> (try first | omega | contradiction | (simp [qa] at hc; done))) | refine yo ?_ | refine yy ?_ | refine yd ?_ | refine yp ?_ | refine yw ?_ | refine yr ?_ | refine InB.off rfl ?_ | refine yz ?_ | refine yu ?_))
        all_goals first
          | (exfalso; omega)
          | exact yao rfl (Fz.os (b := ⟨55, 1, (n.kids.flatMap (refT f m)).map cU⟩) (rows := (n.kids.flatMap (refT f m)).map u16) rfl (List.length_map _).symm (qfg _))
theorem qeu (f : List Node) (h : Int) (hf : Fit f) (us : List Int) (hus : faultR f [h] = 0 → ∃ m, Hgt f m h ∧ (withinL f m h).length ≤ 5000 ∧ us = refT f m h) : PureC Tryz.prog 37 [fav f, iav h] (contA f h us) := by
  have c1 := qc1 f h hf
  have c2 := qaj f h hf.len
  have c3 := qcl (nodeAt f h).kind
  rw [show dec (hasD (nodeAt f h).kind) = dec (dataB (nodeAt f h).kind) by rw [propext (qhy _)]] at c3
  have hdl := (hf.at h).data
  unfold contA
  obtain ⟨b, hb⟩ : ∃ b, b = inB f h := ⟨_, rfl⟩
  rw [← hb] at c2
  by_cases he : faultR f [h] = 0
  · rw [if_neg (by omega)]
    rw [he] at c1
    have hus := hus he
    by_cases hk : (nodeAt f h).kind = 9 ∨ (nodeAt f h).kind = 10
    · rw [if_pos hk]
      clear hb
      generalize nodeAt f h = n at *
      rcases hk with hk | hk
      · refine yq tabs Tryz.func37 43 [.tmp 4, .tmp 5, .tmp 6] rfl rfl rfl rfl rfl ?_; intro w0 X
        (repeat' (first | ((with_reducible show AL _ _ _ _ _); first | (refine AL.step tabs rfl ?_; try dsimp only [len, List.nil_append, List.cons_append]) | refine AL.op rfl (yb rfl rfl rfl rfl c1 rfl) ?_ | refine AL.op rfl (yb rfl rfl rfl rfl c2 rfl) ?_ | refine AL.op rfl (yb rfl rfl rfl rfl c3 rfl) ?_ | refine ym ?_ | (refine yj rfl rfl rfl (fun hc => ?_) (fun hc => ?_) <;> (fail_if_success (exact absurd hc (by decide))) <;> (try simp only [hsx] at hc) <;> (try first | omega | contradiction | (simp [qa] at hc; done)))) | (exfalso; omega) | refine yn ?_ | refine yc ?_ | refine ya ?_ | refine yf ?_ | refine AW.block ?_ | refine yt ?_ | refine yh rfl ?_ | refine yg rfl ?_ | (refine yk rfl (fun hc => ?_) (fun hc => ?_) <;> (try simp only [hsx] at hc) <;> (try first | omega | contradiction | (simp [qa] at hc; done))) | refine yo ?_ | refine yy ?_ | refine yd ?_ | refine yp ?_ | refine yw ?_ | refine yr ?_ | refine InB.off rfl ?_))
        all_goals first
          | (exfalso; omega)
          | exact RQ.fin rfl rfl rfl
      · refine yq tabs Tryz.func37 43 [.tmp 4, .tmp 5, .tmp 6] rfl rfl rfl rfl rfl ?_; intro w0 X
        (repeat' (first | ((with_reducible show AL _ _ _ _ _); first | (refine AL.step tabs rfl ?_; try dsimp only [len, List.nil_append, List.cons_append]) | refine AL.op rfl (yb rfl rfl rfl rfl c1 rfl) ?_ | refine AL.op rfl (yb rfl rfl rfl rfl c2 rfl) ?_ | refine AL.op rfl (yb rfl rfl rfl rfl c3 rfl) ?_ | refine ym ?_ | (refine yj rfl rfl rfl (fun hc => ?_) (fun hc => ?_) <;> (fail_if_success (exact absurd hc (by decide))) <;> (try simp only [hsx] at hc) <;> (try first | omega | contradiction | (simp [qa] at hc; done)))) | (exfalso; omega) | refine yn ?_ | refine yc ?_ | refine ya ?_ | refine yf ?_ | refine AW.block ?_ | refine yt ?_ | refine yh rfl ?_ | refine yg rfl ?_ | (refine yk rfl (fun hc => ?_) (fun hc => ?_) <;> (try simp only [hsx] at hc) <;> (try first | omega | contradiction | (simp [qa] at hc; done))) | refine yo ?_ | refine yy ?_ | refine yd ?_ | refine yp ?_ | refine yw ?_ | refine yr ?_ | refine InB.off rfl ?_))
        all_goals first
          | (exfalso; omega)
          | exact RQ.fin rfl rfl rfl
    · rw [if_neg hk]
      by_cases hd : dec (dataB (nodeAt f h).kind) = true
      · rw [if_pos hd]
        rw [hd] at c3
        clear hb
        generalize nodeAt f h = n at *
        refine yq tabs Tryz.func37 43 [.tmp 4, .tmp 5, .tmp 6] rfl rfl rfl rfl rfl ?_; intro w0 X
        (repeat' (first | ((with_reducible show AL _ _ _ _ _); first | (refine AL.step tabs rfl ?_; try dsimp only [len, List.nil_append, List.cons_append]) | refine AL.op rfl (yb rfl rfl rfl rfl c1 rfl) ?_ | refine AL.op rfl (yb rfl rfl rfl rfl c2 rfl) ?_ | refine AL.op rfl (yb rfl rfl rfl rfl c3 rfl) ?_ | refine yad rfl (yal (ie := ti55) (b := ⟨55, 1, []⟩) tabs rfl rfl rfl rfl rfl rfl rfl rfl rfl rfl (SrcA.imm (rows := n.data.map u16) tabs rfl rfl rfl (by simp [u16, ti55])) (by simp [ti55, chunk]; omega) (by simp [chunk]; omega)) rfl ?_ | refine ym ?_ | (refine yj rfl rfl rfl (fun hc => ?_) (fun hc => ?_) <;> (fail_if_success (exact absurd hc (by decide))) <;> (try simp only [hsx] at hc) <;> (try first | omega | contradiction | (simp [qa] at hc; done)))) | (exfalso; omega) | refine yn ?_ | refine yc ?_ | refine ya ?_ | refine yf ?_ | refine AW.block ?_ | refine yt ?_ | refine yh rfl ?_ | refine yg rfl ?_ | (refine yk rfl (fun hc => ?_) (fun hc => ?_) <;> (try simp only [hsx] at hc) <;> (try first | omega | contradiction | (simp [qa] at hc; done))) | refine yo ?_ | refine yy ?_ | refine yd ?_ | refine yp ?_ | refine yw ?_ | refine yr ?_ | refine InB.off rfl ?_))
        all_goals first
          | (exfalso; omega)
          | (refine yao rfl (ya0 (.cons (Fz.os (b := ⟨55, 1, (n.data.map u16).map (·.map .imm)⟩) (rows := n.data.map u16) rfl ?_ rfl) (.cons (Fz.im rfl) (.cons (Fz.im rfl) .nil))))
             simp)
      · rw [if_neg hd]
        have hd : dec (dataB (nodeAt f h).kind) = false := by simpa using hd
        rw [hd] at c3
        obtain ⟨m, hH, hlen, rfl⟩ := hus
        have c4 := qn9 f hf m h hH hlen
        generalize refT f m h = us at c4 ⊢
        clear hb
        generalize nodeAt f h = n at *
        have h9 : n.kind ≠ 9 := fun h => hk (.inl h)
        have h10 : n.kind ≠ 10 := fun h => hk (.inr h)
        refine yq tabs Tryz.func37 43 [.tmp 4, .tmp 5, .tmp 6] rfl rfl rfl rfl rfl ?_; intro w0 X
        (repeat' (first | ((with_reducible show AL _ _ _ _ _); first | (refine AL.step tabs rfl ?_; try dsimp only [len, List.nil_append, List.cons_append]) | refine AL.op rfl (yb rfl rfl rfl rfl c1 rfl) ?_ | refine AL.op rfl (yb rfl rfl rfl rfl c2 rfl) ?_ | refine AL.op rfl (yb rfl rfl rfl rfl c3 rfl) ?_ | refine AL.op rfl (yb rfl rfl rfl rfl c4 rfl) ?_ | refine ym ?_ | (refine yj rfl rfl rfl (fun hc => ?_) (fun hc => ?_) <;> (fail_if_success (exact absurd hc (by decide))) <;> (try simp only [hsx] at hc) <;> (try first | omega | contradiction | (simp [qa] at hc; done)))) | (exfalso; omega) | refine yn ?_ | refine yc ?_ | refine ya ?_ | refine yf ?_ | refine AW.block ?_ | refine yt ?_ | refine yh rfl ?_ | refine yg rfl ?_ | (refine yk rfl (fun hc => ?_) (fun hc => ?_) <;> (try simp only [hsx] at hc) <;> (try first | omega | contradiction | (simp [qa] at hc; done))) | refine yo ?_ | refine yy ?_ | refine yd ?_ | refine yp ?_ | refine yw ?_ | refine yr ?_ | refine InB.off rfl ?_))
        all_goals first
          | (exfalso; omega)
          | exact RQ.fin rfl rfl rfl
  · rw [if_pos he]
    clear hus hb
    generalize faultR f [h] = e at *
    generalize nodeAt f h = n at *
    refine yq tabs Tryz.func37 43 [.tmp 4, .tmp 5, .tmp 6] rfl rfl rfl rfl rfl ?_; intro w0 X
    (repeat' (first | ((with_reducible show AL _ _ _ _ _); first | (refine AL.step tabs rfl ?_; try dsimp only [len, List.nil_append, List.cons_append]) | refine AL.op rfl (yb rfl rfl rfl rfl c1 rfl) ?_ | refine AL.op rfl (yb rfl rfl rfl rfl c2 rfl) ?_ | refine AL.op rfl (yb rfl rfl rfl rfl c3 rfl) ?_ | refine ym ?_ | (refine yj rfl rfl rfl (fun hc => ?_) (fun hc => ?_) <;> (fail_if_success (exact absurd hc (by decide))) <;> (try simp only [hsx] at hc) <;> (try first | omega | contradiction | (simp [qa] at hc; done)))) | (exfalso; omega) | refine yn ?_ | refine yc ?_ | refine ya ?_ | refine yf ?_ | refine AW.block ?_ | refine yt ?_ | refine yh rfl ?_ | refine yg rfl ?_ | (refine yk rfl (fun hc => ?_) (fun hc => ?_) <;> (try simp only [hsx] at hc) <;> (try first | omega | contradiction | (simp [qa] at hc; done))) | refine yo ?_ | refine yy ?_ | refine yd ?_ | refine yp ?_ | refine yw ?_ | refine yr ?_ | refine InB.off rfl ?_))
    all_goals first
      | (exfalso; omega)
      | exact RQ.fin rfl rfl rfl
theorem Hgt.mono {f : List Node} : ∀ {m m' : Nat} {h : Int}, m ≤ m' → Hgt f m h → Hgt f m' h
  | 0, _, _, _, hH => hH.elim
  | m + 1, 0, _, hle, _ => absurd hle (by omega)
  | m + 1, m' + 1, h, hle, hH => fun k hk => Hgt.mono (by omega) (hH k hk)
theorem qo3 {f : List Node} (hr : rightP f) : ∀ a : Int, ∃ m, Hgt f m a := by
  refine qjw hr _ fun a ih => ?_
  have : ∀ l : List Int, (∀ k ∈ l, ∃ m, Hgt f m k) → ∃ m, ∀ k ∈ l, Hgt f m k := by
    intro l
    induction l with
    | nil => exact fun _ => ⟨0, fun k hk => by cases hk⟩
    | cons x l ihl =>
      intro h
      obtain ⟨m1, h1⟩ := h x (by simp)
      obtain ⟨m2, h2⟩ := ihl fun k hk => h k (by simp [hk])
      refine ⟨max m1 m2, fun k hk => ?_⟩
      rcases List.mem_cons.1 hk with e | e
      · subst e; exact h1.mono (by omega)
      · exact (h2 k e).mono (by omega)
  obtain ⟨m, hm⟩ := this _ ih
  exact ⟨m + 1, hm⟩
theorem qcm {f : List Node} (hr : rightP f) : ∀ (m : Nat) (a x : Int), inR f a → x ∈ withinL f m a → ∃ j, itN f j x = a ∧ (∀ i, i < j → inR f (itN f i x)) ∧ inR f x := by
  intro m
  induction m with
  | zero => intro a x _ hx; cases hx
  | succ m ih =>
    intro a x ha hx
    rcases List.mem_cons.1 hx with e | e
    · subst e; exact ⟨0, rfl, fun i hi => absurd hi (Nat.not_lt_zero _), ha⟩
    · obtain ⟨k, hk, hxk⟩ := List.mem_flatMap.1 e
      obtain ⟨hink, hup⟩ := qas hr ha hk
      obtain ⟨j, h1, h2, h3⟩ := ih k x hink hxk
      refine ⟨j + 1, by rw [qai, h1]; exact hup, fun i hi => ?_, h3⟩
      by_cases h : i < j
      · exact h2 i h
      · have : i = j := by omega
        subst this; rw [h1]; exact hink
theorem qgd {f : List Node} (hr : rightP f) {a k1 k2 x : Int} (ha : inR f a) (h1 : k1 ∈ (nodeAt f a).kids) (h2 : k2 ∈ (nodeAt f a).kids) {j1 j2 : Nat} (e1 : itN f j1 x = k1) (e2 : itN f j2 x = k2) (i2 : ∀ i, i < j2 → inR f (itN f i x)) (hle : j1 ≤ j2) : k1 = k2 := by
  obtain ⟨in1, up1⟩ := qas hr ha h1
  obtain ⟨in2, up2⟩ := qas hr ha h2
  by_cases h : j1 = j2
  · subst h; rw [← e1, ← e2]
  · exfalso
    have hg := (qag hr ha).2.2
    refine qbe (x := a) ⟨j2 - j1, by omega, ?_, ?_⟩ hg
    · have : itN f (j2 + 1) x = a := by rw [qai, e2]; exact up2
      rw [show j2 + 1 = (j1 + 1) + (j2 - j1) by omega, qai, qai, e1] at this
      rw [show itN f 1 k1 = a from up1] at this
      exact this
    · intro i hi
      by_cases hl : i + 1 = j2 - j1
      · have : itN f i a = k2 := by
          rw [← e2, show j2 = (j1 + 1) + i by omega, qai, qai, e1]
          rw [show itN f 1 k1 = a from up1]
        rw [this]; exact in2
      · have : itN f i a = itN f (j1 + 1 + i) x := by
          rw [qai, qai, e1]
          rw [show itN f 1 k1 = a from up1]
        rw [this]
        exact i2 _ (by omega)
theorem qev {g : Int → List Int} : ∀ l : List Int, l.Nodup → (∀ k ∈ l, (g k).Nodup) → (∀ k1 ∈ l, ∀ k2 ∈ l, ∀ x, x ∈ g k1 → x ∈ g k2 → k1 = k2) → (l.flatMap g).Nodup
  | [], _, _, _ => List.nodup_nil
  | k :: l, hn, hg, hd => by
    rw [List.nodup_cons] at hn
    rw [List.flatMap_cons, List.nodup_append]
    refine ⟨hg k (by simp), qev l hn.2 (fun x hx => hg x (by simp [hx])) (fun a ha b hb => hd a (by simp [ha]) b (by simp [hb])), ?_⟩
    intro a ha b hb e
    subst e
    obtain ⟨k2, hk2, h2⟩ := List.mem_flatMap.1 hb
    have := hd k (by simp) k2 (by simp [hk2]) a ha h2
    subst this
    exact hn.1 hk2
theorem qge {f : List Node} (hr : rightP f) : ∀ (m : Nat) (a : Int), inR f a → (withinL f m a).Nodup := by
  intro m
  induction m with
  | zero => intro a _; exact List.nodup_nil
  | succ m ih =>
    intro a ha
    unfold withinL
    rw [List.nodup_cons]
    refine ⟨?_, qev _ (qce hr ha) (fun k hk => ih k (qas hr ha hk).1) ?_⟩
    · intro hx
      obtain ⟨k, hk, hxk⟩ := List.mem_flatMap.1 hx
      obtain ⟨hink, hup⟩ := qas hr ha hk
      obtain ⟨j, h1, h2, _⟩ := qcm hr m k a hink hxk
      refine qbe (x := a) ⟨j + 1, by omega, by rw [qai, h1]; exact hup, fun i hi => ?_⟩ (qag hr ha).2.2
      by_cases h : i < j
      · exact h2 i h
      · have : i = j := by omega
        subst this; rw [h1]; exact hink
    · intro k1 hk1 k2 hk2 x hx1 hx2
      obtain ⟨j1, a1, b1, _⟩ := qcm hr m k1 x (qas hr ha hk1).1 hx1
      obtain ⟨j2, a2, b2, _⟩ := qcm hr m k2 x (qas hr ha hk2).1 hx2
      rcases Nat.le_total j1 j2 with h | h
      · exact qgd hr ha hk1 hk2 a1 a2 b2 h
      · exact (qgd hr ha hk2 hk1 a2 a1 b1 h).symm
theorem qif {f : List Node} (hr : rightP f) (m : Nat) {a : Int} (ha : inR f a) : (withinL f m a).length ≤ 5000 := by
  have := qdk (l := withinL f m a) (m := (List.range f.length).map fun j : Nat => (j : Int) + 1) (qge hr m a ha) fun x hx => by
    obtain ⟨_, _, _, h3⟩ := qcm hr m a x ha hx
    have h1 := h3.1
    have h2 := h3.2
    exact List.mem_map.2 ⟨(x - 1).toNat, List.mem_range.2 (by omega), by omega⟩
  have h4 := hr.1
  simp at this
  omega
theorem qkl {f : List Node} (hr : rightP f) {a : Int} (ha : inR f a) (ht : textB (nodeAt f a).kind) : (nodeAt f a).kids = [] := by
  obtain ⟨hm, _, _⟩ := qag hr ha
  rcases hm.2.2.1.2.2 with h | h
  · exfalso
    rcases ht with e | e <;> rw [e] at h <;> exact absurd h (by decide)
  · exact List.eq_nil_of_length_eq_zero (by omega)
theorem qoa {f : List Node} (hr : rightP f) : ∀ (m : Nat) (a : Int), inR f a → refT f m a = textL f (withinL f m a) := by
  intro m
  induction m with
  | zero => intro a _; rfl
  | succ m ih =>
    intro a ha
    unfold refT withinL textL
    rw [List.flatMap_cons]
    unfold textD
    by_cases ht : dec (textB (nodeAt f a).kind) = true
    · rw [if_pos ht, if_pos ht, qkl hr ha (by rwa [qb] at ht)]
      simp
    · rw [if_neg ht, if_neg ht, List.nil_append, List.flatMap_assoc]
      have : ∀ l : List Int, (∀ k ∈ l, inR f k) → l.flatMap (refT f m) = l.flatMap fun x => (withinL f m x).flatMap (textD f) := by
        intro l
        induction l with
        | nil => intro _; rfl
        | cons k l ihl =>
          intro h
          rw [List.flatMap_cons, List.flatMap_cons, ihl fun x hx => h x (by simp [hx]), ih k (h k (by simp))]
          rfl
      exact this _ fun k hk => (qas hr ha hk).1
theorem qed {f : List Node} {h : Int} (he : faultR f [h] = 0) : rightP f ∧ inR f h := by
  unfold faultR at he
  split at he
  · rename_i h1
    rw [qb] at h1
    split at he
    · rename_i h2
      exact ⟨h1, by simpa [inB, inR] using h2⟩
    · cases he
  · cases he
theorem qig (f : List Node) (h : Int) (he : faultR f [h] = 0) : ∃ m us, Hgt f m h ∧ (withinL f m h).length ≤ 5000 ∧ us = textL f (withinL f m h) ∧ us = refT f m h := by
  obtain ⟨hr, hh⟩ := qed he
  obtain ⟨m, hm⟩ := qo3 hr h
  exact ⟨m, _, hm, qif hr m hh, rfl, (qoa hr m h hh).symm⟩
theorem qmd {f : List Node} (hr : rightP f) (a : Int) : (nodeAt f a).data.length ≤ 16384 := by
  by_cases ha : inR f a
  · have := (qag hr ha).1.2.2.1.1
    omega
  · rw [qa2 ha]; simp [n0]
theorem contents (f : List Node) (h : Int) (hf : Fit f) : ∃ us : List Int, us.length ≤ 1000000000 ∧ PureC Tryz.prog 36 [fav f, iav h] (contA f h us) ∧ PureC Tryz.prog 37 [fav f, iav h] (contA f h us) := by
  by_cases he : faultR f [h] = 0
  · obtain ⟨m, us, h1, h2, h3, h4⟩ := qig f h he
    refine ⟨us, ?_, qf9 f h hf us fun _ => ⟨m, h1, h2, h3⟩, qeu f h hf us fun _ => ⟨m, h1, h2, h4⟩⟩
    have := qdl (f := f) (B := 16384) (qmd (qed he).1) m h
    rw [h4]
    omega
  · exact ⟨[], by simp, qf9 f h hf [] fun h => absurd h he, qeu f h hf [] fun h => absurd h he⟩
theorem qc3 (f : List Node) (x : Int) : PureC Tryz.prog 50 [kav (nodeAt f x).kind] (bav (txt f x)) := qea _
theorem qkm (f : List Node) (h e k w : Int) (t : Bool)
    (c1 : PureC Tryz.prog 49 [fav f, iav h] (iav e)) (c2 : PureC Tryz.prog 51 [fav f, iav h] (kav k)) (c3 : PureC Tryz.prog 50 [kav k] (bav t))
    (hw : w = if e ≠ 0 then e else 23) (ht : e = 0 → t = false) : PureC Tryz.prog 35 [fav f, iav h] (.tup [.imm (.sl []), iav w]) := by
  by_cases he : e = 0
  · subst he
    have ht := ht rfl
    subst ht
    obtain rfl : w = 23 := by simpa using hw
    clear hw
    refine yq tabs Tryz.func35 52 [.tmp 4, .tmp 5] rfl rfl rfl rfl rfl ?_; intro w0 X
    (repeat' (first | ((with_reducible show AL _ _ _ _ _); first | (refine AL.step tabs rfl ?_; try dsimp only [len, List.nil_append, List.cons_append]) | refine AL.op rfl (yb rfl rfl rfl rfl c1 rfl) ?_ | refine AL.op rfl (yb rfl rfl rfl rfl c2 rfl) ?_ | refine AL.op rfl (yb rfl rfl rfl rfl c3 rfl) ?_ | refine ym ?_ | (refine yj rfl rfl rfl (fun hc => ?_) (fun hc => ?_) <;> (fail_if_success (exact absurd hc (by decide))) <;> (try simp only [hsx] at hc) <;> (try first | omega | contradiction | (simp [qa] at hc; done)))) | ((with_reducible show DQ _ _ _ _ _ _); first | refine DQ.stepc (LS.val tabs rfl rfl rfl) rfl rfl rfl rfl rfl ?_ | refine DQ.stepc (yab rfl rfl) rfl rfl rfl rfl rfl ?_ | refine DQ.nilM (by kernel_rfl) ?_ | (refine DQ.gsplitE rfl rfl rfl (fun hc => ?_) (fun hc => ?_) <;> (fail_if_success (exact absurd hc (by decide))) <;> (try simp only [hsx] at hc) <;> (try first | omega | contradiction | (simp [qa] at hc; done)))) | (exfalso; omega) | refine yn ?_ | refine yc ?_ | refine ya ?_ | refine yf ?_ | refine AW.block ?_ | refine yt ?_ | refine yh rfl ?_ | refine yg rfl ?_ | (refine yk rfl (fun hc => ?_) (fun hc => ?_) <;> (try simp only [hsx] at hc) <;> (try first | omega | contradiction | (simp [qa] at hc; done))) | refine yo ?_ | refine yy ?_ | refine yd ?_ | refine yp ?_ | refine yw ?_ | refine yr ?_ | refine InB.off rfl ?_ | refine yz ?_ | refine yu ?_ | refine yx mixed (by kernel_rfl) ?_))
    all_goals first
      | (exfalso; omega)
      | exact RQ.fin rfl rfl rfl
  · rw [if_pos he] at hw
    subst hw
    clear ht
    refine yq tabs Tryz.func35 52 [.tmp 4, .tmp 5] rfl rfl rfl rfl rfl ?_; intro w0 X
    (repeat' (first | ((with_reducible show AL _ _ _ _ _); first | (refine AL.step tabs rfl ?_; try dsimp only [len, List.nil_append, List.cons_append]) | refine AL.op rfl (yb rfl rfl rfl rfl c1 rfl) ?_ | refine AL.op rfl (yb rfl rfl rfl rfl c2 rfl) ?_ | refine AL.op rfl (yb rfl rfl rfl rfl c3 rfl) ?_ | refine ym ?_ | (refine yj rfl rfl rfl (fun hc => ?_) (fun hc => ?_) <;> (fail_if_success (exact absurd hc (by decide))) <;> (try simp only [hsx] at hc) <;> (try first | omega | contradiction | (simp [qa] at hc; done)))) | ((with_reducible show DQ _ _ _ _ _ _); first | refine DQ.stepc (LS.val tabs rfl rfl rfl) rfl rfl rfl rfl rfl ?_ | refine DQ.stepc (yab rfl rfl) rfl rfl rfl rfl rfl ?_ | refine DQ.nilM (by kernel_rfl) ?_ | (refine DQ.gsplitE rfl rfl rfl (fun hc => ?_) (fun hc => ?_) <;> (fail_if_success (exact absurd hc (by decide))) <;> (try simp only [hsx] at hc) <;> (try first | omega | contradiction | (simp [qa] at hc; done)))) | (exfalso; omega) | refine yn ?_ | refine yc ?_ | refine ya ?_ | refine yf ?_ | refine AW.block ?_ | refine yt ?_ | refine yh rfl ?_ | refine yg rfl ?_ | (refine yk rfl (fun hc => ?_) (fun hc => ?_) <;> (try simp only [hsx] at hc) <;> (try first | omega | contradiction | (simp [qa] at hc; done))) | refine yo ?_ | refine yy ?_ | refine yd ?_ | refine yp ?_ | refine yw ?_ | refine yr ?_ | refine InB.off rfl ?_ | refine yz ?_ | refine yu ?_ | refine yx mixed (by kernel_rfl) ?_))
    all_goals first
      | (exfalso; omega)
      | exact RQ.fin rfl rfl rfl
theorem qkn (f : List Node) (h : Int) (hf : Fit f) (he : cfP f h true = 0) (hp : (nodeAt f h).parent = 0) : PureC Tryz.prog 35 [fav f, iav h] (.tup [.imm (.sl ((nodeAt f h).data.map u16)), iav 0]) := by
  have hl := hf.len
  obtain ⟨hr, hin, ht, _⟩ := qci he
  have he0 : faultR f [h] = 0 := by
    unfold cfP at he
    apply Classical.byContradiction
    intro hx
    rw [if_pos hx] at he
    exact hx he
  have c1 := qc1 f h hf
  rw [he0] at c1
  have ck := qb5 f h hl
  have ct := qc3 f h
  rw [show txt f h = true by unfold txt; rw [qb]; exact ht rfl] at ct
  have b1 := qc2 f h (-1) hf (by omega) (by omega)
  have b2 := qc2 f h 1 hf (by omega) (by omega)
  have hb0 : ∀ b, besideP f h b = 0 := fun b => by unfold besideP; rw [if_pos hp]
  rw [hb0] at b1 b2
  have k0 := qb5 f 0 hl
  have t0 := qc3 f 0
  rw [txt0] at t0
  have cn := qaj f h hl
  have hdl := (hf.at h).data
  obtain ⟨n, hn⟩ : ∃ n, n = nodeAt f h := ⟨_, rfl⟩
  obtain ⟨n', hn'⟩ : ∃ n', n' = nodeAt f 0 := ⟨_, rfl⟩
  rw [← hn] at ck ct cn hdl ⊢
  rw [← hn'] at k0 t0
  obtain ⟨bb, hbb⟩ : ∃ b, b = inB f h := ⟨_, rfl⟩
  rw [← hbb] at cn
  clear hbb hn hn' hp
  refine yq tabs Tryz.func35 52 [.tmp 4, .tmp 5] rfl rfl rfl rfl rfl ?_; intro w0 X
  (repeat' (first | ((with_reducible show AL _ _ _ _ _); first | (refine AL.step tabs rfl ?_; try dsimp only [len, List.nil_append, List.cons_append]) | refine AL.op rfl (yb rfl rfl rfl rfl c1 rfl) ?_ | refine AL.op rfl (yb rfl rfl rfl rfl ck rfl) ?_ | refine AL.op rfl (yb rfl rfl rfl rfl ct rfl) ?_ | refine ym ?_ | (refine yj rfl rfl rfl (fun hc => ?_) (fun hc => ?_) <;> (fail_if_success (exact absurd hc (by decide))) <;> (try simp only [hsx] at hc) <;> (try first | omega | contradiction | (simp [qa] at hc; done)))) | ((with_reducible show DQ _ _ _ _ _ _); first | refine DQ.stepc (LS.val tabs rfl rfl rfl) rfl rfl rfl rfl rfl ?_ | refine DQ.stepc (yab rfl rfl) rfl rfl rfl rfl rfl ?_ | refine DQ.nilM (by kernel_rfl) ?_ | (refine DQ.gsplitE rfl rfl rfl (fun hc => ?_) (fun hc => ?_) <;> (fail_if_success (exact absurd hc (by decide))) <;> (try simp only [hsx] at hc) <;> (try first | omega | contradiction | (simp [qa] at hc; done)))) | (exfalso; omega) | refine yn ?_ | refine yc ?_ | refine ya ?_ | refine yf ?_ | refine AW.block ?_ | refine yt ?_ | refine yh rfl ?_ | refine yg rfl ?_ | (refine yk rfl (fun hc => ?_) (fun hc => ?_) <;> (try simp only [hsx] at hc) <;> (try first | omega | contradiction | (simp [qa] at hc; done))) | refine yo ?_ | refine yy ?_ | refine yd ?_ | refine yp ?_ | refine yw ?_ | refine yr ?_ | refine InB.off rfl ?_ | refine yz ?_ | refine yu ?_ | refine yx mixed (by kernel_rfl) ?_))
  refine yak (α := Unit) (fun _ => ⟨[(1, iav h), (2, .ptr 0 1 0 0)], [⟨24, 1, [[.imm (.sl (f.map Node.iv))]]⟩]⟩) (fun _ => True) (fun _ => 0) () (yae 1 rfl (by repeat' (first | exact trivial | refine ⟨rfl, ?_⟩)) rfl rfl (Nat.zero_le _)) trivial ?_
  intro _ _
  (repeat' (first | ((with_reducible show AL _ _ _ _ _); first | (refine AL.step tabs rfl ?_; try dsimp only [len, List.nil_append, List.cons_append]) | refine ym ?_ | (refine yj rfl rfl rfl (fun hc => ?_) (fun hc => ?_) <;> (fail_if_success (exact absurd hc (by decide))) <;> (try simp only [hsx] at hc) <;> (try first | omega | contradiction | (simp [qa] at hc; done)))) | ((with_reducible show DQ _ _ _ _ _ _); first | refine DQ.stepc (yai rfl rfl rfl rfl rfl b1 rfl) rfl rfl rfl rfl rfl ?_ | refine DQ.stepc (yai rfl rfl rfl rfl rfl k0 rfl) rfl rfl rfl rfl rfl ?_ | refine DQ.stepc (yai rfl rfl rfl rfl rfl t0 rfl) rfl rfl rfl rfl rfl ?_ | refine DQ.stepc (LS.val tabs rfl rfl rfl) rfl rfl rfl rfl rfl ?_ | refine DQ.stepc (yab rfl rfl) rfl rfl rfl rfl rfl ?_ | refine DQ.nilM (by kernel_rfl) ?_ | (refine DQ.gsplitE rfl rfl rfl (fun hc => ?_) (fun hc => ?_) <;> (fail_if_success (exact absurd hc (by decide))) <;> (try simp only [hsx] at hc) <;> (try first | omega | contradiction | (simp [qa] at hc; done)))) | refine yn ?_ | refine yc ?_ | refine ya ?_ | refine yf ?_ | refine AW.block ?_ | refine yt ?_ | refine yh rfl ?_ | refine yg rfl ?_ | (refine yk rfl (fun hc => ?_) (fun hc => ?_) <;> (try simp only [hsx] at hc) <;> (try first | omega | contradiction | (simp [qa] at hc; done))) | refine yo ?_ | refine yy ?_ | refine yd ?_ | refine yp ?_ | refine yw ?_ | refine yr ?_ | refine InB.off rfl ?_ | refine yz ?_ | refine yu ?_ | refine yx mixed (by kernel_rfl) ?_))
  refine ybl (Le.fresh 7 55 1 rfl rfl) ?_
  refine yak (α := Bool) (fun d => ⟨[(1, iav (if d then 0 else h)), (2, .ptr 0 1 0 0), (7, .os 1 (if d then n.data else []).length)], [⟨24, 1, [[.imm (.sl (f.map Node.iv))]]⟩, ⟨55, 1, (if d then n.data else []).map cU⟩]⟩) (fun _ => True) (fun d => if d then 0 else 1) false (yae 2 rfl (by repeat' (first | exact trivial | refine ⟨rfl, ?_⟩)) rfl rfl (Nat.zero_le _)) trivial ?_
  intro d _
  cases d with
  | false =>
    (repeat' (first | ((with_reducible show AL _ _ _ _ _); first | (refine AL.step tabs rfl ?_; try dsimp only [len, List.nil_append, List.cons_append]) | refine AL.op rfl (yb rfl rfl rfl rfl ck rfl) ?_ | refine AL.op rfl (yb rfl rfl rfl rfl ct rfl) ?_ | refine AL.op rfl (yb rfl rfl rfl rfl cn rfl) ?_ | refine AL.op rfl (yb rfl rfl rfl rfl b2 rfl) ?_ | refine yad rfl (yar (ie := ti55) (xs := []) (ys := n.data) (g := cU) (ty := 55) (sz := 1) tabs rfl rfl rfl rfl rfl rfl rfl rfl rfl rfl (srcU tabs rfl rfl n.data rfl) (by simp [ti55]; omega) (by simp; omega)) rfl ?_ | refine ym ?_ | (refine yj rfl rfl rfl (fun hc => ?_) (fun hc => ?_) <;> (fail_if_success (exact absurd hc (by decide))) <;> (try simp only [hsx] at hc) <;> (try first | omega | contradiction | (simp [qa] at hc; done)))) | ((with_reducible show DQ _ _ _ _ _ _); first | refine DQ.stepc (LS.val tabs rfl rfl rfl) rfl rfl rfl rfl rfl ?_ | refine DQ.stepc (yab rfl rfl) rfl rfl rfl rfl rfl ?_ | refine DQ.nilM (by kernel_rfl) ?_ | (refine DQ.gsplitE rfl rfl rfl (fun hc => ?_) (fun hc => ?_) <;> (fail_if_success (exact absurd hc (by decide))) <;> (try simp only [hsx] at hc) <;> (try first | omega | contradiction | (simp [qa] at hc; done)))) | refine yn ?_ | refine yc ?_ | refine ya ?_ | refine yf ?_ | refine AW.block ?_ | refine yt ?_ | refine yh rfl ?_ | refine yg rfl ?_ | (refine yk rfl (fun hc => ?_) (fun hc => ?_) <;> (try simp only [hsx] at hc) <;> (try first | omega | contradiction | (simp [qa] at hc; done))) | refine yo ?_ | refine yy ?_ | refine yd ?_ | refine yp ?_ | refine yw ?_ | refine yr ?_ | refine InB.off rfl ?_ | refine yz ?_ | refine yu ?_ | refine yx mixed (by kernel_rfl) ?_))
    exact yag true (yae 2 rfl (by repeat' (first | exact trivial | refine ⟨rfl, ?_⟩)) rfl (by simp only [qax]; exact ⟨rfl, qia _ _⟩) (Nat.zero_le _)) trivial (by decide)
  | true =>
    (repeat' (first | ((with_reducible show AL _ _ _ _ _); first | (refine AL.step tabs rfl ?_; try dsimp only [len, List.nil_append, List.cons_append]) | refine AL.op rfl (yb rfl rfl rfl rfl k0 rfl) ?_ | refine AL.op rfl (yb rfl rfl rfl rfl t0 rfl) ?_ | refine ym ?_ | (refine yj rfl rfl rfl (fun hc => ?_) (fun hc => ?_) <;> (fail_if_success (exact absurd hc (by decide))) <;> (try simp only [hsx] at hc) <;> (try first | omega | contradiction | (simp [qa] at hc; done)))) | ((with_reducible show DQ _ _ _ _ _ _); first | refine DQ.stepc (LS.val tabs rfl rfl rfl) rfl rfl rfl rfl rfl ?_ | refine DQ.stepc (yab rfl rfl) rfl rfl rfl rfl rfl ?_ | refine DQ.nilM (by kernel_rfl) ?_ | (refine DQ.gsplitE rfl rfl rfl (fun hc => ?_) (fun hc => ?_) <;> (fail_if_success (exact absurd hc (by decide))) <;> (try simp only [hsx] at hc) <;> (try first | omega | contradiction | (simp [qa] at hc; done)))) | refine yn ?_ | refine yc ?_ | refine ya ?_ | refine yf ?_ | refine AW.block ?_ | refine yt ?_ | refine yh rfl ?_ | refine yg rfl ?_ | (refine yk rfl (fun hc => ?_) (fun hc => ?_) <;> (try simp only [hsx] at hc) <;> (try first | omega | contradiction | (simp [qa] at hc; done))) | refine yo ?_ | refine yy ?_ | refine yd ?_ | refine yp ?_ | refine yw ?_ | refine yr ?_ | refine InB.off rfl ?_ | refine yz ?_ | refine yu ?_ | refine yx mixed (by kernel_rfl) ?_))
    exact yao rfl (ya0 (.cons (Fz.os (b := ⟨55, 1, (n.data).map cU⟩) (rows := (n.data).map u16) rfl (List.length_map _).symm (by rw [List.map_map]; rfl)) (.cons (Fz.im rfl) .nil)))
theorem qko (f : List Node) (h : Int) (hf : Fit f) (he : cfP f h true = 0) (hp : (nodeAt f h).parent ≠ 0) : PureC Tryz.prog 35 [fav f, iav h] (.tup [.imm (.sl ((wholeP f h).map u16)), iav 0]) := by
  have hl := hf.len
  obtain ⟨hr, hin, ht, _⟩ := qci he
  have he0 : faultR f [h] = 0 := by
    unfold cfP at he
    apply Classical.byContradiction
    intro hx
    rw [if_pos hx] at he
    exact hx he
  have c1 := qc1 f h hf
  rw [he0] at c1
  have ck := qb5 f h hl
  have ct := qc3 f h
  rw [show txt f h = true by unfold txt; rw [qb]; exact ht rfl] at ct
  obtain ⟨kh, hkh⟩ : ∃ k, k = (nodeAt f h).kind := ⟨_, rfl⟩
  rw [← hkh] at ck ct
  obtain ⟨hq, hm⟩ := qd6 hr hin hp
  obtain ⟨w, hw⟩ : ∃ w, w = wholeP f h := ⟨_, rfl⟩
  have hwE : wholeP f h = runGo f (txt f) ((nodeAt f (nodeAt f h).parent).kids.drop (leftN (txt f) (nodeAt f (nodeAt f h).parent).kids (idx (nodeAt f (nodeAt f h).parent).kids h).toNat)) := by unfold wholeP; rw [if_neg hp]
  rw [← hw] at hwE ⊢
  obtain ⟨q, hqe⟩ : ∃ q, q = (nodeAt f h).parent := ⟨_, rfl⟩
  rw [← hqe] at hq hm hp hwE
  have hat := @qf2 f hr q hq
  have hfew := qcd hr q
  have hnd := qce hr hq
  obtain ⟨l, hle⟩ : ∃ l, l = (nodeAt f q).kids := ⟨_, rfl⟩
  rw [← hle] at hat hfew hnd hm hwE
  obtain ⟨i, i0, i1, hi⟩ := qg2 hm
  rw [← hi, qhr hnd i0 i1] at hwE
  clear hkh hqe hle
  refine yq tabs Tryz.func35 52 [.tmp 4, .tmp 5] rfl rfl rfl rfl rfl ?_; intro w0 X
  (repeat' (first | ((with_reducible show AL _ _ _ _ _); first | (refine AL.step tabs rfl ?_; try dsimp only [len, List.nil_append, List.cons_append]) | refine AL.op rfl (yb rfl rfl rfl rfl c1 rfl) ?_ | refine AL.op rfl (yb rfl rfl rfl rfl ck rfl) ?_ | refine AL.op rfl (yb rfl rfl rfl rfl ct rfl) ?_ | refine ym ?_ | (refine yj rfl rfl rfl (fun hc => ?_) (fun hc => ?_) <;> (fail_if_success (exact absurd hc (by decide))) <;> (try simp only [hsx] at hc) <;> (try first | omega | contradiction | (simp [qa] at hc; done)))) | ((with_reducible show DQ _ _ _ _ _ _); first | refine DQ.stepc (LS.val tabs rfl rfl rfl) rfl rfl rfl rfl rfl ?_ | refine DQ.stepc (yab rfl rfl) rfl rfl rfl rfl rfl ?_ | refine DQ.nilM (by kernel_rfl) ?_ | (refine DQ.gsplitE rfl rfl rfl (fun hc => ?_) (fun hc => ?_) <;> (fail_if_success (exact absurd hc (by decide))) <;> (try simp only [hsx] at hc) <;> (try first | omega | contradiction | (simp [qa] at hc; done)))) | (exfalso; omega) | refine yn ?_ | refine yc ?_ | refine ya ?_ | refine yf ?_ | refine AW.block ?_ | refine yt ?_ | refine yh rfl ?_ | refine yg rfl ?_ | (refine yk rfl (fun hc => ?_) (fun hc => ?_) <;> (try simp only [hsx] at hc) <;> (try first | omega | contradiction | (simp [qa] at hc; done))) | refine yo ?_ | refine yy ?_ | refine yd ?_ | refine yp ?_ | refine yw ?_ | refine yr ?_ | refine InB.off rfl ?_ | refine yz ?_ | refine yu ?_ | refine yx mixed (by kernel_rfl) ?_))
  refine yak (α := Int) (fun j => ⟨[(1, iav (atI l j)), (2, .ptr 0 1 0 0)], [⟨24, 1, [[.imm (.sl (f.map Node.iv))]]⟩]⟩) (fun j => 0 ≤ j ∧ j ≤ i ∧ leftN (txt f) l j.toNat = leftN (txt f) l i.toNat) (fun j => j.toNat) i (yae 1 rfl ⟨by rw [hi]; rfl, rfl, trivial⟩ rfl rfl (Nat.zero_le _)) ⟨i0, Int.le_refl _, rfl⟩ ?_
  rintro j ⟨j0, j1, hj⟩
  have c3 := qc2 f (atI l j) (-1) hf (by omega) (by omega)
  rw [hat (b := -1) j0 (by omega)] at c3
  have k3 := qb5 f (offI l (j + -1)) hl
  have t3 := qc3 f (offI l (j + -1))
  obtain ⟨b, hb⟩ : ∃ b, b = txt f (offI l (j + -1)) := ⟨_, rfl⟩
  rw [← hb] at t3
  (repeat' (first | ((with_reducible show AL _ _ _ _ _); first | (refine AL.step tabs rfl ?_; try dsimp only [len, List.nil_append, List.cons_append]) | refine AL.op rfl (yb rfl rfl rfl rfl c3 rfl) ?_ | refine ym ?_ | (refine yj rfl rfl rfl (fun hc => ?_) (fun hc => ?_) <;> (fail_if_success (exact absurd hc (by decide))) <;> (try simp only [hsx] at hc) <;> (try first | omega | contradiction | (simp [qa] at hc; done)))) | ((with_reducible show DQ _ _ _ _ _ _); first | refine DQ.stepc (yai rfl rfl rfl rfl rfl c3 rfl) rfl rfl rfl rfl rfl ?_ | refine DQ.stepc (yai rfl rfl rfl rfl rfl k3 rfl) rfl rfl rfl rfl rfl ?_ | refine DQ.stepc (yai rfl rfl rfl rfl rfl t3 rfl) rfl rfl rfl rfl rfl ?_ | refine DQ.stepc (LS.val tabs rfl rfl rfl) rfl rfl rfl rfl rfl ?_ | refine DQ.stepc (yab rfl rfl) rfl rfl rfl rfl rfl ?_ | refine DQ.nilM (by kernel_rfl) ?_ | (refine DQ.gsplitE rfl rfl rfl (fun hc => ?_) (fun hc => ?_) <;> (fail_if_success (exact absurd hc (by decide))) <;> (try simp only [hsx] at hc) <;> (try first | omega | contradiction | (simp [qa] at hc; done)))) | refine yn ?_ | refine yc ?_ | refine ya ?_ | refine yf ?_ | refine AW.block ?_ | refine yt ?_ | refine yh rfl ?_ | refine yg rfl ?_ | (refine yk rfl (fun hc => ?_) (fun hc => ?_) <;> (try simp only [hsx] at hc) <;> (try first | omega | contradiction | (simp [qa] at hc; done))) | refine yo ?_ | refine yy ?_ | refine yd ?_ | refine yp ?_ | refine yw ?_ | refine yr ?_ | refine InB.off rfl ?_ | refine yz ?_ | refine yu ?_ | refine yx mixed (by kernel_rfl) ?_))
  · have hj0 : 0 ≤ j - 1 := by
      apply Classical.byContradiction
      intro h'
      rw [show offI l (j + -1) = 0 by unfold offI; rw [if_pos (by omega)], txt0, hc] at hb
      cases hb
    have e1 : offI l (j + -1) = atI l (j - 1) := by unfold offI; rw [if_neg (by omega)]; rfl
    refine yag (j - 1) (yae 1 rfl ⟨by rw [← e1]; rfl, rfl, trivial⟩ rfl rfl (Nat.zero_le _)) ⟨hj0, by omega, ?_⟩ (by omega)
    rw [← hj, show j.toNat = (j - 1).toNat + 1 by omega]
    rw [leftN, if_pos (by rw [show (((j - 1).toNat : Nat) : Int) = j - 1 by omega, ← e1, ← hb]; exact hc)]
  · have hlj : leftN (txt f) l j.toNat = j.toNat := by
      by_cases hj0 : j = 0
      · subst hj0; rfl
      · rw [show j.toNat = (j - 1).toNat + 1 by omega]
        rw [leftN, if_neg ?_]
        rw [show (((j - 1).toNat : Nat) : Int) = j - 1 by omega]
        have e1 : offI l (j + -1) = atI l (j - 1) := by unfold offI; rw [if_neg (by omega)]; rfl
        rw [← e1, ← hb, hc]
        exact Bool.false_ne_true
    refine ybl (Le.fresh 7 55 1 rfl rfl) ?_
    refine yak (α := Int × List Int) (fun x => ⟨[(1, iav (offI l x.1)), (2, .ptr 0 1 0 0), (7, .os 1 x.2.length)], [⟨24, 1, [[.imm (.sl (f.map Node.iv))]]⟩, ⟨55, 1, x.2.map cU⟩]⟩) (fun x => 0 ≤ x.1 ∧ x.1 ≤ l.length ∧ x.2 ++ runGo f (txt f) (l.drop x.1.toNat) = w ∧ (x.2.length : Int) ≤ x.1 * 1000000000) (fun x => (l.length - x.1).toNat) (j, []) (yae 2 rfl ⟨by rw [show offI l j = atI l j by unfold offI; rw [if_neg (by omega)]]; rfl, rfl, rfl, trivial⟩ rfl rfl (Nat.zero_le _)) ⟨by simp only; omega, by simp only; omega, by rw [List.nil_append, hwE, ← hj, hlj], by simp only [List.length_nil]; omega⟩ ?_
    rintro ⟨k, acc⟩ ⟨k0, k1, hk, hka⟩
    simp only at k0 k1 hk hka
    have k4 := qb5 f (offI l k) hl
    have t4 := qc3 f (offI l k)
    by_cases hb2 : txt f (offI l k) = true
    · have hk1 : k < l.length := by
        apply Classical.byContradiction
        intro h'
        rw [show offI l k = 0 by unfold offI; rw [if_pos (by omega)], txt0] at hb2
        cases hb2
      have e1 : offI l k = atI l k := by unfold offI; rw [if_neg (by omega)]
      rw [hb2] at t4
      have c4 := qaj f (offI l k) hl
      have c5 := qc2 f (offI l k) 1 hf (by omega) (by omega)
      rw [e1] at c4 c5 k4 t4
      rw [hat (b := 1) k0 hk1] at c5
      have hdl := (hf.at (atI l k)).data
      rw [qcj f (txt f) l k0 hk1, if_pos (by rw [← e1]; exact hb2), ← List.append_assoc] at hk
      obtain ⟨n, hn⟩ : ∃ n, n = nodeAt f (atI l k) := ⟨_, rfl⟩
      rw [← hn] at c4 hdl hk k4 t4
      obtain ⟨bb, hbb⟩ : ∃ b, b = inB f (atI l k) := ⟨_, rfl⟩
      rw [← hbb] at c4
      have hacc : acc.length + n.data.length ≤ 10000000000000 := by omega
      simp only [e1]
      (repeat' (first | ((with_reducible show AL _ _ _ _ _); first | (refine AL.step tabs rfl ?_; try dsimp only [len, List.nil_append, List.cons_append]) | refine AL.op rfl (yb rfl rfl rfl rfl k4 rfl) ?_ | refine AL.op rfl (yb rfl rfl rfl rfl t4 rfl) ?_ | refine AL.op rfl (yb rfl rfl rfl rfl c4 rfl) ?_ | refine AL.op rfl (yb rfl rfl rfl rfl c5 rfl) ?_ | refine yad rfl (yar (ie := ti55) (xs := acc) (ys := n.data) (g := cU) (ty := 55) (sz := 1) tabs rfl rfl rfl rfl rfl rfl rfl rfl rfl rfl (srcU tabs rfl rfl n.data rfl) (by simp only [ti55]; omega) (by omega)) rfl ?_ | refine ym ?_ | (refine yj rfl rfl rfl (fun hc => ?_) (fun hc => ?_) <;> (fail_if_success (exact absurd hc (by decide))) <;> (try simp only [hsx] at hc) <;> (try first | omega | contradiction | (simp [qa] at hc; done)))) | ((with_reducible show DQ _ _ _ _ _ _); first | refine DQ.stepc (LS.val tabs rfl rfl rfl) rfl rfl rfl rfl rfl ?_ | refine DQ.stepc (yab rfl rfl) rfl rfl rfl rfl rfl ?_ | refine DQ.nilM (by kernel_rfl) ?_ | (refine DQ.gsplitE rfl rfl rfl (fun hc => ?_) (fun hc => ?_) <;> (fail_if_success (exact absurd hc (by decide))) <;> (try simp only [hsx] at hc) <;> (try first | omega | contradiction | (simp [qa] at hc; done)))) | refine yn ?_ | refine yc ?_ | refine ya ?_ | refine yf ?_ | refine AW.block ?_ | refine yt ?_ | refine yh rfl ?_ | refine yg rfl ?_ | (refine yk rfl (fun hc => ?_) (fun hc => ?_) <;> (try simp only [hsx] at hc) <;> (try first | omega | contradiction | (simp [qa] at hc; done))) | refine yo ?_ | refine yy ?_ | refine yd ?_ | refine yp ?_ | refine yw ?_ | refine yr ?_ | refine InB.off rfl ?_ | refine yz ?_ | refine yu ?_ | refine yx mixed (by kernel_rfl) ?_))
      refine yag (k + 1, acc ++ n.data) ?_ ?_ ?_
      · exact yae 2 rfl (by repeat' (first | exact trivial | refine ⟨rfl, ?_⟩)) rfl (by simp only [qax]; exact ⟨rfl, qia _ _⟩) (Nat.zero_le _)
      · refine ⟨?_, ?_, hk, ?_⟩
        · show (0 : Int) ≤ k + 1; omega
        · show k + 1 ≤ (l.length : Int); omega
        · simp only [List.length_append]; omega
      · show (l.length - (k + 1) : Int).toNat < (l.length - k : Int).toNat; omega
    · have hb3 : txt f (offI l k) = false := by simpa using hb2
      rw [hb3] at t4
      have ek : acc = w := by
        rw [← hk]
        by_cases hk1 : k < l.length
        · have e1 : offI l k = atI l k := by unfold offI; rw [if_neg (by omega)]
          rw [qcj f (txt f) l k0 hk1, if_neg (by rw [← e1]; exact hb2), List.append_nil]
        · rw [List.drop_eq_nil_of_le (by omega)]; simp [runGo]
      subst ek
      (repeat' (first | ((with_reducible show AL _ _ _ _ _); first | (refine AL.step tabs rfl ?_; try dsimp only [len, List.nil_append, List.cons_append]) | refine AL.op rfl (yb rfl rfl rfl rfl k4 rfl) ?_ | refine AL.op rfl (yb rfl rfl rfl rfl t4 rfl) ?_ | refine ym ?_ | (refine yj rfl rfl rfl (fun hc => ?_) (fun hc => ?_) <;> (fail_if_success (exact absurd hc (by decide))) <;> (try simp only [hsx] at hc) <;> (try first | omega | contradiction | (simp [qa] at hc; done)))) | ((with_reducible show DQ _ _ _ _ _ _); first | refine DQ.stepc (LS.val tabs rfl rfl rfl) rfl rfl rfl rfl rfl ?_ | refine DQ.stepc (yab rfl rfl) rfl rfl rfl rfl rfl ?_ | refine DQ.nilM (by kernel_rfl) ?_ | (refine DQ.gsplitE rfl rfl rfl (fun hc => ?_) (fun hc => ?_) <;> (fail_if_success (exact absurd hc (by decide))) <;> (try simp only [hsx] at hc) <;> (try first | omega | contradiction | (simp [qa] at hc; done)))) | refine yn ?_ | refine yc ?_ | refine ya ?_ | refine yf ?_ | refine AW.block ?_ | refine yt ?_ | refine yh rfl ?_ | refine yg rfl ?_ | (refine yk rfl (fun hc => ?_) (fun hc => ?_) <;> (try simp only [hsx] at hc) <;> (try first | omega | contradiction | (simp [qa] at hc; done))) | refine yo ?_ | refine yy ?_ | refine yd ?_ | refine yp ?_ | refine yw ?_ | refine yr ?_ | refine InB.off rfl ?_ | refine yz ?_ | refine yu ?_ | refine yx mixed (by kernel_rfl) ?_))
      exact yao rfl (ya0 (.cons (Fz.os (b := ⟨55, 1, (acc).map cU⟩) (rows := (acc).map u16) rfl (List.length_map _).symm (by rw [List.map_map]; rfl)) (.cons (Fz.im rfl) .nil)))
noncomputable def wholeA (f : List Node) (h : Int) : AV := if cfP f h true ≠ 0 then .tup [.imm (.sl []), iav (cfP f h true)] else .tup [.imm (.sl ((wholeP f h).map u16)), iav 0]
theorem qme (f : List Node) (h : Int) (hf : Fit f) : PureC Tryz.prog 18 [fav f, iav h] (wholeA f h) := by
  unfold wholeA
  by_cases he : cfP f h true = 0
  · rw [if_neg (by omega)]; exact qn0 f h hf he
  · rw [if_pos he]; exact qjx f h hf he
theorem qkp (f : List Node) (h : Int) (hf : Fit f) : PureC Tryz.prog 35 [fav f, iav h] (wholeA f h) := by
  unfold wholeA
  by_cases he : cfP f h true = 0
  · rw [if_neg (by omega)]
    by_cases hp : (nodeAt f h).parent = 0
    · rw [show wholeP f h = (nodeAt f h).data by unfold wholeP; rw [if_pos hp]]
      exact qkn f h hf he hp
    · exact qko f h hf he hp
  · rw [if_pos he]
    have c1 := qc1 f h hf
    have c2 := qb5 f h hf.len
    have c3 := qea (nodeAt f h).kind
    have hd : dec (dataB (nodeAt f h).kind) = false → dec (textB (nodeAt f h).kind) = false := by
      intro hx
      rw [qg] at hx ⊢
      exact fun ht => hx (.inl ht)
    refine qkm f h _ _ _ (dec (textB (nodeAt f h).kind)) c1 c2 c3 ?_ ?_
    · unfold cfP at he ⊢
      by_cases hx : faultR f [h] = 0
      · have hn : ¬ (faultR f [h] ≠ 0) := fun h => h hx
        rw [if_neg hn] at he
        rw [if_neg hn, if_neg hn]
        split at he
        · rename_i h1; rw [if_pos h1]
        · exact absurd rfl he
      · rw [if_pos hx, if_pos hx]
    · intro hx
      have hn : ¬ (faultR f [h] ≠ 0) := fun h => h hx
      unfold cfP at he
      rw [if_neg hn] at he
      split at he
      · rename_i h1
        rcases h1 with h1 | h1
        · exact hd h1
        · exact h1.2
      · exact absurd rfl he
theorem qkq (f : List Node) (h : Int) (hf : Fit f) : PureC Tryz.prog 32 [fav f, iav h] (.tup [iav (if cfP f h false = 0 then ((nodeAt f h).data.length : Int) else 0), iav (cfP f h false)]) := by
  have c1 := qa1 f h false hf
  have c2 := qz f h hf.len
  obtain ⟨n, hn⟩ : ∃ n, n = nodeAt f h := ⟨_, rfl⟩
  rw [← hn] at c2 ⊢
  have hml : (n.data.map u16).length = n.data.length := List.length_map _
  rw [← hml]
  obtain ⟨e, he⟩ : ∃ e, e = cfP f h false := ⟨_, rfl⟩
  rw [← he] at c1 ⊢
  by_cases h0 : e = 0
  · subst h0
    rw [if_pos rfl]
    refine yq tabs Tryz.func32 18 [.tmp 4, .tmp 5] rfl rfl rfl rfl rfl ?_; intro w0 X
    (repeat' (first | ((with_reducible show AL _ _ _ _ _); first | (refine AL.step tabs rfl ?_; try dsimp only [len, List.nil_append, List.cons_append]) | refine AL.op rfl (yb rfl rfl rfl rfl c1 rfl) ?_ | refine AL.op rfl (yb rfl rfl rfl rfl c2 rfl) ?_ | refine ym ?_) | (exfalso; omega) | refine yn ?_ | refine yc ?_ | refine ya ?_ | refine yf ?_ | refine yh rfl ?_ | refine yg rfl ?_ | (refine yk rfl (fun hc => ?_) (fun hc => ?_) <;> (try simp only [hsx] at hc) <;> (try first | omega | contradiction | (simp [qa] at hc; done))) | refine yo ?_ | refine yd ?_))
    all_goals first
      | (exfalso; omega)
      | exact RQ.fin rfl rfl rfl
  · rw [if_neg h0]
    refine yq tabs Tryz.func32 18 [.tmp 4, .tmp 5] rfl rfl rfl rfl rfl ?_; intro w0 X
    (repeat' (first | ((with_reducible show AL _ _ _ _ _); first | (refine AL.step tabs rfl ?_; try dsimp only [len, List.nil_append, List.cons_append]) | refine AL.op rfl (yb rfl rfl rfl rfl c1 rfl) ?_ | refine AL.op rfl (yb rfl rfl rfl rfl c2 rfl) ?_ | refine ym ?_) | (exfalso; omega) | refine yn ?_ | refine yc ?_ | refine ya ?_ | refine yf ?_ | refine yh rfl ?_ | refine yg rfl ?_ | (refine yk rfl (fun hc => ?_) (fun hc => ?_) <;> (try simp only [hsx] at hc) <;> (try first | omega | contradiction | (simp [qa] at hc; done))) | refine yo ?_ | refine yd ?_))
    all_goals first
      | (exfalso; omega)
      | exact RQ.fin rfl rfl rfl
noncomputable def subsA (f : List Node) (h off cnt : Int) : AV := if cfP f h false ≠ 0 then .tup [.imm (.sl []), iav (cfP f h false)] else .tup [.imm (.sl ((if off ≤ (nodeAt f h).data.length then subP (nodeAt f h).data off cnt else []).map u16)), iav (if off ≤ (nodeAt f h).data.length then 0 else 14)]
theorem qob (f : List Node) (h off cnt : Int) (hf : Fit f) (h0 : 0 ≤ off) (h1 : off < 4294967296) (h2 : 0 ≤ cnt) (h3 : cnt < 4294967296) : PureC Tryz.prog 29 [fav f, iav h, u32 off, u32 cnt] (subsA f h off cnt) := by
  have c1 := qa1 f h false hf
  have c2 := qz f h hf.len
  have c3 := qns (nodeAt f h).data off cnt h0 h1 h2 h3 (hf.at h).data
  unfold subsA
  generalize (if off ≤ (nodeAt f h).data.length then subP (nodeAt f h).data off cnt else []) = u at *
  generalize (if off ≤ (nodeAt f h).data.length then (0 : Int) else 14) = w at *
  generalize nodeAt f h = n at *
  generalize cfP f h false = e at *
  by_cases he : e = 0
  · subst he
    rw [if_neg (by simp)]
    refine yq tabs Tryz.func29 26 [.tmp 8, .tmp 9] rfl rfl rfl rfl rfl ?_; intro w0 X
    (repeat' (first | ((with_reducible show AL _ _ _ _ _); first | (refine AL.step tabs rfl ?_; try dsimp only [len, List.nil_append, List.cons_append]) | refine AL.op rfl (yb rfl rfl rfl rfl c1 rfl) ?_ | refine AL.op rfl (yb rfl rfl rfl rfl c2 rfl) ?_ | refine AL.op rfl (yb rfl rfl rfl rfl c3 rfl) ?_ | refine ym ?_) | (exfalso; omega) | refine yn ?_ | refine yc ?_ | refine ya ?_ | refine yf ?_ | refine yh rfl ?_ | refine yg rfl ?_ | (refine yk rfl (fun hc => ?_) (fun hc => ?_) <;> (try simp only [hsx] at hc) <;> (try first | omega | contradiction | (simp [qa] at hc; done))) | refine yo ?_ | refine yd ?_))
    all_goals first
      | (exfalso; omega)
      | exact RQ.fin rfl rfl rfl
  · rw [if_pos he]
    refine yq tabs Tryz.func29 26 [.tmp 8, .tmp 9] rfl rfl rfl rfl rfl ?_; intro w0 X
    (repeat' (first | ((with_reducible show AL _ _ _ _ _); first | (refine AL.step tabs rfl ?_; try dsimp only [len, List.nil_append, List.cons_append]) | refine AL.op rfl (yb rfl rfl rfl rfl c1 rfl) ?_ | refine AL.op rfl (yb rfl rfl rfl rfl c2 rfl) ?_ | refine AL.op rfl (yb rfl rfl rfl rfl c3 rfl) ?_ | refine ym ?_) | (exfalso; omega) | refine yn ?_ | refine yc ?_ | refine ya ?_ | refine yf ?_ | refine yh rfl ?_ | refine yg rfl ?_ | (refine yk rfl (fun hc => ?_) (fun hc => ?_) <;> (try simp only [hsx] at hc) <;> (try first | omega | contradiction | (simp [qa] at hc; done))) | refine yo ?_ | refine yd ?_))
    all_goals first
      | (exfalso; omega)
      | exact RQ.fin rfl rfl rfl
theorem qmf (f : List Node) (h off cnt : Int) (hf : Fit f) (h0 : 0 ≤ off) (h1 : off < 4294967296) (h2 : 0 ≤ cnt) (h3 : cnt < 4294967296) : PureC Tryz.prog 34 [fav f, iav h, u32 off, u32 cnt] (subsA f h off cnt) := by
  have c1 := qeb f h hf
  have c2 := qaj f h hf.len
  have c3 := qo2 (nodeAt f h).data off cnt h0 h1 h2 h3 (hf.at h).data
  unfold subsA
  generalize (if off ≤ (nodeAt f h).data.length then subP (nodeAt f h).data off cnt else []) = u at *
  generalize (if off ≤ (nodeAt f h).data.length then (0 : Int) else 14) = w at *
  generalize nodeAt f h = n at *
  generalize inB f h = b at *
  generalize cfP f h false = e at *
  by_cases he : e = 0
  · subst he
    rw [if_neg (by simp)]
    refine yq tabs Tryz.func34 32 [.tmp 8, .tmp 9] rfl rfl rfl rfl rfl ?_; intro w0 X
    (repeat' (first | ((with_reducible show AL _ _ _ _ _); first | (refine AL.step tabs rfl ?_; try dsimp only [len, List.nil_append, List.cons_append]) | refine AL.op rfl (yb rfl rfl rfl rfl c1 rfl) ?_ | refine AL.op rfl (yb rfl rfl rfl rfl c2 rfl) ?_ | refine AL.op rfl (yb rfl rfl rfl rfl c3 rfl) ?_ | refine ym ?_) | (exfalso; omega) | refine yn ?_ | refine yc ?_ | refine ya ?_ | refine yf ?_ | refine yh rfl ?_ | refine yg rfl ?_ | (refine yk rfl (fun hc => ?_) (fun hc => ?_) <;> (try simp only [hsx] at hc) <;> (try first | omega | contradiction | (simp [qa] at hc; done))) | refine yo ?_ | refine yd ?_))
    all_goals first
      | (exfalso; omega)
      | exact RQ.fin rfl rfl rfl
  · rw [if_pos he]
    refine yq tabs Tryz.func34 32 [.tmp 8, .tmp 9] rfl rfl rfl rfl rfl ?_; intro w0 X
    (repeat' (first | ((with_reducible show AL _ _ _ _ _); first | (refine AL.step tabs rfl ?_; try dsimp only [len, List.nil_append, List.cons_append]) | refine AL.op rfl (yb rfl rfl rfl rfl c1 rfl) ?_ | refine AL.op rfl (yb rfl rfl rfl rfl c2 rfl) ?_ | refine AL.op rfl (yb rfl rfl rfl rfl c3 rfl) ?_ | refine ym ?_) | (exfalso; omega) | refine yn ?_ | refine yc ?_ | refine ya ?_ | refine yf ?_ | refine yh rfl ?_ | refine yg rfl ?_ | (refine yk rfl (fun hc => ?_) (fun hc => ?_) <;> (try simp only [hsx] at hc) <;> (try first | omega | contradiction | (simp [qa] at hc; done))) | refine yo ?_ | refine yd ?_))
    all_goals first
      | (exfalso; omega)
      | exact RQ.fin rfl rfl rfl
set_option maxHeartbeats 4000000
open Go.RowKit
set_option linter.unusedVariables false
set_option linter.unusedSimpArgs false
set_option maxRecDepth 100000
set_option maxHeartbeats 4000000
end Go.Proofs.YtmhejcnaanocpaaGreat.A
