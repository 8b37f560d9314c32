/- Contracts: tree.Within, chardata.Content. -/
import Derived.Test.YtmhejcnaanocpaaGreatXAskGrpAY
import Derived.Test.YtmhejcnaanocpaaGreatXAskGrpAT
import Derived.Test.YtmhejcnaanocpaaGreatXAskGrpAK
import Derived.Test.YtmhejcnaanocpaaGreatXAskGrpAM
import Derived.Test.YtmhejcnaanocpaaGreatXAskGrpAJ
namespace Go.Proofs.YtmhejcnaanocpaaGreat.A
open Go.RowKit
set_option linter.unusedVariables false
set_option linter.unusedSimpArgs false
set_option maxRecDepth 100000
set_option maxHeartbeats 4000000
theorem ql1 (f : List Node) (h : Int) : GenC Tryz.prog 78 [] [fav f, iav h] (.fn 97 [.ptr 0 1 0 0, .ptr 1 1 0 0]) [⟨24, 1, [[.imm (.sl (f.map Node.iv))]]⟩, ⟨3, 1, [[iav h]]⟩] := by
  refine yaj tabs Tryz.func78 6 [.tmp 4] rfl rfl rfl rfl rfl ?_; intro w0 X γ κ
  (repeat' (first | ((with_reducible show AL _ _ _ _ _); first | (refine AL.step tabs rfl ?_; try dsimp only [len, List.nil_append, List.cons_append]) | refine ym ?_) | refine yn ?_ | refine yc ?_ | refine ya ?_ | refine yf ?_ | refine yo ?_ | refine yd ?_))
  exact yam 2 rfl rfl rfl rfl rfl (by simp [cxG])
noncomputable def textD (f : List Node) (x : Int) : List Int := if dec (textB (nodeAt f x).kind) = true then (nodeAt f x).data else []
theorem qfg (l : List Int) : l.map cU = (l.map u16).map (·.map .imm) := by rw [List.map_map]; rfl
noncomputable def textL (f : List Node) (pre : List Int) : List Int := pre.flatMap (textD f)
theorem qf7 {f : List Node} (hf : Fit f) : ∀ pre : List Int, (textL f pre).length ≤ pre.length * 1000000000
  | [] => by simp [textL]
  | x :: pre => by
    have := qf7 hf pre
    have h2 : (textD f x).length ≤ 1000000000 := by
      unfold textD
      split
      · exact (hf.at x).data
      · simp
    simp only [textL, List.flatMap_cons, List.length_append, List.length_cons] at this ⊢
    omega
theorem qn3 (l : List Int) : (l.map cU).all (fun r => r.all AV.nm) = true := by
  rw [List.all_map, List.all_eq_true]
  exact fun _ _ => rfl
theorem qf8 (f : List Node) (h : Int) (hf : Fit f) (n : Node) (hkl : ∀ h, (nodeAt f h).kids.length ≤ 1000000000) (m : Nat) (hH : Hgt f m h) (hlen : (withinL f m h).length ≤ 5000) (c1 : PureC Tryz.prog 76 [fav f, .imm (.sl ([h].map i64))] (iav 0)) (c2 : PureC Tryz.prog 40 [fav f, iav h] n.av) (c3 : PureC Tryz.prog 77 [kav n.kind] (bav false)) (h9 : n.kind ≠ 9) (h10 : n.kind ≠ 10) :
    PureC Tryz.prog 36 [fav f, iav h] (.tup [.imm (.sl ((textL f (withinL f m h)).map u16)), bav true, iav 0]) := by
  have hl := hf.len
  have cW := ql1 f h
  refine ybx tabs Tryz.func36 53 [.tmp 4, .tmp 5, .tmp 6] rfl rfl rfl rfl rfl ?_; intro w0 X
  (repeat' (first | ((with_reducible show AL _ _ _ _ _); first | refine AL.pin 0 (env1 := [(2, .pin [.sl (f.map Node.iv)]), (1, iav h), (4, .nils), (5, bav false), (6, iav 0)]) (h1 := []) [.sl (f.map Node.iv)] rfl rfl ⟨⟨_, rfl, rfl⟩, ⟨_, rfl, rfl⟩, ⟨_, rfl, rfl⟩, ⟨_, rfl, rfl⟩, ⟨_, rfl, rfl⟩, trivial⟩ rfl rfl rfl (Nat.zero_le _) ?_ | (refine AL.step tabs rfl ?_; try dsimp only [len, List.nil_append, List.cons_append]) | refine AL.op rfl (yas rfl rfl rfl rfl c1 rfl rfl) ?_ | refine AL.op rfl (yb rfl rfl rfl rfl c2 rfl) ?_ | refine AL.op rfl (yb rfl rfl rfl rfl c3 rfl) ?_ | refine yac [] 3 rfl rfl rfl rfl rfl (caps := []) rfl cW rfl rfl rfl rfl rfl rfl rfl rfl (hpA := [⟨24, 1, [[.imm (.sl (f.map Node.iv))]]⟩, ⟨3, 1, [[iav h]]⟩]) rfl (r' := .fn 97 [.ptr 3 1 0 0, .ptr 4 1 0 0]) rfl rfl ?_ | refine ym ?_ | (refine yj rfl rfl rfl (fun hc => ?_) (fun hc => ?_) <;> (fail_if_success (exact absurd hc (by decide))) <;> (try simp only [hsx] at hc) <;> (try first | omega | contradiction | (simp [qa] at hc; done)))) | (exfalso; omega) | refine ybs ?_ | (refine ya3 rfl (by first | exact fun _ h => h | exact fun _ h => h.2) ?_; intro w0' may') | refine ya ?_ | refine ybg ?_ | refine AWM.block ?_ | refine yt ?_ | refine ybc rfl ?_ | refine ybb rfl ?_ | (refine ya9 rfl (fun hc => ?_) (fun hc => ?_) <;> (try simp only [hsx] at hc) <;> (try first | omega | contradiction | (simp [qa] at hc; done))) | refine ybr ?_ | refine ybf ?_ | refine yd ?_ | refine yp ?_ | refine yw ?_ | refine yr ?_ | refine InB.off rfl ?_))
  refine AWM.pin 4 (env1 := [(40, .fn 97 [.ptr 3 1 0 0, .pin [.int .i64 h]]), (9, .ptr 2 1 0 0), (2, .pin [.sl (f.map Node.iv)])]) (h1 := [⟨3, 1, [[iav h]]⟩, ⟨44, 16, [rowS n]⟩, ⟨36, 1, [[.nils]]⟩, ⟨24, 1, [[.imm (.sl (f.map Node.iv))]]⟩]) [.int .i64 h] rfl rfl ⟨⟨_, rfl, rfl⟩, ⟨_, rfl, rfl⟩, ⟨_, rfl, rfl⟩, trivial⟩ rfl rfl (by simp only [qax]; exact ⟨rfl, qao n _, rfl, rfl⟩) (Nat.zero_le _) ?_
  refine AWM.pin 3 (env1 := [(40, .fn 97 [.pin [.sl (f.map Node.iv)], .pin [.int .i64 h]]), (9, .ptr 2 1 0 0), (2, .pin [.sl (f.map Node.iv)])]) (h1 := [⟨3, 1, [[iav h]]⟩, ⟨44, 16, [rowS n]⟩, ⟨36, 1, [[.nils]]⟩]) [.sl (f.map Node.iv)] rfl rfl ⟨⟨_, rfl, rfl⟩, ⟨_, rfl, rfl⟩, ⟨_, rfl, rfl⟩, trivial⟩ rfl rfl (by simp only [qax]; exact ⟨rfl, qao n _, rfl⟩) (Nat.zero_le _) ?_
  refine ycn (ybt 2 0 55 1 rfl rfl rfl) ?_
  refine ycm [(9, .ptr 2 1 0 0), (2, .pin [.sl (f.map Node.iv)])] (fun pre => [⟨3, 1, [[iav h]]⟩, ⟨44, 16, [rowS n]⟩, ⟨36, 1, [[.os 3 (textL f pre).length]]⟩, ⟨55, 1, (textL f pre).map cU⟩]) (withinL f m h) rfl [3, 44, 36, 55] (iter97 hl hkl (by decide) _ m h hH) (by intro pre b hb; simp only [List.mem_cons, List.not_mem_nil, or_false] at hb; rcases hb with rfl | rfl | rfl | rfl <;> simp) ?_ rfl ?_ rfl rfl rfl (Nat.le_of_ble_eq_true rfl) (Nat.le_of_ble_eq_true rfl) ?_ ?_
  · intro t v hv
    show get ((40, _) :: [(9, .ptr 2 1 0 0), (2, .pin [.sl (f.map Node.iv)])]) t = some v
    unfold get
    cases h40 : Nat.beq 40 t with
    | true =>
      obtain rfl := Nat.eq_of_beq_eq_true h40
      cases hv
    | false => exact hv
  · intro pre
    simp only [nmS, List.all_cons, List.all_nil, Bool.and_true, Bool.and_eq_true]
    exact ⟨⟨rfl, rfl⟩, rfl, rfl, rfl, qn3 _⟩
  · intro pre x hlt l w0 X γ κ
    have cx := qz f x hl
    have ct := qhm (nodeAt f x).kind
    have hdl := (hf.at x).data
    have hpl := qf7 hf pre
    have htx : textL f (pre ++ [x]) = textL f pre ++ textD f x := by simp [textL]
    rw [htx]
    unfold textD
    generalize textL f pre = acc at hpl ⊢
    obtain ⟨z, hz⟩ : ∃ z, z = nodeAt f x := ⟨_, rfl⟩
    rw [← hz] at cx ct hdl ⊢
    obtain ⟨b, hb⟩ : ∃ b, b = dec (textB z.kind) := ⟨_, rfl⟩
    rw [← hb] at ct ⊢
    cases b with
    | true =>
      rw [if_pos rfl]
      (repeat' (first | ((with_reducible show AL _ _ _ _ _); first | (refine AL.step tabs rfl ?_; try dsimp only [len, List.nil_append, List.cons_append]) | refine AL.op rfl (yb rfl rfl rfl rfl cx rfl) ?_ | refine AL.op rfl (yb rfl rfl rfl rfl ct rfl) ?_ | refine yad rfl (yar (ie := ti55) (xs := acc) (ys := z.data) (g := cU) (ty := 55) (sz := 1) tabs rfl rfl rfl rfl rfl rfl rfl rfl rfl rfl (srcU tabs rfl rfl z.data rfl) (by simp only [ti55]; omega) (by omega)) rfl ?_ | refine ym ?_ | (refine yj rfl rfl rfl (fun hc => ?_) (fun hc => ?_) <;> (fail_if_success (exact absurd hc (by decide))) <;> (try simp only [hsx] at hc) <;> (try first | omega | contradiction | (simp [qa] at hc; done)))) | refine ybs ?_ | (refine ya3 rfl (by first | exact fun _ h => h | exact fun _ h => h.2) ?_; intro w0' may') | refine ya ?_ | refine ybg ?_ | refine AWM.block ?_ | refine yt ?_ | refine ybc rfl ?_ | refine ybb rfl ?_ | (refine ya9 rfl (fun hc => ?_) (fun hc => ?_) <;> (try simp only [hsx] at hc) <;> (try first | omega | contradiction | (simp [qa] at hc; done))) | refine ybr ?_ | refine ybf ?_ | refine yd ?_ | refine yp ?_ | refine yw ?_ | refine yr ?_ | refine InB.off rfl ?_))
      exact RB.norm 4 rfl (by simp only [qax]; exact ⟨rfl, qao n _, rfl, qia _ _⟩) (by simp [cxG])
    | false =>
      rw [if_neg (by simp), List.append_nil]
      (repeat' (first | ((with_reducible show AL _ _ _ _ _); first | (refine AL.step tabs rfl ?_; try dsimp only [len, List.nil_append, List.cons_append]) | refine AL.op rfl (yb rfl rfl rfl rfl cx rfl) ?_ | refine AL.op rfl (yb rfl rfl rfl rfl ct rfl) ?_ | refine ym ?_ | (refine yj rfl rfl rfl (fun hc => ?_) (fun hc => ?_) <;> (fail_if_success (exact absurd hc (by decide))) <;> (try simp only [hsx] at hc) <;> (try first | omega | contradiction | (simp [qa] at hc; done)))) | refine ybs ?_ | (refine ya3 rfl (by first | exact fun _ h => h | exact fun _ h => h.2) ?_; intro w0' may') | refine ya ?_ | refine ybg ?_ | refine AWM.block ?_ | refine yt ?_ | refine ybc rfl ?_ | refine ybb rfl ?_ | (refine ya9 rfl (fun hc => ?_) (fun hc => ?_) <;> (try simp only [hsx] at hc) <;> (try first | omega | contradiction | (simp [qa] at hc; done))) | refine ybr ?_ | refine ybf ?_ | refine yd ?_ | refine yp ?_ | refine yw ?_ | refine yr ?_ | refine InB.off rfl ?_))
      exact RB.norm 4 rfl (by simp only [qax]; exact ⟨rfl, qao n _, rfl, qia _ _⟩) (by simp [cxG])
  · generalize textL f (withinL f m h) = acc
    (repeat' (first | ((with_reducible show AL _ _ _ _ _); first | (refine AL.step tabs rfl ?_; try dsimp only [len, List.nil_append, List.cons_append]) | refine ym ?_ | (refine yj rfl rfl rfl (fun hc => ?_) (fun hc => ?_) <;> (fail_if_success (exact absurd hc (by decide))) <;> (try simp only [hsx] at hc) <;> (try first | omega | contradiction | (simp [qa] at hc; done)))) | refine ybs ?_ | (refine ya3 rfl (by first | exact fun _ h => h | exact fun _ h => h.2) ?_; intro w0' may') | refine ya ?_ | refine ybg ?_ | refine AWM.block ?_ | refine yt ?_ | refine ybc rfl ?_ | refine ybb rfl ?_ | (refine ya9 rfl (fun hc => ?_) (fun hc => ?_) <;> (try simp only [hsx] at hc) <;> (try first | omega | contradiction | (simp [qa] at hc; done))) | refine ybr ?_ | refine ybf ?_ | refine yd ?_ | refine yp ?_ | refine yw ?_ | refine yr ?_ | refine InB.off rfl ?_))
    refine ⟨?_, yao rfl (ya0 (.cons (Fz.os (b := ⟨55, 1, acc.map cU⟩) (rows := acc.map u16) rfl (List.length_map _).symm (qfg acc)) (.cons (Fz.im rfl) (.cons (Fz.im rfl) .nil))))⟩
    simp only [nmS, List.all_cons, List.all_nil, Bool.and_true, Bool.and_eq_true]
    exact ⟨⟨rfl, rfl, rfl, rfl, rfl, rfl⟩, rfl, rfl, rfl, qn3 _⟩
noncomputable def contA (f : List Node) (h : Int) (us : List Int) : AV :=
  if faultR f [h] ≠ 0 then .tup [.imm (.sl []), bav false, iav (faultR f [h])]
  else if (nodeAt f h).kind = 9 ∨ (nodeAt f h).kind = 10 then .tup [.imm (.sl []), bav false, iav 0]
  else if dec (dataB (nodeAt f h).kind) = true then .tup [.imm (.sl ((nodeAt f h).data.map u16)), bav true, iav 0]
  else .tup [.imm (.sl (us.map u16)), bav true, iav 0]
theorem qf9 (f : List Node) (h : Int) (hf : Fit f) (us : List Int) (hus : faultR f [h] = 0 → ∃ m, Hgt f m h ∧ (withinL f m h).length ≤ 5000 ∧ us = textL f (withinL f m h)) : PureC Tryz.prog 36 [fav f, iav h] (contA f h us) := by
  have hl := hf.len
  have c1 := qi4 f [h] hf (by simp)
  have c2 := qz f h hl
  have c3 := qmv (nodeAt f h).kind
  have hkl : ∀ h, (nodeAt f h).kids.length ≤ 1000000000 := fun h => (hf.at h).kids
  have hdl := (hf.at h).data
  unfold contA
  by_cases he : faultR f [h] = 0
  · rw [if_neg (by omega)]
    rw [he] at c1
    have hus := hus he
    by_cases hk : (nodeAt f h).kind = 9 ∨ (nodeAt f h).kind = 10
    · rw [if_pos hk]
      generalize nodeAt f h = n at *
      rcases hk with hk | hk
      · refine ybx tabs Tryz.func36 53 [.tmp 4, .tmp 5, .tmp 6] rfl rfl rfl rfl rfl ?_; intro w0 X
        (repeat' (first | ((with_reducible show AL _ _ _ _ _); first | refine AL.pin 0 (env1 := [(2, .pin [.sl (f.map Node.iv)]), (1, iav h), (4, .nils), (5, bav false), (6, iav 0)]) (h1 := []) [.sl (f.map Node.iv)] rfl rfl ⟨⟨_, rfl, rfl⟩, ⟨_, rfl, rfl⟩, ⟨_, rfl, rfl⟩, ⟨_, rfl, rfl⟩, ⟨_, rfl, rfl⟩, trivial⟩ rfl rfl rfl (Nat.zero_le _) ?_ | (refine AL.step tabs rfl ?_; try dsimp only [len, List.nil_append, List.cons_append]) | refine AL.op rfl (yas rfl rfl rfl rfl c1 rfl rfl) ?_ | refine AL.op rfl (yb rfl rfl rfl rfl c2 rfl) ?_ | refine AL.op rfl (yb rfl rfl rfl rfl c3 rfl) ?_ | refine ym ?_ | (refine yj rfl rfl rfl (fun hc => ?_) (fun hc => ?_) <;> (fail_if_success (exact absurd hc (by decide))) <;> (try simp only [hsx] at hc) <;> (try first | omega | contradiction | (simp [qa] at hc; done)))) | (exfalso; omega) | refine ybs ?_ | (refine ya3 rfl (by first | exact fun _ h => h | exact fun _ h => h.2) ?_; intro w0' may') | refine ya ?_ | refine ybg ?_ | refine AWM.block ?_ | refine yt ?_ | refine ybc rfl ?_ | refine ybb rfl ?_ | (refine ya9 rfl (fun hc => ?_) (fun hc => ?_) <;> (try simp only [hsx] at hc) <;> (try first | omega | contradiction | (simp [qa] at hc; done))) | refine ybr ?_ | refine ybf ?_ | refine yd ?_ | refine yp ?_ | refine yw ?_ | refine yr ?_ | refine InB.off rfl ?_))
        all_goals first
          | (exfalso; omega)
          | exact ⟨rfl, RQ.fin rfl rfl rfl⟩
      · refine ybx tabs Tryz.func36 53 [.tmp 4, .tmp 5, .tmp 6] rfl rfl rfl rfl rfl ?_; intro w0 X
        (repeat' (first | ((with_reducible show AL _ _ _ _ _); first | refine AL.pin 0 (env1 := [(2, .pin [.sl (f.map Node.iv)]), (1, iav h), (4, .nils), (5, bav false), (6, iav 0)]) (h1 := []) [.sl (f.map Node.iv)] rfl rfl ⟨⟨_, rfl, rfl⟩, ⟨_, rfl, rfl⟩, ⟨_, rfl, rfl⟩, ⟨_, rfl, rfl⟩, ⟨_, rfl, rfl⟩, trivial⟩ rfl rfl rfl (Nat.zero_le _) ?_ | (refine AL.step tabs rfl ?_; try dsimp only [len, List.nil_append, List.cons_append]) | refine AL.op rfl (yas rfl rfl rfl rfl c1 rfl rfl) ?_ | refine AL.op rfl (yb rfl rfl rfl rfl c2 rfl) ?_ | refine AL.op rfl (yb rfl rfl rfl rfl c3 rfl) ?_ | refine ym ?_ | (refine yj rfl rfl rfl (fun hc => ?_) (fun hc => ?_) <;> (fail_if_success (exact absurd hc (by decide))) <;> (try simp only [hsx] at hc) <;> (try first | omega | contradiction | (simp [qa] at hc; done)))) | (exfalso; omega) | refine ybs ?_ | (refine ya3 rfl (by first | exact fun _ h => h | exact fun _ h => h.2) ?_; intro w0' may') | refine ya ?_ | refine ybg ?_ | refine AWM.block ?_ | refine yt ?_ | refine ybc rfl ?_ | refine ybb rfl ?_ | (refine ya9 rfl (fun hc => ?_) (fun hc => ?_) <;> (try simp only [hsx] at hc) <;> (try first | omega | contradiction | (simp [qa] at hc; done))) | refine ybr ?_ | refine ybf ?_ | refine yd ?_ | refine yp ?_ | refine yw ?_ | refine yr ?_ | refine InB.off rfl ?_))
        all_goals first
          | (exfalso; omega)
          | exact ⟨rfl, RQ.fin rfl rfl rfl⟩
    · rw [if_neg hk]
      by_cases hd : dec (dataB (nodeAt f h).kind) = true
      · rw [if_pos hd]
        rw [hd] at c3
        generalize nodeAt f h = n at *
        refine ybx tabs Tryz.func36 53 [.tmp 4, .tmp 5, .tmp 6] rfl rfl rfl rfl rfl ?_; intro w0 X
        (repeat' (first | ((with_reducible show AL _ _ _ _ _); first | (refine AL.step tabs rfl ?_; try dsimp only [len, List.nil_append, List.cons_append]) | refine AL.op rfl (yas rfl rfl rfl rfl c1 rfl rfl) ?_ | refine AL.op rfl (yb rfl rfl rfl rfl c2 rfl) ?_ | refine AL.op rfl (yb rfl rfl rfl rfl c3 rfl) ?_ | refine yad rfl (yap (ie := ti55) (rows2 := n.data.map cU) tabs rfl rfl rfl rfl rfl (by decide) rfl (srcU tabs rfl rfl n.data rfl) (by simp only [ti55, List.length_map]; omega) (by simp only [List.length_map]; omega)) rfl ?_ | refine ym ?_ | (refine yj rfl rfl rfl (fun hc => ?_) (fun hc => ?_) <;> (fail_if_success (exact absurd hc (by decide))) <;> (try simp only [hsx] at hc) <;> (try first | omega | contradiction | (simp [qa] at hc; done)))) | (exfalso; omega) | refine ybs ?_ | (refine ya3 rfl (by first | exact fun _ h => h | exact fun _ h => h.2) ?_; intro w0' may') | refine ya ?_ | refine ybg ?_ | refine AWM.block ?_ | refine yt ?_ | refine ybc rfl ?_ | refine ybb rfl ?_ | (refine ya9 rfl (fun hc => ?_) (fun hc => ?_) <;> (try simp only [hsx] at hc) <;> (try first | omega | contradiction | (simp [qa] at hc; done))) | refine ybr ?_ | refine ybf ?_ | refine yd ?_ | refine yp ?_ | refine yw ?_ | refine yr ?_ | refine InB.off rfl ?_))
        all_goals first
          | (exfalso; omega)
          | exact ⟨Eq.trans (b := (n.data.map cU).all (fun r => r.all AV.nm) && true) rfl (by rw [qn3]; rfl), yao rfl (ya0 (.cons (Fz.os (b := ⟨55, 1, n.data.map cU⟩) (rows := n.data.map u16) rfl rfl (qfg _)) (.cons (Fz.im rfl) (.cons (Fz.im rfl) .nil))))⟩
      · rw [if_neg hd]
        have hd : dec (dataB (nodeAt f h).kind) = false := by simpa using hd
        rw [hd] at c3
        obtain ⟨m, hH, hlen, rfl⟩ := hus
        exact qf8 f h hf _ hkl m hH hlen c1 c2 c3 (fun h => hk (.inl h)) (fun h => hk (.inr h))
  · rw [if_pos he]
    clear hus
    generalize faultR f [h] = e at *
    generalize nodeAt f h = n at *
    refine ybx tabs Tryz.func36 53 [.tmp 4, .tmp 5, .tmp 6] rfl rfl rfl rfl rfl ?_; intro w0 X
    (repeat' (first | ((with_reducible show AL _ _ _ _ _); first | refine AL.pin 0 (env1 := [(2, .pin [.sl (f.map Node.iv)]), (1, iav h), (4, .nils), (5, bav false), (6, iav 0)]) (h1 := []) [.sl (f.map Node.iv)] rfl rfl ⟨⟨_, rfl, rfl⟩, ⟨_, rfl, rfl⟩, ⟨_, rfl, rfl⟩, ⟨_, rfl, rfl⟩, ⟨_, rfl, rfl⟩, trivial⟩ rfl rfl rfl (Nat.zero_le _) ?_ | (refine AL.step tabs rfl ?_; try dsimp only [len, List.nil_append, List.cons_append]) | refine AL.op rfl (yas rfl rfl rfl rfl c1 rfl rfl) ?_ | refine ym ?_ | (refine yj rfl rfl rfl (fun hc => ?_) (fun hc => ?_) <;> (fail_if_success (exact absurd hc (by decide))) <;> (try simp only [hsx] at hc) <;> (try first | omega | contradiction | (simp [qa] at hc; done)))) | (exfalso; omega) | refine ybs ?_ | (refine ya3 rfl (by first | exact fun _ h => h | exact fun _ h => h.2) ?_; intro w0' may') | refine ya ?_ | refine ybg ?_ | refine AWM.block ?_ | refine yt ?_ | refine ybc rfl ?_ | refine ybb rfl ?_ | (refine ya9 rfl (fun hc => ?_) (fun hc => ?_) <;> (try simp only [hsx] at hc) <;> (try first | omega | contradiction | (simp [qa] at hc; done))) | refine ybr ?_ | refine ybf ?_ | refine yd ?_ | refine yp ?_ | refine yw ?_ | refine yr ?_ | refine InB.off rfl ?_))
    all_goals first
      | (exfalso; omega)
      | exact ⟨rfl, RQ.fin rfl rfl rfl⟩
theorem qg8 (n : Node) (hn : FitN n) : PureC Tryz.prog 38 [n.av] n.av := by
  refine yq tabs Tryz.func38 19 [.cell 2 44] rfl rfl rfl rfl rfl ?_; intro w0 X
  (repeat' (first | ((with_reducible show AL _ _ _ _ _); first | (refine AL.step tabs rfl ?_; try dsimp only [len, List.nil_append, List.cons_append]) | refine yad rfl (yal (ie := ti55) (b := ⟨55, 1, []⟩) tabs rfl rfl rfl rfl rfl rfl rfl rfl rfl rfl (SrcA.imm (rows := n.data.map u16) tabs rfl rfl rfl (by simp [i64, u16, Attr.iv, ti3, ti55, ti104])) (by have := hn.data; have := hn.attrs; have := hn.kids; simp [ti3, ti55, ti104, chunk]; omega) (by have := hn.data; have := hn.attrs; have := hn.kids; simp [chunk]; omega)) rfl ?_ | refine yad rfl (yal (ie := ti104) (b := ⟨104, 4, []⟩) tabs rfl rfl rfl rfl rfl rfl rfl rfl rfl rfl (SrcA.imm (rows := n.attrs.map Attr.iv) tabs rfl rfl rfl (by simp [i64, u16, Attr.iv, ti3, ti55, ti104])) (by have := hn.data; have := hn.attrs; have := hn.kids; simp [ti3, ti55, ti104, chunk]; omega) (by have := hn.data; have := hn.attrs; have := hn.kids; simp [chunk]; omega)) rfl ?_ | refine yad rfl (yal (ie := ti3) (b := ⟨3, 1, []⟩) tabs rfl rfl rfl rfl rfl rfl rfl rfl rfl rfl (SrcA.imm (rows := n.kids.map i64) tabs rfl rfl rfl (by simp [i64, u16, Attr.iv, ti3, ti55, ti104])) (by have := hn.data; have := hn.attrs; have := hn.kids; simp [ti3, ti55, ti104, chunk]; omega) (by have := hn.data; have := hn.attrs; have := hn.kids; simp [chunk]; omega)) rfl ?_ | refine ym ?_) | refine yn ?_ | refine yc ?_ | refine ya ?_ | refine yf ?_ | refine yo ?_ | refine yd ?_))
  exact RQ.norm rfl (yca (.cons (Fz.im rfl) (.cons (Fz.im rfl) (.cons (Fz.im rfl) (.cons (Fz.im rfl) (.cons (Fz.im rfl) (.cons (Fz.im rfl) (.cons (Fz.os (b := ⟨55, 1, (n.data.map u16).map (·.map .imm)⟩) (rows := n.data.map u16) rfl (by simp) rfl) (.cons (Fz.os (b := ⟨104, 4, (n.attrs.map Attr.iv).map (·.map .imm)⟩) (rows := n.attrs.map Attr.iv) rfl (by simp) rfl) (.cons (Fz.im rfl) (.cons (Fz.os (b := ⟨3, 1, (n.kids.map i64).map (·.map .imm)⟩) (rows := n.kids.map i64) rfl (by simp) rfl) (.cons (Fz.im rfl) (.cons (Fz.im rfl) (.cons (Fz.im rfl) (.cons (Fz.im rfl) (.cons (Fz.im rfl) (.cons (Fz.im rfl) .nil)))))))))))))))))
theorem qn4 (f : List Node) (hf : Fit f) : PureC Tryz.prog 11 [fav f] (fav f) := by
  have hl := hf.len
  have hm : (List.map Node.iv f).length = f.length := List.length_map _
  refine yq tabs Tryz.func11 23 [.cell 2 24] rfl rfl rfl rfl rfl ?_; intro w0 X
  (repeat' (first | ((with_reducible show AL _ _ _ _ _); first | (refine AL.step tabs rfl ?_; try dsimp only [len, List.nil_append, List.cons_append]) | refine ym ?_ | (refine AL.op rfl (yi rfl rfl rfl rfl rfl (by omega) (by omega)) ?_) | (refine AL.op rfl (ye tabs rfl rfl rfl rfl rfl rfl rfl (fun _ => rfl) (by decide) (by omega) (by omega)) ?_)) | ((with_reducible show DQ _ _ _ _ _ _); first | refine DQ.stepc (LS.val tabs rfl rfl rfl) rfl rfl rfl rfl rfl ?_ | refine DQ.stepc (yab rfl rfl) rfl rfl rfl rfl rfl ?_ | refine DQ.nilM (by kernel_rfl) ?_ | refine DQ.stepc (yaf rfl rfl rfl rfl rfl rfl (by omega) (by omega)) rfl rfl rfl rfl rfl ?_ | refine DQ.stepc (yaa tabs rfl rfl rfl rfl rfl rfl rfl rfl (fun _ => rfl) (by decide) (by omega) (by omega)) rfl rfl rfl rfl rfl ?_) | fail | refine yn ?_ | refine yc ?_ | refine ya ?_ | refine yf ?_ | refine AW.block ?_ | refine yt ?_ | refine yh rfl ?_ | refine yg rfl ?_ | (refine yk rfl (fun hc => ?_) (fun hc => ?_) <;> (try simp only [hsx] at hc) <;> (try first | omega | contradiction | (simp [qa] at hc; done))) | refine yo ?_ | refine yy ?_ | refine yd ?_ | refine yp ?_ | refine yw ?_ | refine yr ?_ | refine InB.off rfl ?_ | refine yz ?_ | refine yu ?_ | refine yx mixed (by kernel_rfl) ?_))
  refine yak (α := Int) (fun i => ⟨[(2, .ptr 1 1 0 0), (3, .ptr 2 1 0 0), (8, .imm (.sl (f.map Node.iv))), (9, iav (List.map Node.iv f).length), (10, iav i)], [⟨24, 1, [[.imm (.sl (f.map Node.iv))]]⟩, ⟨24, 1, [[.nils]]⟩, ⟨24, 1, [[.os 3 (f.take i.toNat).length]]⟩, ⟨44, 16, (f.take i.toNat).map rowS⟩]⟩) (fun i => 0 ≤ i ∧ i ≤ f.length) (fun i => (f.length - i).toNat) 0 (Le.trans (ybt 2 0 44 16 (ty := 24) (sz := 1) (r := [.nils]) rfl rfl rfl) (yae 4 rfl (by repeat' (first | exact trivial | refine ⟨rfl, ?_⟩)) rfl (by simp only [qax]; exact ⟨rfl, rfl, rfl, qc _ _⟩) (Nat.zero_le _))) ⟨by omega, by omega⟩ ?_
  intro i ⟨h0, h1⟩
  refine AW.reserve 44 16 rfl ?_
  (repeat' (first | ((with_reducible show AL _ _ _ _ _); first | (refine AL.step tabs rfl ?_; try dsimp only [len, List.nil_append, List.cons_append]) | refine ym ?_ | (refine AL.op rfl (yi rfl rfl rfl rfl rfl (by omega) (by omega)) ?_) | (refine AL.op rfl (ye tabs rfl rfl rfl rfl rfl rfl rfl (fun _ => rfl) (by decide) (by omega) (by omega)) ?_)) | ((with_reducible show DQ _ _ _ _ _ _); first | refine DQ.stepc (yai rfl rfl rfl rfl rfl (qg8 (atI f i) (hf.atI i (by omega) (by omega))) rfl) rfl rfl rfl rfl rfl ?_ | refine DQ.stepc (ycc 4 tabs rfl rfl rfl rfl rfl rfl rfl rfl rfl rfl rfl rfl) rfl rfl rfl rfl rfl ?_ | refine DQ.stepc (ybh (ie := ti44) (ty := 44) (sz := 16) (rows := (f.take i.toNat).map rowS) (rows2 := [rowS (atI f i)]) tabs rfl rfl rfl rfl rfl rfl rfl rfl (List.length_map _).symm rfl rfl (fun s' hl => hl.srcOwn (by simp [Op.operands, Call.operands]) tabs rfl rfl (b := ⟨44, 16, [rowS (atI f i)]⟩) rfl rfl rfl rfl (by simp [rowS, Node.iv, ti44]) (by simp [rowS, Node.iv, AV.cell])) (by simp [ti44]; omega) (by simp; omega)) rfl rfl rfl rfl rfl ?_ | refine DQ.stepc (LS.store (i := ti22) (v := .os 3 ((f.take i.toNat).length + 1)) (ty := 24) (sz := 1) (rows := [[.os 3 (f.take i.toNat).length]]) (r := [.os 3 (f.take i.toNat).length]) tabs rfl rfl rfl rfl rfl rfl rfl rfl rfl rfl (Nat.le_of_ble_eq_true rfl) rfl) rfl rfl rfl rfl rfl ?_ | refine DQ.stepc (LS.val tabs rfl rfl rfl) rfl rfl rfl rfl rfl ?_ | refine DQ.stepc (yab rfl rfl) rfl rfl rfl rfl rfl ?_ | refine DQ.nilM (by kernel_rfl) ?_ | refine DQ.stepc (yaf rfl rfl rfl rfl rfl rfl (by omega) (by omega)) rfl rfl rfl rfl rfl ?_ | refine DQ.stepc (yaa tabs rfl rfl rfl rfl rfl rfl rfl rfl (fun _ => rfl) (by decide) (by omega) (by omega)) rfl rfl rfl rfl rfl ?_) | refine yn ?_ | refine yc ?_ | refine ya ?_ | refine yf ?_ | refine AW.block ?_ | refine yt ?_ | refine yh rfl ?_ | refine yg rfl ?_ | (refine yk rfl (fun hc => ?_) (fun hc => ?_) <;> (try simp only [hsx] at hc) <;> (try first | omega | contradiction | (simp [qa] at hc; done))) | refine yo ?_ | refine yy ?_ | refine yd ?_ | refine yp ?_ | refine yw ?_ | refine yr ?_ | refine InB.off rfl ?_ | refine yz ?_ | refine yu ?_ | refine yx mixed (by kernel_rfl) ?_))
  · have hi : i < f.length := by assumption
    have e : (f.take (i + 1).toNat).map rowS = (f.take i.toNat).map rowS ++ [rowS (atI f i)] := by rw [qi h0 hi, List.map_append]; rfl
    have e2 : (f.take (i + 1).toNat).length = (f.take i.toNat).length + 1 := by rw [qi h0 hi]; simp
    exact yag (i + 1) (yae 4 (by rw [e, e2]; rfl) (by repeat' (first | exact trivial | refine ⟨rfl, ?_⟩)) rfl (by simp only [qax]; exact ⟨rfl, rfl, rfl, qc _ _⟩) (Nat.zero_le _)) ⟨by omega, by omega⟩ (by omega)
  · refine yao rfl ?_
    rw [qq hc]
    exact fzS (f := f) (id := 3) rfl
end Go.Proofs.YtmhejcnaanocpaaGreat.A
namespace Go.Proofs.YtmhejcnaanocpaaGreat.A
set_option linter.unusedVariables false
set_option linter.unusedSimpArgs false
set_option maxRecDepth 100000
set_option maxHeartbeats 4000000
theorem qaj (f : List Node) (h : Int) (hl : f.length ≤ 1000000000) : PureC Tryz.prog 52 [fav f, iav h] (.tup [(nodeAt f h).av, bav (inB f h)]) := by
  unfold nodeAt inB
  refine yq tabs Tryz.func52 22 [.cell 4 44, .tmp 5] rfl rfl rfl rfl rfl ?_; intro w0 X
  (repeat' (first | ((with_reducible show AL _ _ _ _ _); first | (refine AL.step tabs rfl ?_; try dsimp only [len, List.nil_append, List.cons_append]) | refine ym ?_ | (refine yj rfl rfl rfl (fun hc => ?_) (fun hc => ?_) <;> (fail_if_success (exact absurd hc (by decide))) <;> (try simp only [hsx] at hc) <;> (try first | omega | contradiction | (simp [qa] at hc; done))) | (refine AL.op rfl (yi rfl rfl rfl rfl rfl (by omega) (by omega)) ?_) | (refine AL.op rfl (ye tabs rfl rfl rfl rfl rfl rfl rfl (fun _ => rfl) (by decide) (by omega) (by omega)) ?_)) | refine yn ?_ | refine yc ?_ | refine ya ?_ | refine yf ?_ | refine yh rfl ?_ | refine yg rfl ?_ | (refine yk rfl (fun hc => ?_) (fun hc => ?_) <;> (try simp only [hsx] at hc) <;> (try first | omega | contradiction | (simp [qa] at hc; done))) | refine yo ?_ | refine yd ?_))
  · rw [if_neg (by omega), show decide (1 ≤ h ∧ h ≤ f.length) = false by simp; omega]
    exact RQ.fin rfl rfl rfl
  · rw [if_neg (by omega), show decide (1 ≤ h ∧ h ≤ f.length) = false by simp; omega]
    exact RQ.fin rfl rfl rfl
  · rw [if_pos (by omega), show decide (1 ≤ h ∧ h ≤ f.length) = true by simp; omega]
    exact RQ.fin rfl rfl rfl
theorem qkg (f : List Node) (h : Int) (hl : f.length ≤ 1000000000) : PureC Tryz.prog 166 [fav f, iav h] (kav (nodeAt f h).kind) := by
  refine yq tabs Tryz.func166 15 [.tmp 4] rfl rfl rfl rfl rfl ?_; intro w0 X
  (repeat' (first | ((with_reducible show AL _ _ _ _ _); first | (refine AL.step tabs rfl ?_; try dsimp only [len, List.nil_append, List.cons_append]) | refine AL.op rfl (yb rfl rfl rfl rfl (qaj _ _ hl) rfl) ?_ | refine ym ?_) | refine yn ?_ | refine yc ?_ | refine ya ?_ | refine yf ?_ | refine yo ?_ | refine yd ?_))
  exact RQ.fin rfl rfl rfl
theorem ql2 (n : Node) : PureC Tryz.prog 168 [n.av] (iav (aboveOf n)) := by
  unfold aboveOf
  refine yq tabs Tryz.func168 10 [.tmp 2] rfl rfl rfl rfl rfl ?_; intro w0 X
  (repeat' (first | ((with_reducible show AL _ _ _ _ _); first | (refine AL.step tabs rfl ?_; try dsimp only [len, List.nil_append, List.cons_append]) | refine ym ?_) | refine yn ?_ | refine yc ?_ | refine ya ?_ | refine yf ?_ | refine yh rfl ?_ | refine yg rfl ?_ | (refine yk rfl (fun hc => ?_) (fun hc => ?_) <;> (try simp only [hsx] at hc) <;> (try first | omega | contradiction | (simp [qa] at hc; done))) | refine yo ?_ | refine yd ?_))
  · rw [if_pos hc]; exact RQ.fin rfl rfl rfl
  · rw [if_neg hc]; exact RQ.fin rfl rfl rfl
def hasD (k : Int) : Prop := k = 3 ∨ k = 4 ∨ k = 7 ∨ k = 8
theorem qcl (k : Int) : PureC Tryz.prog 79 [kav k] (bav (dec (hasD k))) := by
  refine yq tabs Tryz.func79 17 [.tmp 2] rfl rfl rfl rfl rfl ?_; intro w0 X
  (repeat' (first | ((with_reducible show AL _ _ _ _ _); first | (refine AL.step tabs rfl ?_; try dsimp only [len, List.nil_append, List.cons_append]) | refine ym ?_ | (refine yj rfl rfl rfl (fun hc => ?_) (fun hc => ?_) <;> (fail_if_success (exact absurd hc (by decide))) <;> (try simp only [hsx] at hc) <;> (try first | omega | contradiction | (simp [qa] at hc; done)))) | refine yn ?_ | refine yc ?_ | refine ya ?_ | refine yf ?_ | refine yo ?_ | refine yd ?_))
  all_goals (refine RQ.fin rfl rfl (congrArg bav ?_); rw [Bool.eq_iff_iff]; simp only [hasD, qb]; grind)
def hasK (k : Int) : Prop := k = 1 ∨ k = 9 ∨ k = 11 ∨ k = 12
theorem qeq (k : Int) : PureC Tryz.prog 164 [kav k] (bav (dec (hasK k))) := by
  refine yq tabs Tryz.func164 17 [.tmp 2] rfl rfl rfl rfl rfl ?_; intro w0 X
  (repeat' (first | ((with_reducible show AL _ _ _ _ _); first | (refine AL.step tabs rfl ?_; try dsimp only [len, List.nil_append, List.cons_append]) | refine ym ?_ | (refine yj rfl rfl rfl (fun hc => ?_) (fun hc => ?_) <;> (fail_if_success (exact absurd hc (by decide))) <;> (try simp only [hsx] at hc) <;> (try first | omega | contradiction | (simp [qa] at hc; done)))) | refine yn ?_ | refine yc ?_ | refine ya ?_ | refine yf ?_ | refine yo ?_ | refine yd ?_))
  all_goals (refine RQ.fin rfl rfl (congrArg bav ?_); rw [Bool.eq_iff_iff]; simp only [hasK, qb]; grind)
def knownP (k : Int) : Prop := hasD k ∨ hasK k ∨ k = 10
theorem ql3 (k : Int) : PureC Tryz.prog 161 [kav k] (bav (dec (knownP k))) := by
  refine yq tabs Tryz.func161 13 [.tmp 2] rfl rfl rfl rfl rfl ?_; intro w0 X
  (repeat' (first | ((with_reducible show AL _ _ _ _ _); first | (refine AL.step tabs rfl ?_; try dsimp only [len, List.nil_append, List.cons_append]) | refine AL.op rfl (yb rfl rfl rfl rfl (qcl k) rfl) ?_ | refine AL.op rfl (yb rfl rfl rfl rfl (qeq k) rfl) ?_ | refine ym ?_ | (refine yj rfl rfl rfl (fun hc => ?_) (fun hc => ?_) <;> (fail_if_success (exact absurd hc (by decide))) <;> (try simp only [hsx] at hc) <;> (try first | omega | contradiction | (simp [qa] at hc; done)))) | refine yn ?_ | refine yc ?_ | refine ya ?_ | refine yf ?_ | refine yo ?_ | refine yd ?_))
  all_goals (refine RQ.fin rfl rfl (congrArg bav ?_); rw [Bool.eq_iff_iff]; simp only [knownP, qb, Bool.not_eq_true', qg] at *; grind)
def rNamedP (n : Name) : Prop := n.lc ≠ es ∧ n.sp.size ≤ 1024 ∧ n.pf.size ≤ 1024 ∧ n.lc.size ≤ 1024 ∧ (n.pf = es ∨ n.sp ≠ es)
theorem qhu (n : Name) : PureC Tryz.prog 163 [n.av] (bav (dec (rNamedP n))) := by
  refine yq tabs Tryz.func163 34 [.tmp 2] rfl rfl rfl rfl rfl ?_; intro w0 X
  (repeat' (first | ((with_reducible show AL _ _ _ _ _); first | (refine AL.step tabs rfl ?_; try dsimp only [len, List.nil_append, List.cons_append]) | refine ym ?_ | (refine yj rfl rfl rfl (fun hc => ?_) (fun hc => ?_) <;> (fail_if_success (exact absurd hc (by decide))) <;> (try simp only [hsx] at hc) <;> (try first | omega | contradiction | (simp [qa] at hc; done)))) | refine yn ?_ | refine yc ?_ | refine ya ?_ | refine yf ?_ | refine yo ?_ | refine yd ?_))
  all_goals (refine RQ.fin rfl rfl (congrArg bav ?_); rw [Bool.eq_iff_iff]; simp only [rNamedP, es, qb, Bool.not_eq_true', qg] at *; grind)
theorem qhv (l : List Int) (h : Int) (hl : l.length ≤ 1000000000) : PureC Tryz.prog 165 [.imm (.sl (l.map i64)), iav h] (iav (cntB l h)) := by
  refine yq tabs Tryz.func165 21 [.tmp 4] rfl rfl rfl rfl rfl ?_; intro w0 X
  (repeat' (first | ((with_reducible show AL _ _ _ _ _); first | (refine AL.step tabs rfl ?_; try dsimp only [len, List.nil_append, List.cons_append]) | refine ym ?_ | (refine AL.op rfl (yi rfl rfl rfl rfl rfl (by omega) (by omega)) ?_) | (refine AL.op rfl (ye tabs rfl rfl rfl rfl rfl rfl rfl (fun _ => rfl) (by decide) (by omega) (by omega)) ?_)) | fail | refine yn ?_ | refine yc ?_ | refine ya ?_ | refine yf ?_ | refine AW.block ?_ | refine yt ?_ | refine yh rfl ?_ | refine yg rfl ?_ | (refine yk rfl (fun hc => ?_) (fun hc => ?_) <;> (try simp only [hsx] at hc) <;> (try first | omega | contradiction | (simp [qa] at hc; done))) | refine yo ?_ | refine yy ?_ | refine yd ?_ | refine yp ?_ | refine yw ?_ | refine yr ?_ | refine InB.off rfl ?_ | refine yz ?_ | refine yu ?_))
  refine yak (α := Int) (fun i => ⟨[(1, iav h), (5, iav (cntB (l.take i.toNat) h)), (8, .imm (.sl (l.map i64))), (9, iav (l.map i64).length), (10, iav i)], []⟩) (fun i => 0 ≤ i ∧ i ≤ l.length) (fun i => (l.length - i).toNat) 0 (yae 0 rfl ⟨rfl, rfl, rfl, rfl, rfl, trivial⟩ rfl rfl (Nat.zero_le _)) ⟨by omega, by omega⟩ ?_
  intro i ⟨h0, h1⟩
  have hb : cntB (l.take i.toNat) h ≤ l.length := Nat.le_trans List.countP_le_length (by simp; omega)
  (repeat' (first | ((with_reducible show AL _ _ _ _ _); first | (refine AL.step tabs rfl ?_; try dsimp only [len, List.nil_append, List.cons_append]) | refine ym ?_ | (refine AL.op rfl (yi rfl rfl rfl rfl rfl (by omega) (by omega)) ?_) | (refine AL.op rfl (ye tabs rfl rfl rfl rfl rfl rfl rfl (fun _ => rfl) (by decide) (by omega) (by omega)) ?_)) | refine yn ?_ | refine yc ?_ | refine ya ?_ | refine yf ?_ | refine AW.block ?_ | refine yt ?_ | refine yh rfl ?_ | refine yg rfl ?_ | (refine yk rfl (fun hc => ?_) (fun hc => ?_) <;> (try simp only [hsx] at hc) <;> (try first | omega | contradiction | (simp [qa] at hc; done))) | refine yo ?_ | refine yy ?_ | refine yd ?_ | refine yp ?_ | refine yw ?_ | refine yr ?_ | refine InB.off rfl ?_ | refine yz ?_ | refine yu ?_))
  · have e : cntB (l.take (i + 1).toNat) h = cntB (l.take i.toNat) h + 1 := by
      rw [qi h0 (by assumption)]
      unfold cntB
      rw [List.countP_append]
      simp [hc]
    refine yag (i + 1) (yae 0 rfl ⟨rfl, by simp only [e]; rfl, rfl, rfl, rfl, trivial⟩ rfl rfl (Nat.zero_le _)) ⟨by omega, by omega⟩ (by omega)
  · have e : cntB (l.take (i + 1).toNat) h = cntB (l.take i.toNat) h := by
      rw [qi h0 (by assumption)]
      unfold cntB
      rw [List.countP_append]
      simp [hc]
    refine yag (i + 1) (yae 0 rfl ⟨rfl, by simp only [e]; rfl, rfl, rfl, rfl, trivial⟩ rfl rfl (Nat.zero_le _)) ⟨by omega, by omega⟩ (by omega)
  · rw [qq hc]; exact RQ.fin rfl rfl rfl
end Go.Proofs.YtmhejcnaanocpaaGreat.A
namespace Go.Proofs.YtmhejcnaanocpaaGreat.A
set_option linter.unusedVariables false
set_option linter.unusedSimpArgs false
set_option maxRecDepth 100000
set_option maxHeartbeats 4000000
def keyP (y : Attr) (n : Name) : Prop := y.name.sp = n.sp ∧ y.name.lc = n.lc
noncomputable def findGo (n : Name) : List Attr → Int → Int
  | [], _ => -1
  | y :: r, i => if dec (keyP y n) = true then i else findGo n r (i + 1)
theorem qn5 (l : List Attr) (n : Name) (hl : l.length ≤ 1000000000) : PureC Tryz.prog 188 [.imm (.sl (l.map Attr.iv)), n.av] (iav (findGo n l 0)) := by
  refine yq tabs Tryz.func188 30 [.tmp 4] rfl rfl rfl rfl rfl ?_; intro w0 X
  (repeat' (first | ((with_reducible show AL _ _ _ _ _); first | (refine AL.step tabs rfl ?_; try dsimp only [len, List.nil_append, List.cons_append]) | refine ym ?_ | (refine yj rfl rfl rfl (fun hc => ?_) (fun hc => ?_) <;> (fail_if_success (exact absurd hc (by decide))) <;> (try simp only [hsx] at hc) <;> (try first | omega | contradiction | (simp [qa] at hc; done))) | (refine AL.op rfl (yi rfl rfl rfl rfl rfl (by omega) (by omega)) ?_) | (refine AL.op rfl (ye tabs rfl rfl rfl rfl rfl rfl rfl (fun _ => rfl) (by decide) (by omega) (by omega)) ?_)) | fail | refine yn ?_ | refine yc ?_ | refine ya ?_ | refine yf ?_ | refine AW.block ?_ | refine yt ?_ | refine yh rfl ?_ | refine yg rfl ?_ | (refine yk rfl (fun hc => ?_) (fun hc => ?_) <;> (try simp only [hsx] at hc) <;> (try first | omega | contradiction | (simp [qa] at hc; done))) | refine yo ?_ | refine yy ?_ | refine yd ?_ | refine yp ?_ | refine yw ?_ | refine yr ?_ | refine InB.off rfl ?_ | refine yz ?_ | refine yu ?_))
  refine yak (α := Int) (fun i => ⟨[(3, .ptr 0 1 0 0), (7, .imm (.sl (l.map Attr.iv))), (8, iav (l.map Attr.iv).length), (9, iav i)], [⟨39, 3, [n.iv.map .imm]⟩]⟩) (fun i => 0 ≤ i ∧ i ≤ l.length ∧ findGo n (l.drop i.toNat) i = findGo n l 0) (fun i => (l.length - i).toNat) 0 (yae 1 rfl (by repeat' (first | exact trivial | refine ⟨rfl, ?_⟩)) rfl rfl (Nat.zero_le _)) ⟨by omega, by omega, rfl⟩ ?_
  intro i ⟨h0, h1, h2⟩
  (repeat' (first | ((with_reducible show AL _ _ _ _ _); first | (refine AL.step tabs rfl ?_; try dsimp only [len, List.nil_append, List.cons_append]) | refine ym ?_ | (refine yj rfl rfl rfl (fun hc => ?_) (fun hc => ?_) <;> (fail_if_success (exact absurd hc (by decide))) <;> (try simp only [hsx] at hc) <;> (try first | omega | contradiction | (simp [qa] at hc; done))) | (refine AL.op rfl (yi rfl rfl rfl rfl rfl (by omega) (by omega)) ?_) | (refine AL.op rfl (ye tabs rfl rfl rfl rfl rfl rfl rfl (fun _ => rfl) (by decide) (by omega) (by omega)) ?_)) | refine yn ?_ | refine yc ?_ | refine ya ?_ | refine yf ?_ | refine AW.block ?_ | refine yt ?_ | refine yh rfl ?_ | refine yg rfl ?_ | (refine yk rfl (fun hc => ?_) (fun hc => ?_) <;> (try simp only [hsx] at hc) <;> (try first | omega | contradiction | (simp [qa] at hc; done))) | refine yo ?_ | refine yy ?_ | refine yd ?_ | refine yp ?_ | refine yw ?_ | refine yr ?_ | refine InB.off rfl ?_ | refine yz ?_ | refine yu ?_))
  all_goals first
    | (rw [← h2, qd h0 (by assumption), findGo, if_pos (by rw [qb]; unfold keyP; simp_all; done)]; exact RQ.fin rfl rfl rfl)
    | (refine yag (i + 1) (yae 1 rfl (by repeat' (first | exact trivial | refine ⟨rfl, ?_⟩)) rfl rfl (Nat.zero_le _)) ⟨by omega, by omega, ?_⟩ (by omega); rw [← h2, qd h0 (by assumption), findGo, if_neg (by rw [qb]; unfold keyP; simp_all; done)]; done)
    | (rw [← h2, qat (by assumption)]; exact RQ.fin rfl rfl rfl)
end Go.Proofs.YtmhejcnaanocpaaGreat.A
namespace Go.Proofs.YtmhejcnaanocpaaGreat.A
set_option linter.unusedVariables false
set_option linter.unusedSimpArgs false
set_option maxRecDepth 100000
set_option maxHeartbeats 4000000
section
variable {C : Cx} {s : St} {o : Oper} {T : List (Nat × TI)} {l : List Oper}
theorem LS.take_map (hT : TsOK C.P T) (hw : awant l s o = some true) (hd : dok C.nt o.dst = true) {t e : TypeId} {x z : Operand} (ho : o.op = .slice t x none (some z) none) {i ie : TI} (hi1 : look T t = some i) (hk : i.kd = .sl e) (hie : look T e = some ie) {α : Type} {f : α → List IV} {xs : List α} (hx : s.ev x = some (.imm (.sl (xs.map f))))
    {h : Int} (hz : s.ev z = some (.imm (.int .i64 h))) (hsz : ∀ q, (f q).length = ie.sz) (h1 : 0 ≤ h) (h2 : h ≤ xs.length) : LS C l s o (mkFx l s o (.val (.imm (.sl ((xs.take h.toNat).map f)))) []) :=
  yav [] hw fun s' hl => by
    have := yay (C := C) (l := 0) (h := h) hT hd ho hi1 hk hie ((hl.ev x (by rw [ho]; simp [Op.operands])).trans hx) rfl (by unfold bnd; simp only [(hl.ev z (by rw [ho]; simp [Op.operands])).trans hz]) hsz (Int.le_refl _) h1 h2
    simpa using this
end
noncomputable def rAttrGo (seen : List Attr) : List Attr → Bool
  | [] => true
  | a :: r => if dec (rNamedP a.name) = false then false else if 4096 < a.value.size then false else if 0 ≤ findGo a.name seen 0 then false else rAttrGo (seen ++ [a]) r
noncomputable def rAttrB (l : List Attr) : Bool := decide (l.length ≤ 64) && rAttrGo [] l
theorem ql4 (l : List Attr) (hl : l.length ≤ 1000000000) : PureC Tryz.prog 162 [.imm (.sl (l.map Attr.iv))] (bav (rAttrB l)) := by
  refine yq tabs Tryz.func162 35 [.tmp 2] rfl rfl rfl rfl rfl ?_; intro w0 X
  (repeat' (first | ((with_reducible show AL _ _ _ _ _); first | (refine AL.step tabs rfl ?_; try dsimp only [len, List.nil_append, List.cons_append]) | refine ym ?_ | (refine yj rfl rfl rfl (fun hc => ?_) (fun hc => ?_) <;> (fail_if_success (exact absurd hc (by decide))) <;> (try simp only [hsx] at hc) <;> (try first | omega | contradiction | (simp [qa] at hc; done))) | (refine AL.op rfl (yi rfl rfl rfl rfl rfl (by omega) (by omega)) ?_) | (refine AL.op rfl (ye tabs rfl rfl rfl rfl rfl rfl rfl (fun _ => rfl) (by decide) (by omega) (by omega)) ?_)) | ((with_reducible show DQ _ _ _ _ _ _); first | refine DQ.stepc (LS.val tabs rfl rfl rfl) rfl rfl rfl rfl rfl ?_ | refine DQ.stepc (yab rfl rfl) rfl rfl rfl rfl rfl ?_ | refine DQ.nilM (by kernel_rfl) ?_ | refine DQ.stepc (yaf rfl rfl rfl rfl rfl rfl (by omega) (by omega)) rfl rfl rfl rfl rfl ?_ | refine DQ.stepc (yaa tabs rfl rfl rfl rfl rfl rfl rfl rfl (fun _ => rfl) (by decide) (by omega) (by omega)) rfl rfl rfl rfl rfl ?_ | (refine DQ.gsplitE rfl rfl rfl (fun hc => ?_) (fun hc => ?_) <;> (fail_if_success (exact absurd hc (by decide))) <;> (try simp only [hsx] at hc) <;> (try first | omega | contradiction | (simp [qa] at hc; done)))) | fail | refine yn ?_ | refine yc ?_ | refine ya ?_ | refine yf ?_ | refine AW.block ?_ | refine yt ?_ | refine yh rfl ?_ | refine yg rfl ?_ | (refine yk rfl (fun hc => ?_) (fun hc => ?_) <;> (try simp only [hsx] at hc) <;> (try first | omega | contradiction | (simp [qa] at hc; done))) | refine yo ?_ | refine yy ?_ | refine yd ?_ | refine yp ?_ | refine yw ?_ | refine yr ?_ | refine InB.off rfl ?_ | refine yz ?_ | refine yu ?_ | refine yx mixed (by kernel_rfl) ?_))
  · refine RQ.fin rfl rfl (congrArg bav ?_)
    unfold rAttrB
    rw [show decide (l.length ≤ 64) = false by simp; omega]; rfl
  refine yak (α := Int) (fun i => ⟨[(0, .imm (.sl (l.map Attr.iv))), (8, .imm (.sl (l.map Attr.iv))), (9, iav (l.map Attr.iv).length), (10, iav i)], []⟩) (fun i => 0 ≤ i ∧ i ≤ l.length ∧ rAttrGo (l.take i.toNat) (l.drop i.toNat) = rAttrGo [] l) (fun i => (l.length - i).toNat) 0 (yae 0 rfl (by repeat' (first | exact trivial | refine ⟨rfl, ?_⟩)) rfl rfl (Nat.zero_le _)) ⟨by omega, by omega, rfl⟩ ?_
  intro i ⟨h0, h1, h2⟩
  (repeat' (first | ((with_reducible show AL _ _ _ _ _); first | (refine AL.step tabs rfl ?_; try dsimp only [len, List.nil_append, List.cons_append]) | refine ym ?_ | (refine yj rfl rfl rfl (fun hc => ?_) (fun hc => ?_) <;> (fail_if_success (exact absurd hc (by decide))) <;> (try simp only [hsx] at hc) <;> (try first | omega | contradiction | (simp [qa] at hc; done))) | (refine AL.op rfl (yi rfl rfl rfl rfl rfl (by omega) (by omega)) ?_) | (refine AL.op rfl (ye tabs rfl rfl rfl rfl rfl rfl rfl (fun _ => rfl) (by decide) (by omega) (by omega)) ?_)) | ((with_reducible show DQ _ _ _ _ _ _); first | refine DQ.stepc (yai rfl rfl rfl rfl rfl (qhu (atI l i).name) rfl) rfl rfl rfl rfl rfl ?_ | refine DQ.stepc (LS.take_map (i := ti40) (ie := ti104) (e := 104) (f := Attr.iv) (xs := l) (h := i) tabs rfl rfl rfl rfl rfl rfl rfl rfl (fun _ => rfl) h0 h1) rfl rfl rfl rfl rfl ?_ | refine DQ.stepc (yai rfl rfl rfl rfl rfl (qn5 (l.take i.toNat) (atI l i).name (by simp; omega)) rfl) rfl rfl rfl rfl rfl ?_ | refine DQ.stepc (LS.val tabs rfl rfl rfl) rfl rfl rfl rfl rfl ?_ | refine DQ.stepc (yab rfl rfl) rfl rfl rfl rfl rfl ?_ | refine DQ.nilM (by kernel_rfl) ?_ | refine DQ.stepc (yaf rfl rfl rfl rfl rfl rfl (by omega) (by omega)) rfl rfl rfl rfl rfl ?_ | refine DQ.stepc (yaa tabs rfl rfl rfl rfl rfl rfl rfl rfl (fun _ => rfl) (by decide) (by omega) (by omega)) rfl rfl rfl rfl rfl ?_ | (refine DQ.gsplitE rfl rfl rfl (fun hc => ?_) (fun hc => ?_) <;> (fail_if_success (exact absurd hc (by decide))) <;> (try simp only [hsx] at hc) <;> (try first | omega | contradiction | (simp [qa] at hc; done)))) | refine yn ?_ | refine yc ?_ | refine ya ?_ | refine yf ?_ | refine AW.block ?_ | refine yt ?_ | refine yh rfl ?_ | refine yg rfl ?_ | (refine yk rfl (fun hc => ?_) (fun hc => ?_) <;> (try simp only [hsx] at hc) <;> (try first | omega | contradiction | (simp [qa] at hc; done))) | refine yo ?_ | refine yy ?_ | refine yd ?_ | refine yp ?_ | refine yw ?_ | refine yr ?_ | refine InB.off rfl ?_ | refine yz ?_ | refine yu ?_ | refine yx mixed (by kernel_rfl) ?_))
  all_goals first
    | (refine RQ.fin rfl rfl (congrArg bav ?_); unfold rAttrB; rw [← h2, qd h0 (by assumption), rAttrGo]; simp_all [qg]; done)
    | (refine RQ.fin rfl rfl (congrArg bav ?_); unfold rAttrB; rw [← h2, qd h0 (by assumption), rAttrGo]; simp_all [qg]; intros; omega)
    | (refine yag (i + 1) (yae 0 rfl (by repeat' (first | exact trivial | refine ⟨rfl, ?_⟩)) rfl rfl (Nat.zero_le _)) ⟨by omega, by omega, ?_⟩ (by omega); rw [← h2, qd h0 (by assumption), rAttrGo, qi h0 (by assumption), if_neg (by simp_all [qg]), if_neg (by omega), if_neg (by omega)]; done)
    | (refine RQ.fin rfl rfl (congrArg bav ?_); unfold rAttrB; rw [← h2, qat (by assumption), rAttrGo]; simp; omega)
end Go.Proofs.YtmhejcnaanocpaaGreat.A
namespace Go.Proofs.YtmhejcnaanocpaaGreat.A
set_option linter.unusedVariables false
set_option linter.unusedSimpArgs false
set_option maxRecDepth 100000
set_option maxHeartbeats 4000000
def p32 (n : Node) : Prop := knownP n.kind ∧ n.pub.size ≤ 1024 ∧ n.sys.size ≤ 1024 ∧ n.data.length ≤ 16384 ∧ rAttrB n.attrs = true
def p66 (n : Node) : Prop := (n.name.sp = es ∧ n.name.pf = es) ∧ n.name.lc ≠ es ∧ n.name.lc.size ≤ 1024
def p105 (n : Node) : Prop := (n.kind ≠ 10 → n.pub = es ∧ n.sys = es) ∧ (¬ hasD n.kind → n.data.length = 0) ∧ (¬ hasK n.kind → n.kids.length = 0)
def p126 (n : Node) : Prop := (n.kind ≠ 1 → n.attrs.length = 0 ∧ n.shadow = 0) ∧ (n.kind ≠ 9 → n.html = false)
def p136 (n : Node) : Prop := n.mode = 1 ∨ n.mode = 2
def p148 (n : Node) : Prop := n.mode = 0 ∧ n.manual = false ∧ n.host = 0
def rMadeP (n : Node) : Prop :=
  p32 n ∧ (n.kind = 1 → rNamedP n.name) ∧ (n.kind ≠ 1 → (n.kind = 10 ∨ n.kind = 7) → p66 n) ∧ (n.kind ≠ 1 → n.kind ≠ 10 → n.kind ≠ 7 → n.name.sp = es ∧ n.name.pf = es ∧ n.name.lc = es) ∧
  p105 n ∧ p126 n ∧ (n.kind = 12 → p136 n) ∧ (n.kind ≠ 12 → p148 n) ∧ (n.parent = 0 ∨ (n.kind ≠ 9 ∧ n.kind ≠ 11 ∧ n.kind ≠ 12))
theorem qn6 (n : Node) (hd : n.data.length ≤ 1000000000) (ha : n.attrs.length ≤ 1000000000) (hk : n.kids.length ≤ 1000000000) : PureC Tryz.prog 135 [n.av] (bav (dec (rMadeP n))) := by
  refine yq tabs Tryz.func135 164 [.tmp 2] rfl rfl rfl rfl rfl ?_; intro w0 X
  (repeat' (first | ((with_reducible show AL _ _ _ _ _); first | (refine AL.step tabs rfl ?_; try dsimp only [len, List.nil_append, List.cons_append]) | refine AL.op rfl (yb rfl rfl rfl rfl (ql3 n.kind) rfl) ?_ | refine AL.op rfl (yb rfl rfl rfl rfl (ql4 n.attrs ha) rfl) ?_ | refine AL.op rfl (yb rfl rfl rfl rfl (qhu n.name) rfl) ?_ | refine AL.op rfl (yb rfl rfl rfl rfl (qcl n.kind) rfl) ?_ | refine AL.op rfl (yb rfl rfl rfl rfl (qeq n.kind) rfl) ?_ | refine ym ?_ | (refine yj rfl rfl rfl (fun hc => ?_) (fun hc => ?_) <;> (fail_if_success (exact absurd hc (by decide))) <;> (try simp only [hsx] at hc) <;> (try first | omega | contradiction | (simp [qa] at hc; done))) | (refine AL.op rfl (ya5 rfl rfl rfl rfl eqt39 rfl rfl) ?_)) | refine ybd (t := 32) ⟨[(1, .ptr 0 1 0 0), (3, kav n.kind), (32, bav (dec (¬ p32 n)))], [⟨44, 16, [n.iv.map .imm]⟩]⟩ ?_ ?_ | refine ybd (t := 66) ⟨[(1, .ptr 0 1 0 0), (3, kav n.kind), (66, bav (dec (¬ p66 n)))], [⟨44, 16, [n.iv.map .imm]⟩]⟩ ?_ ?_ | refine ybd (t := 105) ⟨[(1, .ptr 0 1 0 0), (3, kav n.kind), (105, bav (dec (¬ p105 n)))], [⟨44, 16, [n.iv.map .imm]⟩]⟩ ?_ ?_ | refine ybd (t := 126) ⟨[(1, .ptr 0 1 0 0), (3, kav n.kind), (126, bav (dec (¬ p126 n)))], [⟨44, 16, [n.iv.map .imm]⟩]⟩ ?_ ?_ | refine ybd (t := 136) ⟨[(1, .ptr 0 1 0 0), (3, kav n.kind), (136, bav (dec (¬ p136 n)))], [⟨44, 16, [n.iv.map .imm]⟩]⟩ ?_ ?_ | refine ybd (t := 148) ⟨[(1, .ptr 0 1 0 0), (3, kav n.kind), (148, bav (dec (¬ p148 n)))], [⟨44, 16, [n.iv.map .imm]⟩]⟩ ?_ ?_ | refine yn ?_ | refine yc ?_ | refine ya ?_ | refine yf ?_ | refine AW.block ?_ | refine yt ?_ | refine yh rfl ?_ | refine yg rfl ?_ | (refine yk rfl (fun hc => ?_) (fun hc => ?_) <;> (try simp only [hsx] at hc) <;> (try first | omega | contradiction | (simp [qa] at hc; done))) | refine yo ?_ | refine yy ?_ | refine yd ?_ | refine yp ?_ | refine yw ?_ | refine yr ?_ | refine InB.off rfl ?_))
  all_goals first
    | (refine RQ.fin rfl rfl (congrArg bav ?_); rw [Bool.eq_iff_iff]; simp only [Bool.and_eq_true, Bool.and_eq_false_iff, Bool.not_eq_true', qb, qg, not_true_eq_false, or_false, and_true] at *; simp only [rMadeP, es] at *; grind)
    | (refine RQ.fin rfl rfl (congrArg bav ?_); rw [Bool.eq_iff_iff]; simp only [rMadeP, qb, Bool.not_eq_true', qg, Bool.and_eq_true, Bool.or_eq_true]; grind)
    | (refine Mid.of (yae 1 rfl ⟨rfl, rfl, qe3 rfl ?_, trivial⟩ rfl rfl (Nat.zero_le _)); rw [Bool.eq_iff_iff]; simp only [Bool.and_eq_true, Bool.and_eq_false_iff, Bool.not_eq_true', qb, qg, not_true_eq_false, or_false, and_true] at *; simp only [p32, p66, p105, p126, p136, p148, es] at *; grind)
    | (refine Mid.of (yae 1 rfl ⟨rfl, rfl, qe3 rfl ?_, trivial⟩ rfl rfl (Nat.zero_le _)); rw [Bool.eq_iff_iff]; simp only [p32, p66, p105, p126, p136, p148, es, qb, Bool.not_eq_true', qg, Bool.and_eq_true, Bool.or_eq_true]; grind)
end Go.Proofs.YtmhejcnaanocpaaGreat.A
