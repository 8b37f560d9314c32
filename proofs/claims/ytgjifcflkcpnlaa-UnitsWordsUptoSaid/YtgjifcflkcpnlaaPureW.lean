/- Plain laws: words, sets of words, lowered texts. -/
import Derived.Test.YtgjifcflkcpnlaaPureA
import Derived.Test.YtgjifcflkcpnlaaPureT
import Derived.Test.YtgjifcflkcpnlaaHandD
import Derived.Test.YtgjifcflkcpnlaaHandE
import Derived.Test.YtgjifcflkcpnlaaHandF
import Derived.Test.YtgjifcflkcpnlaaP16
import Derived.Test.YtgjifcflkcpnlaaP18
import Derived.Test.YtgjifcflkcpnlaaP19
import Derived.Test.YtgjifcflkcpnlaaP20
import Derived.Test.YtgjifcflkcpnlaaP21
import Derived.Test.YtgjifcflkcpnlaaP22
namespace Go.Proofs.Ytgjifcflkcpnlaa.Pure
set_option linter.unusedVariables false
set_option linter.unusedSimpArgs false
open Go.RowKit Go.Proofs.Ytgjifcflkcpnlaa.P Go.Proofs.YtgjifcflkcpnlaaW.PrintWords Go.Proofs.YtgjifcflkcpnlaaW.PrintLast Go.Proofs.YtgjifcflkcpnlaaW.PrintMore

def mk (l : List UInt8) : ByteArray := ⟨l.toArray⟩
theorem mk_data (l : List UInt8) : (mk l).data.toList = l := by simp [mk]
theorem mk_self (s : ByteArray) : mk s.data.toList = s := ba_ext (mk_data _)
theorem data_len (s : ByteArray) : s.data.toList.length = s.size := by simp
theorem bt_data (s : ByteArray) (i : Nat) (b : UInt8) (h : s.data.toList[i]? = some b) : bt s (i : Int) = (b.toNat : Int) := by
  obtain ⟨hi, e⟩ := List.getElem?_eq_some_iff.1 h
  have hs : i < s.size := by rw [← data_len]; exact hi
  unfold bt
  rw [dif_pos (by simpa using hs)]
  have : s[(i : Int).toNat]'(by simpa using hs) = b := by
    rw [← e]
    simp [ByteArray.getElem_eq_getElem_data]
  rw [this]
theorem byte_drop (s : ByteArray) (i : Nat) (h : i < s.size) : ∃ b : UInt8, s.data.toList.drop i = b :: s.data.toList.drop (i + 1) ∧ bt s (i : Int) = (b.toNat : Int) := by
  have hl : i < s.data.toList.length := by rw [data_len]; exact h
  exact ⟨s.data.toList[i], List.drop_eq_getElem_cons hl, bt_data s i _ (List.getElem?_eq_getElem hl)⟩
theorem extract_mk (s : ByteArray) (a b : Nat) : s.extract a b = mk ((s.data.toList.take b).drop a) := by
  apply ba_ext
  rw [mk_data]
  simp [List.extract_eq_take_drop, List.drop_take]
theorem part_snoc {l : List UInt8} {i a : Nat} {b : UInt8} (h : l.drop i = b :: l.drop (i + 1)) (ha : a ≤ i) : (l.take (i + 1)).drop a = (l.take i).drop a ++ [b] := by
  have hi : i < l.length := by
    rcases Nat.lt_or_ge i l.length with h' | h'
    · exact h'
    · rw [List.drop_of_length_le h'] at h; cases h
  rw [List.drop_eq_getElem_cons hi] at h
  injection h with h _
  rw [List.take_succ_eq_append_getElem hi, h, List.drop_append_of_le_length (by rw [List.length_take]; omega)]

/-! ### words -/
def blk (b : UInt8) : Bool := blankB (b.toNat : Int)
def words : List UInt8 → List UInt8 → List (List UInt8)
  | cur, [] => if cur = [] then [] else [cur]
  | cur, b :: bs => if blk b = true then (if cur = [] then words [] bs else cur :: words [] bs) else words (cur ++ [b]) bs
theorem words_cons (cur : List UInt8) (b : UInt8) (bs : List UInt8) : words cur (b :: bs) = if blk b = true then (if cur = [] then words [] bs else cur :: words [] bs) else words (cur ++ [b]) bs := by rw [words]
theorem words_nil (cur : List UInt8) : words cur [] = if cur = [] then [] else [cur] := by rw [words]
theorem refblank_eq (c : Int) : canopyref01_Blank.f c = some (blankB c) := by
  unfold canopyref01_Blank.f blankB
  by_cases h1 : c = 32
  · simp [h1]
  by_cases h2 : c = 9
  · simp [h2]
  by_cases h3 : c = 10
  · simp [h3]
  by_cases h4 : c = 12
  · simp [h4]
  by_cases h5 : c = 13
  · simp [h5]
  have e : ∀ n : Int, c ≠ n → (c == n) = false := fun n h => beq_eq_false_iff_ne.2 h
  rw [if_neg h2, if_neg h3, if_neg h4, if_neg h5, e 32 h1, e 9 h2, e 10 h3, e 12 h4, e 13 h5]
  rfl
theorem cut_loop (s : ByteArray) (hs : s.size < 1048577) : ∀ (n i : Nat) (at_ : Int) (out : List ByteArray) (cur : List UInt8), s.size - i ≤ n → i ≤ s.size → out.length + n < 2000000 →
    ((at_ = -1 ∧ cur = []) ∨ (∃ a : Nat, at_ = (a : Int) ∧ a < i ∧ cur = (s.data.toList.take i).drop a)) →
    Ev (fun k => cutL k s i at_ out) (out ++ (words cur (s.data.toList.drop i)).map mk) := by
  intro n
  induction n with
  | zero =>
    intro i at_ out cur hn hi ho hc
    have hi2 : i = s.size := by omega
    refine Ev.step (fun _ => cutL.eq_2 ..) (Ev.ite_neg (by omega) ?_)
    rw [List.drop_of_length_le (by rw [data_len]; omega), words_nil]
    rcases hc with ⟨rfl, rfl⟩ | ⟨a, rfl, ha, rfl⟩
    · refine Ev.ite_neg (by omega) ?_
      simp
      exact Ev.now _
    · refine Ev.ite_pos (by omega) (Ev.ite_pos ⟨by omega, by omega⟩ ?_)
      rw [if_neg (fun e => by
        have := congrArg List.length e
        rw [List.length_drop, List.length_take, data_len] at this
        simp at this
        omega)]
      rw [Int.toNat_natCast, extract_mk, hi2]
      exact Ev.now _
  | succ n ih =>
    intro i at_ out cur hn hi ho hc
    refine Ev.step (fun _ => cutL.eq_2 ..) ?_
    by_cases h : i < s.size
    · obtain ⟨b, hb, hbt⟩ := byte_drop s i h
      rw [hb, words_cons]
      have hat : at_ ≤ (i : Int) := by rcases hc with ⟨rfl, _⟩ | ⟨a, rfl, ha, _⟩ <;> omega
      refine Ev.ite_pos (by omega) (Ev.ite_pos ⟨by omega, by omega, by omega, hat⟩ ?_)
      rw [hbt]
      by_cases hk : blk b = true
      · rw [if_pos hk]
        refine Ev.ite_pos hk ?_
        rcases hc with ⟨rfl, rfl⟩ | ⟨a, rfl, ha, rfl⟩
        · rw [if_pos rfl]
          exact Ev.ite_neg (by omega) (ih (i + 1) (-1) out [] (by omega) (by omega) (by omega) (.inl ⟨rfl, rfl⟩))
        · rw [if_neg (fun e => by
            have := congrArg List.length e
            rw [List.length_drop, List.length_take, data_len] at this
            simp at this
            omega)]
          refine Ev.ite_pos (by omega) ?_
          rw [Int.toNat_natCast, Int.toNat_natCast, extract_mk, List.map_cons]
          have := ih (i + 1) (-1) (out ++ [mk ((s.data.toList.take i).drop a)]) [] (by omega) (by omega) (by rw [List.length_append, List.length_singleton]; omega) (.inl ⟨rfl, rfl⟩)
          rw [List.append_assoc, List.singleton_append] at this
          exact this
      · rw [if_neg hk]
        refine Ev.ite_neg hk ?_
        rcases hc with ⟨rfl, rfl⟩ | ⟨a, rfl, ha, rfl⟩
        · refine Ev.ite_neg (by omega) (ih (i + 1) (i : Int) out _ (by omega) (by omega) (by omega) (.inr ⟨i, rfl, by omega, ?_⟩))
          rw [part_snoc hb (Nat.le_refl i), List.drop_of_length_le (by rw [List.length_take]; omega)]
        · refine Ev.ite_pos (by omega) (ih (i + 1) (a : Int) out _ (by omega) (by omega) (by omega) (.inr ⟨a, rfl, by omega, ?_⟩))
          rw [part_snoc hb (by omega)]
    · have hi2 : i = s.size := by omega
      refine Ev.ite_neg (by omega) ?_
      rw [List.drop_of_length_le (by rw [data_len]; omega), words_nil]
      rcases hc with ⟨rfl, rfl⟩ | ⟨a, rfl, ha, rfl⟩
      · refine Ev.ite_neg (by omega) ?_
        simp
        exact Ev.now _
      · refine Ev.ite_pos (by omega) (Ev.ite_pos ⟨by omega, by omega⟩ ?_)
        rw [if_neg (fun e => by
          have := congrArg List.length e
          rw [List.length_drop, List.length_take, data_len] at this
          simp at this
          omega)]
        rw [Int.toNat_natCast, extract_mk, hi2]
        exact Ev.now _
def split (s : ByteArray) : List ByteArray := (words [] s.data.toList).map mk
theorem split_spec (s : ByteArray) (hs : s.size < 1048577) : Ev (fun k => units_Split.f k s) (split s) := by
  have := cut_loop s hs s.size 0 (-1) [] [] (by omega) (by omega) (by simp; omega) (.inl ⟨rfl, rfl⟩)
  show Ev (fun k => cutL k s 0 (-1) []) _
  simpa [split] using this
theorem refsplit_loop (s : ByteArray) (hs : s.size < 1048577) : ∀ (n i a : Nat) (out : List ByteArray), s.size - i ≤ n → i ≤ s.size → a ≤ i → out.length + n < 2000000 →
    Ev (fun k => canopyref01_Split.l0 k s out a i) (out ++ (words ((s.data.toList.take i).drop a) (s.data.toList.drop i)).map mk) := by
  have last : ∀ (a : Nat) (out : List ByteArray), a ≤ s.size → out.length < 2000000 → Ev (fun k => canopyref01_Split.l0 k s out a s.size) (out ++ (words ((s.data.toList.take s.size).drop a) (s.data.toList.drop s.size)).map mk) := by
    intro a out ha ho
    refine Ev.step (fun _ => canopyref01_Split.l0.eq_2 ..) (Ev.ite_pos (by omega) (Ev.ite_neg (by omega) ?_))
    refine Ev.step (fun _ => canopyref01_Split.j1.eq_2 ..) (Ev.ite_neg (by simp) ?_)
    rw [List.drop_of_length_le (l := s.data.toList) (i := s.size) (by rw [data_len]; omega), words_nil, wrap64_id (by omega) (by omega)]
    have hlen : ((s.data.toList.take s.size).drop a).length = s.size - a := by rw [List.length_drop, List.length_take, data_len]; omega
    have done : ∀ (o : List ByteArray) (b : Int), Ev (fun k => canopyref01_Split.l0 k s o b ((s.size : Int) + 1)) o := fun o b => Ev.step (fun _ => canopyref01_Split.l0.eq_2 ..) (Ev.ite_neg (by omega) (Ev.now _))
    by_cases h : a < s.size
    · refine Ev.ite_pos (by omega) (Ev.ite_pos (by omega) (Ev.ite_pos (by omega) (Ev.ite_pos (by omega) (Ev.ite_pos (by omega) ?_))))
      rw [if_neg (fun e => by rw [e] at hlen; simp at hlen; omega), Int.toNat_natCast, Int.toNat_natCast, extract_mk]
      exact done _ _
    · rw [if_pos (List.length_eq_zero_iff.1 (by omega))]
      simp only [List.map_nil, List.append_nil]
      exact Ev.ite_neg (by omega) (done _ _)
  intro n
  induction n with
  | zero =>
    intro i a out hn hi ha ho
    have : i = s.size := by omega
    subst this
    exact last a out ha (by omega)
  | succ n ih =>
    intro i a out hn hi ha ho
    by_cases h : i < s.size
    · obtain ⟨b, hb, hbt⟩ := byte_drop s i h
      rw [hb, words_cons]
      have hlen : ((s.data.toList.take i).drop a).length = i - a := by rw [List.length_drop, List.length_take, data_len]; omega
      refine Ev.step (fun _ => canopyref01_Split.l0.eq_2 ..) (Ev.ite_pos (by omega) (Ev.ite_pos (by omega) (Ev.ite_pos (by omega) ?_)))
      rw [refblank_eq, hbt]
      simp only [Option.bind_some]
      refine Ev.step (fun _ => canopyref01_Split.j1.eq_2 ..) ?_
      rw [wrap64_id (by omega) (by omega)]
      by_cases hk : blk b = true
      · rw [if_pos hk]
        have hk2 : blankB (b.toNat : Int) = true := hk
        rw [hk2]
        refine Ev.ite_neg (by simp) ?_
        have hnil : ∀ j, (s.data.toList.take j).drop j = [] := fun j => List.drop_of_length_le (by rw [List.length_take]; omega)
        by_cases h2 : a < i
        · refine Ev.ite_pos (by omega) (Ev.ite_pos (by omega) (Ev.ite_pos (by omega) (Ev.ite_pos (by omega) (Ev.ite_pos (by omega) ?_))))
          rw [if_neg (fun e => by rw [e] at hlen; simp at hlen; omega), Int.toNat_natCast, Int.toNat_natCast, extract_mk, List.map_cons]
          have := ih (i + 1) (i + 1) (out ++ [mk ((s.data.toList.take i).drop a)]) (by omega) (by omega) (by omega) (by rw [List.length_append, List.length_singleton]; omega)
          rw [hnil, List.append_assoc, List.singleton_append] at this
          exact this
        · rw [if_pos (List.length_eq_zero_iff.1 (by omega))]
          have := ih (i + 1) (i + 1) out (by omega) (by omega) (by omega) (by omega)
          rw [hnil] at this
          exact Ev.ite_neg (by omega) this
      · rw [if_neg hk]
        have hk2 : blankB (b.toNat : Int) = false := by simpa [blk] using hk
        rw [hk2]
        have := ih (i + 1) a out (by omega) (by omega) (by omega) (by omega)
        rw [part_snoc hb ha] at this
        exact Ev.ite_pos rfl this
    · have : i = s.size := by omega
      subst this
      exact last a out ha (by omega)
theorem refsplit_spec (s : ByteArray) (hs : s.size < 1048577) : Ev (fun k => canopyref01_Split.f k s) (split s) := by
  have := refsplit_loop s hs s.size 0 0 [] (by omega) (by omega) (by omega) (by simp; omega)
  show Ev (fun k => canopyref01_Split.l0 k s [] 0 0) _
  simpa [split] using this

/-! ### what words are -/
theorem words_good : ∀ (bs cur : List UInt8), (∀ b ∈ cur, blk b = false) → ∀ w ∈ words cur bs, w ≠ [] ∧ ∀ b ∈ w, blk b = false
  | [], cur, hc, w, hw => by
    rw [words_nil] at hw
    split at hw
    · simp at hw
    · rename_i h
      have : w = cur := by simpa using hw
      subst this
      exact ⟨h, hc⟩
  | b :: bs, cur, hc, w, hw => by
    rw [words_cons] at hw
    split at hw
    · split at hw
      · exact words_good bs [] (by simp) w hw
      · rename_i h
        rcases List.mem_cons.1 hw with e | e
        · subst e; exact ⟨h, hc⟩
        · exact words_good bs [] (by simp) w e
    · rename_i h
      refine words_good bs (cur ++ [b]) (fun x hx => ?_) w hw
      rcases List.mem_append.1 hx with e | e
      · exact hc x e
      · have : x = b := by simpa using e
        subst this
        simpa using h
theorem words_run : ∀ (w cur bs : List UInt8), (∀ b ∈ w, blk b = false) → words cur (w ++ bs) = words (cur ++ w) bs
  | [], cur, bs, _ => by simp
  | b :: w, cur, bs, h => by
    rw [List.cons_append, words_cons, if_neg (by rw [h b (List.mem_cons_self ..)]; simp), words_run w _ bs (fun x hx => h x (List.mem_cons_of_mem _ hx))]
    simp
theorem joinTail_cons (x : List UInt8) (r : List (List UInt8)) : Lib.joinTail [32] (x :: r) = 32 :: (x ++ Lib.joinTail [32] r) := by simp [Lib.joinTail]
theorem words_tail : ∀ (r : List (List UInt8)) (cur : List UInt8), cur ≠ [] → (∀ w ∈ r, w ≠ [] ∧ ∀ b ∈ w, blk b = false) → words cur (Lib.joinTail [32] r) = cur :: r
  | [], cur, h, _ => by simp [Lib.joinTail, words_nil, h]
  | x :: r, cur, h, hr => by
    have hx := hr x (List.mem_cons_self ..)
    have e : Lib.joinTail [32] (x :: r) = 32 :: (x ++ Lib.joinTail [32] r) := by simp [Lib.joinTail]
    rw [e, words_cons, if_pos (by decide), if_neg h, words_run x [] _ hx.2, List.nil_append, words_tail r x hx.1 (fun w hw => hr w (List.mem_cons_of_mem _ hw))]
theorem words_join (ws : List (List UInt8)) (h : ∀ w ∈ ws, w ≠ [] ∧ ∀ b ∈ w, blk b = false) : words [] (Lib.join ws [32]) = ws := by
  cases ws with
  | nil => simp [Lib.join_nil, words_nil]
  | cons x r =>
    have hx := h x (List.mem_cons_self ..)
    rw [Lib.join_cons, words_run x [] _ hx.2, List.nil_append, words_tail r x hx.1 (fun w hw => h w (List.mem_cons_of_mem _ hw))]
theorem words_total : ∀ (bs cur : List UInt8), ((words cur bs).map fun w => w.length + 1).sum ≤ cur.length + bs.length + 1
  | [], cur => by rw [words_nil]; split <;> simp
  | b :: bs, cur => by
    rw [words_cons]
    split
    · have := words_total bs []
      split
      · simp at this ⊢; omega
      · simp at this ⊢; omega
    · have := words_total bs (cur ++ [b])
      simp at this ⊢; omega
theorem joinTail_length : ∀ r : List (List UInt8), (Lib.joinTail [32] r).length = (r.map fun w => w.length + 1).sum
  | [] => by simp [Lib.joinTail]
  | x :: r => by
    have := joinTail_length r
    simp [Lib.joinTail] at this ⊢
    omega
theorem join_length (ws : List (List UInt8)) : (Lib.join ws [32]).length ≤ (ws.map fun w => w.length + 1).sum := by
  cases ws with
  | nil => simp [Lib.join_nil]
  | cons x r =>
    have := joinTail_length r
    rw [Lib.join_cons, List.length_append, this]
    simp
theorem words_count : ∀ ws : List (List UInt8), ws.length ≤ (ws.map fun w => w.length + 1).sum
  | [] => by simp
  | x :: r => by have := words_count r; simp; omega

/-! ### Collapse and Join -/
def collapse (s : ByteArray) : ByteArray := mk (Lib.join (words [] s.data.toList) [32])
theorem collapse_size (s : ByteArray) : (collapse s).size ≤ s.size + 1 := by
  have h1 := join_length (words [] s.data.toList)
  have h2 := words_total s.data.toList []
  have h3 : (collapse s).size = (Lib.join (words [] s.data.toList) [32]).length := by rw [← data_len]; unfold collapse; rw [mk_data]
  rw [data_len] at h2
  simp only [List.length_nil] at h2
  omega
theorem map_mk (l : List (List UInt8)) : (l.map mk).map (·.data.toList) = l := by
  rw [List.map_map]
  conv => rhs; rw [← List.map_id l]
  exact List.map_congr_left (fun x _ => mk_data x)
theorem collapse_spec (s : ByteArray) (hs : s.size < 1048577) : Ev (fun k => units_Collapse.f k s) (collapse s) := by
  unfold units_Collapse.f
  have h1 := join_length (words [] s.data.toList)
  have h2 := words_total s.data.toList []
  have h3 := words_count (words [] s.data.toList)
  rw [data_len] at h2
  simp only [List.length_nil] at h2
  refine Ev.bind (split_spec s hs) ?_
  unfold split collapse
  rw [map_mk]
  exact Ev.ite_pos ⟨by rw [List.length_map]; omega, by omega⟩ (Ev.now _)
theorem nums_bytes (l : List UInt8) (xs : List Int) (h : xs = l.map fun b => (b.toNat : Int)) : strOfNums xs = mk l := by
  subst h
  unfold strOfNums mk
  congr 2
  rw [List.map_map]
  conv => rhs; rw [← List.map_id l]
  refine List.map_congr_left (fun b _ => ?_)
  simp
def numsOf (l : List UInt8) : List Int := l.map fun b => (b.toNat : Int)
theorem join_loop (l : List (List UInt8)) (n : Nat) (hn : n = l.length) : ∀ (d i : Nat) (x3 : List Int), l.length - i ≤ d → i ≤ l.length → 0 < i → x3.length + (Lib.joinTail [32] (l.drop i)).length < 140737488355328 → l.length < 2000000 →
    Ev (fun k => canopyref01_Join.l0 k x3 (l.map mk) (l.length : Int) i) (strOfNums (x3 ++ numsOf (Lib.joinTail [32] (l.drop i)))) := by
  intro d
  induction d with
  | zero =>
    intro i x3 hd hi h0 hx hl
    refine Ev.step (fun _ => canopyref01_Join.l0.eq_2 ..) (Ev.ite_neg (by omega) ?_)
    rw [List.drop_of_length_le (by omega)]
    simp [Lib.joinTail, numsOf]
    exact Ev.now _
  | succ d ih =>
    intro i x3 hd hi h0 hx hl
    refine Ev.step (fun _ => canopyref01_Join.l0.eq_2 ..) ?_
    by_cases h : i < l.length
    · have e : rdOf ByteArray.empty (l.map mk) (i : Int) = mk l[i] := by simp [rdOf, List.getD_eq_getElem?_getD, h]
      have e2 : Lib.joinTail [32] (l.drop i) = 32 :: (l[i] ++ Lib.joinTail [32] (l.drop (i + 1))) := by rw [List.drop_eq_getElem_cons h, joinTail_cons]
      have e3 : (mk l[i]).size = l[i].length := by rw [← data_len, mk_data]
      rw [e2] at hx ⊢
      simp only [List.length_cons, List.length_append] at hx
      rw [e, e3, wrap64_id (by omega) (by omega)]
      simp only [Option.bind_some]
      refine Ev.ite_pos (by omega) (Ev.ite_pos (by omega) (Ev.ite_pos (by rw [List.length_map]; omega) (Ev.ite_pos (by omega) (Ev.ite_pos (by omega) (Ev.ite_pos (by rw [List.length_append, List.length_singleton]; omega) ?_)))))
      have eb : bytesOf (mk l[i]) = numsOf l[i] := by unfold bytesOf numsOf; rw [mk_data]
      have := ih (i + 1) (x3 ++ [32] ++ numsOf l[i]) (by omega) (by omega) (by omega) (by unfold numsOf; simp; omega) hl
      rw [eb]
      have e4 : x3 ++ numsOf (32 :: (l[i] ++ Lib.joinTail [32] (l.drop (i + 1)))) = x3 ++ [32] ++ numsOf l[i] ++ numsOf (Lib.joinTail [32] (l.drop (i + 1))) := by unfold numsOf; simp
      rw [e4]
      exact this
    · refine Ev.ite_neg (by omega) ?_
      rw [List.drop_of_length_le (by omega)]
      simp [Lib.joinTail, numsOf]
      exact Ev.now _
theorem join_spec (l : List (List UInt8)) (hl : l.length < 2000000) (ht : (l.map fun w => w.length + 1).sum < 140737488355328) : Ev (fun k => canopyref01_Join.f k (l.map mk)) (mk (Lib.join l [32])) := by
  unfold canopyref01_Join.f
  rw [List.length_map]
  cases l with
  | nil =>
    refine Ev.step (fun _ => canopyref01_Join.l0.eq_2 ..) (Ev.ite_neg (by simp) ?_)
    exact Ev.now _
  | cons x r =>
    have e3 : (mk x).size = x.length := by rw [← data_len, mk_data]
    have e : rdOf ByteArray.empty ((x :: r).map mk) 0 = mk x := rfl
    have hj := joinTail_length r
    simp only [List.map_cons, List.sum_cons] at ht
    simp only [List.length_cons] at hl
    refine Ev.step (fun _ => canopyref01_Join.l0.eq_2 ..) ?_
    rw [e, e3]
    refine Ev.ite_pos (by rw [List.length_cons]; omega) (Ev.ite_pos (by omega) (Ev.ite_pos (by rw [List.length_map, List.length_cons]; omega) (Ev.ite_neg (by omega) (Ev.ite_pos (by rw [List.length_nil]; omega) ?_))))
    have eb : bytesOf (mk x) = numsOf x := by unfold bytesOf numsOf; rw [mk_data]
    have := join_loop (x :: r) _ rfl (r.length) 1 (numsOf x) (by simp) (by simp) (by omega) (by unfold numsOf; simp; omega) (by simp; omega)
    rw [List.drop_one, List.tail_cons, nums_bytes (x ++ Lib.joinTail [32] r) (numsOf x ++ numsOf (Lib.joinTail [32] r)) (by simp [numsOf])] at this
    rw [eb, List.nil_append, Lib.join_cons, show wrap64 (0 + 1) = ((1 : Nat) : Int) from (wrap64_id (n := 0 + 1) (by omega) (by omega)).trans (by rfl)]
    exact this

/-! ### Lower -/
def lower (s : ByteArray) : ByteArray := strOfNums ((bytesOf s).map lowB)
theorem lower_eq (s : ByteArray) (hs : s.size < 1048577) : units_Lower.f s = some (lower s) := by
  unfold units_Lower.f
  rw [if_pos (by omega)]
  rfl
theorem reflower_loop (s : ByteArray) (hs : s.size < 1048577) : ∀ (d i : Nat) (x3 : List Int), s.size - i ≤ d → i ≤ s.size → x3.length + d < 140737488355328 →
    Ev (fun k => canopyref01_Lower.l0 k s x3 i) (strOfNums (x3 ++ ((bytesOf s).drop i).map lowB)) := by
  intro d
  induction d with
  | zero =>
    intro i x3 hd hi hx
    refine Ev.step (fun _ => canopyref01_Lower.l0.eq_2 ..) (Ev.ite_neg (by omega) ?_)
    rw [List.drop_of_length_le (by rw [bytesOf_length]; omega)]
    simp
    exact Ev.now _
  | succ d ih =>
    intro i x3 hd hi hx
    refine Ev.step (fun _ => canopyref01_Lower.l0.eq_2 ..) ?_
    by_cases h : i < s.size
    · have hb := bt_range s (i : Int)
      have e : (bytesOf s).drop i = bt s (i : Int) :: (bytesOf s).drop (i + 1) := by rw [rd_drop (bytesOf s) i (by rw [bytesOf_length]; exact h), rd_bytesOf]
      rw [e, List.map_cons, wrap64_id (by omega) (by omega)]
      have go := ih (i + 1) (x3 ++ [lowB (bt s (i : Int))]) (by omega) (by omega) (by rw [List.length_append, List.length_singleton]; omega)
      rw [List.append_assoc, List.singleton_append] at go
      generalize hrest : ((bytesOf s).drop (i + 1)).map lowB = rest at go ⊢
      refine Ev.ite_pos (by omega) (Ev.ite_pos (by omega) ?_)
      unfold lowB at go ⊢
      by_cases h1 : bt s (i : Int) ≥ 65
      · refine Ev.ite_pos h1 ?_
        by_cases h2 : bt s (i : Int) ≤ 90
        · rw [if_pos ⟨h1, h2⟩] at go ⊢
          rw [show (bt s (i : Int) + 32) % 256 = bt s (i : Int) + 32 by omega]
          exact Ev.ite_pos h2 (Ev.ite_pos (by omega) go)
        · rw [if_neg (fun e => h2 e.2)] at go ⊢
          exact Ev.ite_neg h2 (Ev.ite_pos (by omega) go)
      · rw [if_neg (fun e => h1 e.1)] at go ⊢
        exact Ev.ite_neg h1 (Ev.ite_pos (by omega) go)
    · refine Ev.ite_neg (by omega) ?_
      rw [List.drop_of_length_le (by rw [bytesOf_length]; omega)]
      simp
      exact Ev.now _
theorem reflower_spec (s : ByteArray) (hs : s.size < 1048577) : Ev (fun k => canopyref01_Lower.f k s) (lower s) := by
  have := reflower_loop s hs s.size 0 [] (by omega) (by omega) (by simp; omega)
  show Ev (fun k => canopyref01_Lower.l0 k s [] 0) _
  simpa [lower] using this
theorem fold_eq (a b : ByteArray) (ha : a.size < 1048577) (hb : b.size < 1048577) : units_Fold.f a b = some ((lower a).toList == (lower b).toList) := by
  unfold units_Fold.f
  rw [lower_eq a ha, lower_eq b hb]
  rfl

/-! ### Set -/
noncomputable instance memDec (x : ByteArray) (l : List ByteArray) : Decidable (x ∈ l) := Classical.propDecidable _
noncomputable def setL : List ByteArray → List ByteArray → List ByteArray
  | acc, [] => acc
  | acc, x :: xs => if x ∈ acc then setL acc xs else setL (acc ++ [x]) xs
theorem setL_snoc : ∀ (l acc : List ByteArray) (x : ByteArray), setL acc (l ++ [x]) = if x ∈ setL acc l then setL acc l else setL acc l ++ [x]
  | [], acc, x => by by_cases h : x ∈ acc <;> simp [setL, h]
  | y :: l, acc, x => by
    rw [List.cons_append]
    unfold setL
    split
    · exact setL_snoc l acc x
    · exact setL_snoc l _ x
theorem setL_mem : ∀ (l acc : List ByteArray) (x : ByteArray), x ∈ setL acc l ↔ x ∈ acc ∨ x ∈ l
  | [], acc, x => by simp [setL]
  | y :: l, acc, x => by
    unfold setL
    split
    · rename_i h
      rw [setL_mem l acc x]
      refine ⟨fun e => e.elim .inl (fun e => .inr (List.mem_cons_of_mem _ e)), fun e => e.elim .inl (fun e => ?_)⟩
      rcases List.mem_cons.1 e with e | e
      · subst e; exact .inl h
      · exact .inr e
    · rw [setL_mem l _ x]
      simp [or_assoc]
theorem setL_nodup : ∀ (l acc : List ByteArray), acc.Nodup → (setL acc l).Nodup
  | [], acc, h => h
  | y :: l, acc, h => by
    unfold setL
    split
    · exact setL_nodup l acc h
    · rename_i hy
      refine setL_nodup l _ ?_
      rw [List.nodup_append]
      refine ⟨h, by simp, fun a ha b hb => ?_⟩
      have : b = y := by simpa using hb
      subst this
      intro e
      subst e
      exact hy ha
theorem setL_id : ∀ (l acc : List ByteArray), (acc ++ l).Nodup → setL acc l = acc ++ l
  | [], acc, _ => by simp [setL]
  | y :: l, acc, h => by
    have hy : y ∉ acc := by
      intro hm
      rw [List.nodup_append] at h
      exact h.2.2 y hm y (List.mem_cons_self ..) rfl
    unfold setL
    rw [if_neg hy, setL_id l _ (by rw [List.append_assoc]; exact h), List.append_assoc]
    rfl
theorem setL_length : ∀ (l acc : List ByteArray), (setL acc l).length ≤ acc.length + l.length
  | [], acc => by simp [setL]
  | y :: l, acc => by
    unfold setL
    split
    · have := setL_length l acc; simp; omega
    · have := setL_length l (acc ++ [y]); simp at this ⊢; omega
theorem cnt_zero (xs : List ByteArray) (x : ByteArray) : cntOf xs (.string x.data.toList) = 0 ↔ x ∉ xs := by
  unfold cntOf
  rw [show (0 : Int) = ((0 : Nat) : Int) from rfl, Int.ofNat_inj, List.length_eq_zero_iff, List.filter_eq_nil_iff]
  refine ⟨fun h hx => h x hx (WideAt.sameKey_self (a := Lit.string x.data.toList) trivial), fun h s hs e => h ?_⟩
  have := WideAt.sameKey_eq e
  injection this with this
  rw [← ba_ext this]
  exact hs
theorem setUpto_eq (l : List ByteArray) : ∀ i, i ≤ l.length → setUpto l i = setL [] (l.take i)
  | 0, _ => rfl
  | i + 1, h => by
    have hi : i < l.length := by omega
    have e : rdOf ByteArray.empty l (i : Int) = l[i] := by simp [rdOf, List.getD_eq_getElem?_getD, hi]
    unfold setUpto
    rw [e, List.take_succ_eq_append_getElem hi, setL_snoc, setUpto_eq l i (by omega)]
    have hm := setL_mem (l.take i) [] l[i]
    by_cases hc : l[i] ∈ l.take i
    · rw [if_neg (fun e => (cnt_zero _ _).1 e hc), if_pos (hm.2 (.inr hc))]
    · rw [if_pos ((cnt_zero _ _).2 hc), if_neg (fun e => (hm.1 e).elim (by simp) hc)]
theorem set_eq (l : List ByteArray) (hl : l.length < 1048577) (hs : ∀ s ∈ l, s.size < 1048577) : units_Set.f l = some (setL [] l) := by
  unfold units_Set.f
  rw [if_pos ⟨by omega, fun s h => by have := hs s h; unfold maxLen; omega⟩, setUpto_eq l l.length (Nat.le_refl _), List.take_length]
theorem has_loop (x : ByteArray) (l : List ByteArray) (hl : l.length < 2000000) : ∀ (d i : Nat), l.length - i ≤ d → i ≤ l.length → Ev (fun k => canopyref01_Has.l0 k x l (l.length : Int) i) (decide (x ∈ l.drop i)) := by
  intro d
  induction d with
  | zero =>
    intro i hd hi
    refine Ev.step (fun _ => canopyref01_Has.l0.eq_2 ..) (Ev.ite_neg (by omega) ?_)
    rw [List.drop_of_length_le (by omega)]
    simp
    exact Ev.now _
  | succ d ih =>
    intro i hd hi
    refine Ev.step (fun _ => canopyref01_Has.l0.eq_2 ..) ?_
    by_cases h : i < l.length
    · rw [rdS_drop l i h]
      refine Ev.ite_pos (by omega) (Ev.ite_pos (by omega) (Ev.ite_pos (by omega) ?_))
      by_cases he : rdOf ByteArray.empty l (i : Int) = x
      · rw [decide_eq_true (List.mem_cons.2 (.inl he.symm))]
        exact Ev.ite_pos (by rw [he]) (Ev.now _)
      · have : (decide (x ∈ rdOf ByteArray.empty l (i : Int) :: l.drop (i + 1))) = decide (x ∈ l.drop (i + 1)) := by
          rw [decide_eq_decide, List.mem_cons]
          exact ⟨fun e => e.elim (fun e => absurd e.symm he) id, .inr⟩
        rw [this, wrap64_id (by omega) (by omega)]
        exact Ev.ite_neg (fun e => he ((toList_inj _ _).1 e)) (ih (i + 1) (by omega) (by omega))
    · refine Ev.ite_neg (by omega) ?_
      rw [List.drop_of_length_le (by omega)]
      simp
      exact Ev.now _
theorem has_spec (l : List ByteArray) (x : ByteArray) (hl : l.length < 2000000) : Ev (fun k => canopyref01_Has.f k l x) (decide (x ∈ l)) := has_loop x l hl l.length 0 (by omega) (by omega)
theorem refset_loop (l : List ByteArray) (hl : l.length < 1048577) : ∀ (d i : Nat) (acc : List ByteArray), l.length - i ≤ d → i ≤ l.length → acc.length + d < 2000000 → Ev (fun k => canopyref01_Set.l0 k acc l (l.length : Int) i) (setL acc (l.drop i)) := by
  intro d
  induction d with
  | zero =>
    intro i acc hd hi ha
    refine Ev.step (fun _ => canopyref01_Set.l0.eq_2 ..) (Ev.ite_neg (by omega) ?_)
    rw [List.drop_of_length_le (by omega)]
    exact Ev.now _
  | succ d ih =>
    intro i acc hd hi ha
    refine Ev.step (fun _ => canopyref01_Set.l0.eq_2 ..) ?_
    by_cases h : i < l.length
    · rw [rdS_drop l i h]
      unfold setL
      rw [wrap64_id (by omega) (by omega)]
      refine Ev.ite_pos (by omega) (Ev.ite_pos (by omega) (Ev.ite_pos (by omega) (Ev.bind (has_spec acc _ (by omega)) ?_)))
      by_cases hm : rdOf ByteArray.empty l (i : Int) ∈ acc
      · rw [if_pos hm, decide_eq_true hm]
        exact Ev.ite_pos rfl (ih (i + 1) acc (by omega) (by omega) (by omega))
      · rw [if_neg hm, decide_eq_false hm]
        exact Ev.ite_neg (by simp) (Ev.ite_pos (by omega) (ih (i + 1) _ (by omega) (by omega) (by rw [List.length_append, List.length_singleton]; omega)))
    · refine Ev.ite_neg (by omega) ?_
      rw [List.drop_of_length_le (by omega)]
      exact Ev.now _
theorem refset_spec (l : List ByteArray) (hl : l.length < 1048577) : Ev (fun k => canopyref01_Set.f k l) (setL [] l) := refset_loop l hl l.length 0 [] (by omega) (by omega) (by simp; omega)

/-! ### Strip -/
theorem empty_iff (s : ByteArray) : s.toList = ([] : List UInt8) ↔ s.size = 0 := by
  rw [bytes_toList, ← data_len, List.length_eq_zero_iff]
theorem strip_l1 : ∀ (k : Nat) (s : ByteArray), units_Strip.l1 k s = canopyref01_Strip.l1 k s
  | 0, s => by rw [units_Strip.l1, canopyref01_Strip.l1]
  | k + 1, s => by
    rw [units_Strip.l1, canopyref01_Strip.l1, blank_eq, refblank_eq, strip_l1 k]
    by_cases h : s.size = 0
    · rw [if_pos ((empty_iff s).2 h), if_neg (show ¬ (s.size : Int) > 0 by omega)]
    · rw [if_neg (fun e => h ((empty_iff s).1 e)), if_pos (show (s.size : Int) > 0 by omega)]
theorem strip_j1 : ∀ (k : Nat) (s : ByteArray), units_Strip.j1 k s = canopyref01_Strip.j1 k s
  | 0, s => by rw [units_Strip.j1, canopyref01_Strip.j1]
  | k + 1, s => by rw [units_Strip.j1, canopyref01_Strip.j1, strip_l1]
theorem strip_l0 : ∀ (k : Nat) (s : ByteArray), units_Strip.l0 k s = canopyref01_Strip.l0 k s
  | 0, s => by rw [units_Strip.l0, canopyref01_Strip.l0]
  | k + 1, s => by
    rw [units_Strip.l0, canopyref01_Strip.l0, blank_eq, refblank_eq, strip_l0 k, strip_j1 k]
    by_cases h : s.size = 0
    · rw [if_pos ((empty_iff s).2 h), if_neg (show ¬ (s.size : Int) > 0 by omega)]
    · have hp : 0 < (s.size : Int) := by omega
      rw [if_neg (fun e => h ((empty_iff s).1 e))]
      simp only [gt_iff_lt, if_pos hp]
theorem strip_eq (k : Nat) (s : ByteArray) : units_Strip.f k s = canopyref01_Strip.f k s := strip_l0 k s
theorem strip_end : ∀ (n : Nat) (s : ByteArray), s.size ≤ n → n < 2000000 → ∃ r, Ev (fun k => units_Strip.l1 k s) r
  | n, s, h, hn => by
    by_cases he : s.size = 0
    · exact ⟨s, Ev.step (fun _ => units_Strip.l1.eq_2 ..) (Ev.ite_pos ((empty_iff s).2 he) (Ev.now _))⟩
    · obtain ⟨n, rfl⟩ : ∃ m, n = m + 1 := ⟨n - 1, by omega⟩
      by_cases hb : blankB (bt s ((s.size : Int) - 1)) = true
      · obtain ⟨r, hr⟩ := strip_end n (s.extract 0 ((s.size : Int) - 1).toNat) (by simp; omega) (by omega)
        refine ⟨r, Ev.step (fun _ => units_Strip.l1.eq_2 ..) (Ev.ite_neg (fun e => he ((empty_iff s).1 e)) ?_)⟩
        rw [wrap64_id (by omega) (by omega), blank_eq]
        simp only [Option.bind_some]
        exact Ev.ite_pos (by omega) (Ev.ite_pos (by omega) (Ev.ite_pos hb (Ev.ite_pos (by omega) hr)))
      · refine ⟨s, Ev.step (fun _ => units_Strip.l1.eq_2 ..) (Ev.ite_neg (fun e => he ((empty_iff s).1 e)) ?_)⟩
        rw [wrap64_id (by omega) (by omega), blank_eq]
        simp only [Option.bind_some]
        exact Ev.ite_pos (by omega) (Ev.ite_pos (by omega) (Ev.ite_neg hb (Ev.now _)))
theorem strip_ends : ∀ (n : Nat) (s : ByteArray), s.size ≤ n → n < 2000000 → ∃ r, Ev (fun k => units_Strip.l0 k s) r
  | n, s, h, hn => by
    obtain ⟨r1, hr1⟩ := strip_end n s h hn
    have hj : Ev (fun k => units_Strip.j1 k s) r1 := Ev.step (fun _ => units_Strip.j1.eq_2 ..) hr1
    by_cases he : s.size = 0
    · exact ⟨r1, Ev.step (fun _ => units_Strip.l0.eq_2 ..) (Ev.ite_pos ((empty_iff s).2 he) hj)⟩
    · obtain ⟨n, rfl⟩ : ∃ m, n = m + 1 := ⟨n - 1, by omega⟩
      by_cases hb : blankB (bt s 0) = true
      · obtain ⟨r, hr⟩ := strip_ends n (s.extract 1 s.size) (by simp; omega) (by omega)
        refine ⟨r, Ev.step (fun _ => units_Strip.l0.eq_2 ..) (Ev.ite_neg (fun e => he ((empty_iff s).1 e)) ?_)⟩
        rw [blank_eq]
        simp only [Option.bind_some]
        exact Ev.ite_pos (by omega) (Ev.ite_pos hb (Ev.ite_pos (by omega) hr))
      · refine ⟨r1, Ev.step (fun _ => units_Strip.l0.eq_2 ..) (Ev.ite_neg (fun e => he ((empty_iff s).1 e)) ?_)⟩
        rw [blank_eq]
        simp only [Option.bind_some]
        exact Ev.ite_pos (by omega) (Ev.ite_neg hb hj)
theorem strip_spec (s : ByteArray) (hs : s.size < 1048577) : ∃ r, Ev (fun k => units_Strip.f k s) r ∧ Ev (fun k => canopyref01_Strip.f k s) r := by
  obtain ⟨r, hr⟩ := strip_ends s.size s (Nat.le_refl _) (by omega)
  exact ⟨r, hr, Ev.congr (fun k => (strip_eq k s).symm) hr⟩
end Go.Proofs.Ytgjifcflkcpnlaa.Pure
