/- A map that the call makes and that counts: what it reads as is a function of the key. -/
import Derived.Maps.OwnSet
import Derived.Maps.OwnOps
import Derived.WalkKit
import Derived.Deep.Draws
namespace Go.Proofs.Ytgjifcflkcpnlaa.P
open Go.RowKit Go.Maps Go.WideMaps
variable {P : Program}

def CntMap (P : Program) (k e : TypeId) (W : World) (b n : Nat) (f : Lit → Int) : Prop :=
  ∃ D : DataW Unit, W.ownsMap P k (plainElem P e) b n D ∧ ∀ kl, D.atKey kl (.lit (.int .i64 0)) = .lit (.int .i64 (f kl))

theorem CntMap.made (k e : TypeId) (w : World) : CntMap P k e (w.alloc (.map #[] 0)) w.heap.size 0 (fun _ => 0) := by
  refine ⟨.map [], World.ownsMap_made _ _ _ _, fun kl => ?_⟩
  exact atKey_of_not_has rfl _

theorem CntMap.look {k e t : TypeId} {W : World} {b n : Nat} {f : Lit → Int} (h : CntMap P k e W b n f) (K : Keyed P k) (ht : P.underlying t = some (.map k e)) (he : P.underlying e = some (.int .i64)) (hz : (zeroValue e).run P W = .ok (.int .i64 0) W) {key : Value} {kl : Lit} (hkey : keyOf P k key = some kl) :
    (Instr.lookup t (.map (some b)) key false).run P W = .ok (.int .i64 (f kl)) W := by
  obtain ⟨D, hown, hD⟩ := h
  obtain ⟨c, hrun, hat, _⟩ := hown.lookup_int K ht he hz hkey
  rw [hD kl] at hat
  injection hat with hat
  injection hat with _ hat
  rw [hrun, hat]

theorem CntMap.grown {k e : TypeId} {W W' : World} {b n : Nat} {f : Lit → Int} {row : Option Nat} (h : CntMap P k e W b n f) (hg : W.grownBy W' row) (hne : some b ≠ row) : CntMap P k e W' b n f := by
  obtain ⟨D, hown, hD⟩ := h
  exact ⟨D, hown.kept hg hne, hD⟩
theorem CntMap.alloc {k e : TypeId} {W : World} {b n : Nat} {f : Lit → Int} (h : CntMap P k e W b n f) (o : Obj) : CntMap P k e (W.alloc o) b n f := h.grown (World.grownBy_alloc W o none) (by simp)
theorem CntMap.drewN {k e : TypeId} {W : World} {b n : Nat} {f : Lit → Int} (h : CntMap P k e W b n f) (m : Nat) : CntMap P k e (W.drewN m) b n f := h

theorem wpList_cnt {ops : Array Oper} {rest : List Oper} {o : Oper} {a : Act} {Q : Exit → Act → World → Prop} (W : World)
    (hg : o.guard = none) (m x v : Operand) (t : TypeId) (hop : o.op = Op.mapUpdate t m x v)
    (k e : TypeId) (K : Keyed P k) (ht : P.underlying t = some (.map k e)) (he : P.underlying e = some (.int .i64)) (b n : Nat) (f : Lit → Int)
    (hm : a.eval m = .map (some b)) (hown : CntMap P k e W b n f) (hn : n < maxLen) (key : Value) (kl : Lit) (c : Int) (hx : a.eval x = key) (hv : a.eval v = .int .i64 c) (hkey : keyOf P k key = some kl) (hwf : (Lit.int .i64 c).wf = true)
    (f' : Lit → Int) (hf1 : f' kl = c) (hf2 : ∀ l, l ≠ kl → f' l = f l)
    (hK : ∀ W', CntMap P k e W' b (n + 1) f' → W.grownBy W' (some b) → wpList P ops Q rest (a.put o.dst undef) W') :
    wpList P ops Q (o :: rest) a W := by
  obtain ⟨D, hown, hD⟩ := hown
  refine wpList_mapUpdate_own W hg m x v t hop k e K ht _ b n D hm hown hn key _ kl hx hv hkey (.lit (.int .i64 c)) [] (plainElem_int he hwf) ?_
  intro W' h1 h2
  refine hK W' ⟨_, h1, fun l => ?_⟩ h2
  by_cases e : l = kl
  · subst e
    rw [atKey_put_same hown.isMap (K.key hkey), hf1]
  · rw [atKey_put_other e, hD, hf2 l e]
end Go.Proofs.Ytgjifcflkcpnlaa.P
