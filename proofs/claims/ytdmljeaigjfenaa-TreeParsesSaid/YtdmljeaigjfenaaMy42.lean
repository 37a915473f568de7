/- Texts that the proof of a law rests on, put together: part 42. -/
import Derived.Test.YtdmljeaigjfenaaMy41
import Derived.Laws.BitsLemmas
namespace Go.EV
open Go
set_option linter.unusedVariables false
theorem Tree.eta : ∀ t : Tree, Tree.mk t.sym t.prod t.kids = t
  | .mk _ _ _ => rfl
def eT (t : Tree) : Tree := .mk t.sym t.prod t.kids
theorem eT_eq (t : Tree) : eT t = t := Tree.eta t
theorem wrapI64 {x : Int} (h : -9223372036854775808 ≤ x) (h2 : x ≤ 9223372036854775807) : IntKind.i64.wrap x = x := by
  rw [IntKind.wrap_i64]; omega
mutual
def depthT : Tree → Nat
  | .mk _ _ ks => depthsT ks + 1
def depthsT : List Tree → Nat
  | [] => 0
  | k :: r => Nat.max (depthT k) (depthsT r)
end
theorem depthT_pos (t : Tree) : ¬ depthT t ≤ 0 := by cases t; simp [depthT]
theorem depthT_kids {d : Nat} {t : Tree} (h : depthT t ≤ d + 1) : depthsT t.kids ≤ d := by cases t; simpa [depthT, Tree.kids] using h
theorem depthsT_le {d : Nat} (x : Tree) : ∀ {l : List Tree} (_ : depthsT l ≤ d) (i : Nat), i < l.length → depthT (l.getD i x) ≤ d
  | [], _, i, hi => by simp at hi
  | k :: r, h, 0, _ => by simp only [depthsT] at h; simpa using Nat.le_trans (Nat.le_max_left _ _) h
  | k :: r, h, i + 1, hi => by
    simp only [depthsT] at h
    simpa using depthsT_le x (Nat.le_trans (Nat.le_max_right _ _) h) i (by simpa using hi)
theorem drop_getD {α : Type} (d : α) : ∀ (l : List α) (i : Nat), i < l.length → l.drop i = l.getD i d :: l.drop (i + 1)
  | [], i, h => by simp at h
  | a :: r, 0, _ => by simp
  | a :: r, i + 1, h => by simpa using drop_getD d r i (by simpa using h)
theorem take_getD {α : Type} {d : α} {n : Nat} : ∀ {l : List α} {i : Nat}, i < n → (l.take n).getD i d = l.getD i d := by
  intro l i h
  rw [List.getD_eq_getElem?_getD, List.getD_eq_getElem?_getD, List.getElem?_take, if_pos h]
theorem drop_int {α : Type} (d : α) {l : List α} {i : Int} (h0 : 0 ≤ i) (h : i < (l.length : Int)) : l.drop i.toNat = l.getD i.toNat d :: l.drop (i + 1).toNat := by
  rw [show (i + 1).toNat = i.toNat + 1 by omega]
  exact drop_getD d l i.toNat (by omega)
theorem drop_int_end {α : Type} {l : List α} {i : Int} (h : ¬ i < (l.length : Int)) : l.drop i.toNat = [] := List.drop_eq_nil_of_le (by omega)
end Go.EV
namespace Go.EV
open Lean.Parser.Tactic
end Go.EV
namespace Go.EV
end Go.EV
namespace Go.TL
open Go.EV
set_option hygiene false in
def inI (n : Int) : Prop := -4611686018427387904 ≤ n ∧ n ≤ 4611686018427387904
mutual
/-- Numbers in a tree are not near the ends. -/
def okT : Tree → Prop
  | .mk s p ks => inI s ∧ inI p ∧ okTs ks
def okTs : List Tree → Prop
  | [] => True
  | k :: r => okT k ∧ okTs r
end
theorem okTs_get {x : Tree} : ∀ {l : List Tree} (_ : okTs l) (i : Nat), i < l.length → okT (l.getD i x)
  | [], _, i, hi => by simp at hi
  | k :: r, h, 0, _ => by simpa using h.1
  | k :: r, h, i + 1, hi => by simpa using okTs_get h.2 i (by simpa using hi)
theorem okT_sym {t : Tree} (h : okT t) : inI t.sym := by cases t; exact h.1
theorem okT_kids {t : Tree} (h : okT t) : okTs t.kids := by cases t; exact h.2.2
end Go.TL
