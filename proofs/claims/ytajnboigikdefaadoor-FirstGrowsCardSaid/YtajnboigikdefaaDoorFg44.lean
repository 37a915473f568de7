/- Texts that the proof of a law rests on, put together: part 44. -/
import Derived.Test.YtajnboigikdefaaDoorFg43
import Derived.Laws.BitsLemmas
namespace Go.EV
open Go
set_option linter.unusedVariables false
theorem wrapI64 {x : Int} (h : -9223372036854775808 ≤ x) (h2 : x ≤ 9223372036854775807) : IntKind.i64.wrap x = x := by
  rw [IntKind.wrap_i64]; omega
theorem drop_getD {α : Type} (d : α) : ∀ (l : List α) (i : Nat), i < l.length → l.drop i = l.getD i d :: l.drop (i + 1)
  | [], i, h => by simp at h
  | a :: r, 0, _ => by simp
  | a :: r, i + 1, h => by simpa using drop_getD d r i (by simpa using h)
theorem take_getD {α : Type} {d : α} {n : Nat} : ∀ {l : List α} {i : Nat}, i < n → (l.take n).getD i d = l.getD i d := by
  intro l i h
  rw [List.getD_eq_getElem?_getD, List.getD_eq_getElem?_getD, List.getElem?_take, if_pos h]
theorem drop_int {α : Type} (d : α) {l : List α} {i : Int} (h0 : 0 ≤ i) (h : i < (l.length : Int)) : l.drop i.toNat = l.getD i.toNat d :: l.drop (i + 1).toNat := by
  rw [show (i + 1).toNat = i.toNat + 1 by omega]
  exact drop_getD d l i.toNat (by omega)
theorem drop_int_end {α : Type} {l : List α} {i : Int} (h : ¬ i < (l.length : Int)) : l.drop i.toNat = [] := List.drop_eq_nil_of_le (by omega)
end Go.EV
namespace Go.EV
open Lean.Parser.Tactic
end Go.EV
namespace Go.EV
end Go.EV
namespace Go.TL
open Go.EV
end Go.TL
