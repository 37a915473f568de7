/- From a row's reading of an argument to what the walks ask. -/
import Derived.Test.YthcikoecegiifaaDoorXTab
import Derived.OpenShut
import Derived.SizedLaws
import Derived.ChangeSlices
namespace Go.XW
open Go.ChangeShapes Go.WideShapes
theorem int_range {k : IntKind} {n : Int} (h : (Lit.int k n).wf = true) : k.min ≤ n ∧ n ≤ k.max := by
  simpa [Lit.wf] using h
section
variable {H : Type} {enc : TypeId × Value → H} {P : Program} {W : World} {base : Nat} {spare : Nat → Bool} {held : Bool} {t e : TypeId} {k : IntKind} {A : Option Addr} {len cap : Nat} {d : DataW H} {ps : List MemPlace}
/-- A slice of whole numbers came in: it is read. -/
theorem ints_rep (ht : P.underlying t = some (.slice e)) (he : P.underlying e = some (.int k)) (hc : P.cellsOf e = 1) (h : DataW.Trod enc P W base spare held t (.slice A len cap) d ps) :
    ∃ l : List Int, RepV W.cell? (SL 1 (XI k) l) (.slice A len cap) ∧ (∀ x ∈ l, k.min ≤ x ∧ x ≤ k.max) ∧ l.length = len := by
  obtain ⟨fuel, hf⟩ := h
  rcases open_ints ht he hc hf with ⟨hcs, _⟩ | ⟨x, l, c, zs, hcs, _, hl, hm, hz, _, hcell, hwz⟩
  · simp only [Value.cells, List.cons.injEq, Value.slice.injEq, and_true] at hcs
    obtain ⟨rfl, rfl, rfl⟩ := hcs
    exact ⟨[], .nil _ _, by simp, rfl⟩
  · simp only [Value.cells, List.cons.injEq, Value.slice.injEq, and_true] at hcs
    obtain ⟨rfl, rfl, rfl⟩ := hcs
    have hlen : (zs.take len).length = len := by
      rw [List.length_take, hz]
      split <;> omega
    refine ⟨zs.take len, ?_, fun y hy => int_range (hwz y (List.mem_of_mem_take hy)), hlen⟩
    have hm' : ((zs.take len).map (XI k)).length = len := by rw [List.length_map, hlen]
    have := RepV.sl (I := W.cell?) (e := 1) (rows := (zs.take len).map (XI k)) (ad := x) (c := cap) (by rw [hm']; exact hl) (by simpa [maxLen] using hm) (fun i _ => .int k (zs.getD i 0)) (fun i j r d hr hd => ?_) (fun i j r d hr hd => ?_)
    · rw [hm'] at this; exact this
    · obtain ⟨y, hy, rfl⟩ := Option.map_eq_some_iff.1 (by rw [List.getElem?_map] at hr; exact hr)
      have hj : j = 0 := by
        match j, hd with
        | 0, _ => rfl
      subst hj
      have hi : i < zs.length := by
        have := (List.getElem?_eq_some_iff.1 hy).1
        rw [List.length_take] at this; omega
      rw [Nat.mul_one, Nat.add_zero]
      exact hcell i hi
    · obtain ⟨y, hy, rfl⟩ := Option.map_eq_some_iff.1 (by rw [List.getElem?_map] at hr; exact hr)
      match j, hd with
      | 0, hd =>
        simp only [List.getElem?_cons_zero, Option.some.injEq] at hd
        subst hd
        rw [List.getElem?_take] at hy
        split at hy
        · simp only [List.getD, hy, Option.getD_some]; exact .val _
        · cases hy
/-- It is no longer than its weight allows. -/
theorem sized_ints {ts : List TypeId} {ds : List (DataW H)} {j : Nat} (hsz : (DataW.weightsEach P ts ds).all (· ≤ reachBytes) = true) (hj : ts[j]? = some t) (hd : ds[j]? = some d) (hu : P.underlying t = some (.slice e)) (he : P.underlying e = some (.int k)) (hc : P.cellsOf e = 1) {B : Nat} (hB : P.bytesOf e = B)
    (h : DataW.Trod enc P W base spare held t (.slice A len cap) d ps) : len * B ≤ 140737488351232 := by
  obtain ⟨fuel, hf⟩ := h
  rcases open_ints hu he hc hf with ⟨hcs, _⟩ | ⟨x, l, c, zs, hcs, _, hl, _, hz, hx, _, _⟩
  · simp only [Value.cells, List.cons.injEq, Value.slice.injEq, and_true] at hcs
    obtain ⟨rfl, rfl, rfl⟩ := hcs
    simp
  · simp only [Value.cells, List.cons.injEq, Value.slice.injEq, and_true] at hcs
    obtain ⟨rfl, rfl, rfl⟩ := hcs
    obtain ⟨hx, _⟩ := Prod.mk.inj hx
    subst hx
    have z := sized_slice hsz hj hd hu
    rw [hB] at z
    have hl2 : len ≤ zs.length := by
      rw [hz]
      split
      · exact hl
      · exact Nat.le_refl _
    have h1 : (lits (H := H) k (zs.take len)).length + (lits (H := H) k (zs.drop len)).length = zs.length := by
      simp [lits]
      omega
    rw [h1] at z
    exact Nat.le_trans (Nat.mul_le_mul_right _ hl2) z
end
end Go.XW
