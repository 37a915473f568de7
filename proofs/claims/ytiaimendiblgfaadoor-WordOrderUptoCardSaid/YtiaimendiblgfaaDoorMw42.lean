/- Texts that the proof of a law rests on, put together: part 42. -/
import Derived.Test.YtiaimendiblgfaaDoorMw41
import Derived.Test.YtiaimendiblgfaaDoorRows
namespace Go.Proofs.YtiaimendiblgfaaDoor
open Go Go.EV Go.RowKit Go.ChangeShapes Go.WideShapes
open Go.XW (Imm Fits DD RepV SL LeafOk leafB All2)
theorem bulk_pos {H : Type} (d : DataW H) : 1 ≤ Rows.uptoBulk d := by
  cases d with
  | lit l => cases l <;> simp [Rows.uptoBulk]
  | _ => simp [Rows.uptoBulk]
theorem bulkAll_len {H : Type} : ∀ l : List (DataW H), l.length ≤ Rows.uptoBulkAll l
  | [] => Nat.zero_le _
  | d :: r => by
    have h1 := bulkAll_len r
    have h2 := bulk_pos d
    rw [Rows.uptoBulkAll, List.length_cons]; omega
theorem bulk_arg {H : Type} {enc : TypeId × Value → H} {P : Program} {W : World} {base : Nat} {spare : Nat → Bool} {held : Bool} {t e : TypeId} {k : IntKind} {d : DataW H} {ps : List MemPlace} {x : List Int} {v : Value}
    (hu : P.underlying t = some (.slice e)) (he : P.underlying e = some (.int k)) (hc : P.cellsOf e = 1)
    (g : ArgIs W.cell? (.sl (.int k)) x v) (h : DataW.Trod enc P W base spare held t v d ps) : x.length ≤ Rows.uptoBulk d := by
  have g : All2 W.cell? (Ty.dd (.sl (.int k)) x) [v] := g
  have hb := g.back
  have h0 := hb.2 0 _ v rfl rfl
  obtain ⟨A, c, rfl, _⟩ := XW.SL_len h0
  obtain ⟨fuel, hf⟩ := h
  rcases open_ints hu he hc hf with ⟨hcs, _⟩ | ⟨y, l, c, zs, hcs, _, hl, _, hz, hx, _, _⟩
  · simp only [Value.cells, List.cons.injEq, Value.slice.injEq, and_true] at hcs
    obtain ⟨_, h1, _⟩ := hcs
    omega
  · simp only [Value.cells, List.cons.injEq, Value.slice.injEq, and_true] at hcs
    obtain ⟨_, h1, h2⟩ := hcs
    obtain ⟨hd, _⟩ := Prod.mk.inj hx
    subst hd
    have h3 := bulkAll_len (lits (H := H) k (zs.take l))
    have h4 : (lits (H := H) k (zs.take l)).length = min l zs.length := by simp [lits]
    have h5 : l ≤ zs.length := by
      rw [hz]
      split
      · exact hl
      · exact Nat.le_refl _
    rw [Rows.uptoBulk]
    omega
end Go.Proofs.YtiaimendiblgfaaDoor
