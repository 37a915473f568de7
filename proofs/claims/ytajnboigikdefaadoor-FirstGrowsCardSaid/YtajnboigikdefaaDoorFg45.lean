/- Texts that the proof of a law rests on, put together: part 45. -/
import Derived.Test.YtajnboigikdefaaDoorFg44
import Derived.Deep.DeepBigQuietO
import Derived.Deep.Draws
import Derived.Handy
import Derived.Laws.Runes
import Derived.Shelf.Small.Utf8
import Derived.Shelf.Strings.IndexAnyAll
import Derived.WalkMore
namespace Go.EV
open Go Go.Shelf Go.RowKit Go.Lib Go.Proofs
open Go.XW (Fits)
set_option linter.unusedVariables false
set_option linter.unusedSimpArgs false
section
variable {P : Program} {ρ : Ren}
end
theorem fn_lib {P : Program} {f : FuncId} {ps : List Sh} {pre : dens ps → Option Prop} {t : Ty} {val : dens ps → t.den} (hbk : ∀ x, bookM (rws ps x) (bxs 0 ps x) True = bookM [] [] True) (hn : nbx ps = 0)
    (h : ∀ (x : dens ps) (C : Cx) (vs : List Value) (w : World), holds (pre x) → Dens C (avs 0 (bns ps) ps x) vs → Calls P f vs.toArray w (fun e w' => ∃ u, e = .returned u ∧ Below w.heap.size w w' ∧ ∀ C', Den C' (t.arg (val x)) u)) :
    FnOk P ⟨f, ps, pre, [⟨false, [.v t], val, fun _ => none⟩]⟩ := by
  intro base C w vs x hM hat hD hp
  have hM : SMem C (bookM (rws ps x) (bxs 0 ps x) True) base w := hM
  rw [hbk x] at hM
  have hat : ∀ b v loc, C.at_ b v = some loc → v = 0 ∧ b < nbx ps := hat
  have hat0 : ∀ b v loc, C.at_ b v ≠ some loc := fun b v loc hl => by have := (hat b v loc hl).2; omega
  refine (h x C vs w hp hD).mono fun e w' he => ?_
  obtain ⟨u, rfl, hB, hu⟩ := he
  have hfit : Fits C.unk.imm w' := hM.fits.below hB
  refine ⟨_, List.mem_singleton_self _, trivial, C00 C.unk.imm, [u], ?_, .cons (hu _) (.nil _), ?_⟩
  · show LStep C (C00 C.unk.imm) (bookM [] [] True) base w w'
    exact ⟨fun b v loc hl => absurd hl (hat0 b v loc), C00_mem hfit (Nat.le_trans hM.mem.base hB.size) trivial, fun a v ha => ha, hB.mono hM.mem.base, fun k hk _ => ⟨hB.block k hk, ⟨fun b v loc hl => (by simp [C0, C00] at hl), fun r v hv => (by simp [C00] at hv)⟩, fun a ha => rfl⟩⟩
  · show EndOk false (oneV (dropA (nbx ps) [u])) (.returned u)
    rw [hn]; rfl
end Go.EV
