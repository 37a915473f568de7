/- What the call of DeriveErrors yields, whatever comes in. -/
import Derived.Test.YtdahingnadnonaaDoorEDeriveErrors
namespace Go.Proofs.YtdahingnadnonaaDoor.E
open Go Go.EV Go.RowKit Go.Proofs
set_option linter.unusedVariables false
theorem int_range {k : IntKind} {n : Int} (h : (Lit.int k n).wf = true) : k.min ≤ n ∧ n ≤ k.max := by
  simpa [Lit.wf] using h
/-- Behind a contract that yields true alone. -/
theorem true_of {P : Program} {f : FuncId} {args : List AV} {n : Nat} {vs : List Value} (h : Contract P (f, args, List.replicate n (.lit (.bool true)))) {W : World} (hD : Dens C0 args vs) :
    Calls P f vs.toArray W (fun e W' => e = .returned (.bool true) ∧ Below W.heap.size W W') :=
  (h C0 W vs hD).mono fun e W' he => by
    obtain ⟨d, hd, v, rfl, hv, hB⟩ := he
    obtain rfl := List.eq_of_mem_replicate hd
    have := hv C0
    cases this
    exact ⟨rfl, hB⟩
theorem deriveErrors_in (a : Int) (ha : IntKind.min .i64 ≤ a ∧ a ≤ IntKind.max .i64) : (IntKind.min .i64 ≤ a ∧ a ≤ IntKind.max .i64) := ha
theorem deriveErrors.calls (a : Int) {I : Addr → Option Value} {W : World} (_ : ∀ a v, I a = some v → W.cell? a = some v) (h : (IntKind.min .i64 ≤ a ∧ a ≤ IntKind.max .i64)) :
    Calls Tryd.prog 4 #[.int .i64 a] W (fun e W' => e = .returned (.bool true) ∧ Below W.heap.size W W') := by
  have ha := h
  exact true_of deriveErrors (vs := [.int .i64 a]) (Dens.cons (.any ha) (Dens.nil C0))
end Go.Proofs.YtdahingnadnonaaDoor.E
