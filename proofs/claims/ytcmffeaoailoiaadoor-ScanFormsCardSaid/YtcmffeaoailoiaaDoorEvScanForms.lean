/- What the call of ScanForms yields, whichever truth value comes in. -/
import Derived.Test.YtcmffeaoailoiaaDoorMScanForms
namespace Go.Proofs.YtcmffeaoailoiaaDoor.E
open Go Go.EV Go.RowKit Go.Proofs
theorem int_range {k : IntKind} {n : Int} (h : (Lit.int k n).wf = true) : k.min ≤ n ∧ n ≤ k.max := by
  simpa [Lit.wf] using h
/-- Behind a contract that yields true alone. -/
theorem true_of {P : Program} {f : FuncId} {args : List AV} {vs : List Value} (h : Contract P (f, args, [.lit (.bool true)])) {W : World} (hD : Dens C0 args vs) :
    Calls P f vs.toArray W (fun e W' => e = .returned (.bool true) ∧ Below W.heap.size W W') :=
  (h C0 W vs hD).mono fun e W' he => by
    obtain ⟨d, hd, v, rfl, hv, hB⟩ := he
    obtain rfl := List.mem_singleton.1 hd
    have := hv C0
    cases this
    exact ⟨rfl, hB⟩
theorem scanForms_in (_ : Bool) : True := trivial
theorem scanForms.calls (a : Bool) {I : Addr → Option Value} {W : World} (_ : ∀ a v, I a = some v → W.cell? a = some v) (_ : True) :
    Calls Tryd.prog 3 #[.bool a] W (fun e W' => e = .returned (.bool true) ∧ Below W.heap.size W W') := by
  cases a with
  | false => exact true_of formsF (vs := [.bool false]) ((Dens.nil C0).cons (.lit _))
  | true => exact true_of formsT (vs := [.bool true]) ((Dens.nil C0).cons (.lit _))
end Go.Proofs.YtcmffeaoailoiaaDoor.E
