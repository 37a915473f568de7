/- From a row's reading of an argument to what the walks ask. -/
import Derived.Test.YthcikoecegiifaaDoorXTab
import Derived.OpenShut
namespace Go.XW
theorem int_range {k : IntKind} {n : Int} (h : (Lit.int k n).wf = true) : k.min ≤ n ∧ n ≤ k.max := by
  simpa [Lit.wf] using h
end Go.XW
