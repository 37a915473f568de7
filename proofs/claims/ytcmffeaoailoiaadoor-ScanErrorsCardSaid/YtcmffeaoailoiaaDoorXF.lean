/- What the functions named below compute, told as Lean functions, and for each a walk that shows it. -/
import Derived.Test.YtcmffeaoailoiaaDoorProg
import Derived.Test.YtcmffeaoailoiaaDoorXCtl
import Derived.Test.YtcmffeaoailoiaaDoorXTab
namespace Go.Proofs.YtcmffeaoailoiaaDoor.X
open Go Go.XW Go.RowKit Go.Proofs
set_option linter.unusedVariables false
set_option linter.unusedSimpArgs false


/-! ### exegetekeep_Within: function 10 -/
def exegetekeep_Within.f (a0 : Int) (a1 : Int) : Option (Int) := if decide (a1 < 1) then (some (0)) else (chk (a1 ≠ (0 : Int)) (if decide ((a0.tmod a1) < 0) then (some (IntKind.i64.wrap ((a0.tmod a1) + a1))) else (some (a0.tmod a1))))
set_option maxRecDepth 100000 in
set_option maxHeartbeats 4000000 in
theorem exegetekeep_Within.calls (a0 : Int) (a1 : Int) {I : Imm} {W : World} (hF : Fits I W) {r : Int} (H : exegetekeep_Within.f a0 a1 = some r) :
    Calls Tryd.prog 10 #[.int .i64 a0, .int .i64 a1] W (EndS (.int .i64 r) W) := by
  unfold exegetekeep_Within.f at H
  refine enterL (l := [.int .i64 a0, .int .i64 a1]) Tryd.func10 rfl 17 rfl (by kernel_rfl) (fun a_ hS => ?_)
  have hB := Below.refl W.heap.size W
  refine wp_seq ?_
  refine L_region [0] (by kernel_rfl) ?_
  refine L_pure hS [0] [] [0, 1, 4] [(0, .int .i64 a0), (1, .int .i64 a1), (4, .int .i64 0)] (by kernel_rfl) (fun a_ hS => ?_)
  refine L_end ?_
  refine wp_seq ?_
  refine wp_seq ?_
  refine L_region [0, 1] (by kernel_rfl) ?_
  refine L_pure hS [0, 1] [] [0, 1, 4, 7] [(0, .int .i64 a0), (1, .int .i64 a1), (4, .int .i64 0), (7, .bool (decide (a1 < 1)))] (by kernel_rfl) (fun a_ hS => ?_)
  refine L_end ?_
  refine c_cond hS (c := .tmp 7) rfl (fun hb => ?_) (fun hb => ?_)
  · rw [if_pos hb] at H
    refine wp_seq ?_
    refine L_region [0] (by kernel_rfl) ?_
    refine L_pure hS [0] [] [0, 1, 4] [(0, .int .i64 a0), (1, .int .i64 a1), (4, .int .i64 0)] (by kernel_rfl) (fun a_ hS => ?_)
    refine L_end ?_
    refine wp_ret ?_
    obtain rfl := Option.some.inj H
    refine bodyPost_ret (results_tmp rfl _ _ _) hS.defers ?_
    rw [hS.getD (t := 4) rfl]
    exact ⟨rfl, hB⟩
  · rw [if_neg (nt hb)] at H
    refine wp_skip ?_
    refine wp_seq ?_
    refine L_region [0, 1, 2, 3] (by kernel_rfl) ?_
    refine L_pure hS [0, 1] [2, 3] [1, 4, 8, 9] [(1, .int .i64 a1), (4, .int .i64 0), (8, .int .i64 a0), (9, .int .i64 a1)] (by kernel_rfl) (fun a_ hS => ?_)
    obtain ⟨hc1, H⟩ := chk_elim H
    refine L_yld hS 2 (.int .i64 (a0.tmod a1)) rfl (by kernel_rfl) hF (y_div hS _ rfl rfl rfl hc1 (.inr ⟨rfl, rfl⟩)) rfl ?_; intro a_ hS
    refine L_pure hS [3] [] [1, 4, 5] [(1, .int .i64 a1), (4, .int .i64 0), (5, .int .i64 (a0.tmod a1))] (by kernel_rfl) (fun a_ hS => ?_)
    refine L_end ?_
    refine wp_seq ?_
    refine wp_seq ?_
    refine L_region [0, 1] (by kernel_rfl) ?_
    refine L_pure hS [0, 1] [] [1, 4, 5, 12] [(1, .int .i64 a1), (4, .int .i64 0), (5, .int .i64 (a0.tmod a1)), (12, .bool (decide ((a0.tmod a1) < 0)))] (by kernel_rfl) (fun a_ hS => ?_)
    refine L_end ?_
    refine c_cond hS (c := .tmp 12) rfl (fun hb => ?_) (fun hb => ?_)
    · rw [if_pos hb] at H
      refine L_region [0, 1, 2, 3] (by kernel_rfl) ?_
      refine L_pure hS [0, 1, 2, 3] [] [4, 5] [(4, .int .i64 0), (5, .int .i64 (IntKind.i64.wrap ((a0.tmod a1) + a1)))] (by kernel_rfl) (fun a_ hS => ?_)
      refine L_end ?_
      refine wp_seq ?_
      refine L_region [0, 1] (by kernel_rfl) ?_
      refine L_pure hS [0, 1] [] [4] [(4, .int .i64 (IntKind.i64.wrap ((a0.tmod a1) + a1)))] (by kernel_rfl) (fun a_ hS => ?_)
      refine L_end ?_
      refine wp_ret ?_
      obtain rfl := Option.some.inj H
      refine bodyPost_ret (results_tmp rfl _ _ _) hS.defers ?_
      rw [hS.getD (t := 4) rfl]
      exact ⟨rfl, hB⟩
    · rw [if_neg (nt hb)] at H
      refine wp_skip ?_
      refine wp_seq ?_
      refine L_region [0, 1] (by kernel_rfl) ?_
      refine L_pure hS [0, 1] [] [4] [(4, .int .i64 (a0.tmod a1))] (by kernel_rfl) (fun a_ hS => ?_)
      refine L_end ?_
      refine wp_ret ?_
      obtain rfl := Option.some.inj H
      refine bodyPost_ret (results_tmp rfl _ _ _) hS.defers ?_
      rw [hS.getD (t := 4) rfl]
      exact ⟨rfl, hB⟩

end Go.Proofs.YtcmffeaoailoiaaDoor.X
