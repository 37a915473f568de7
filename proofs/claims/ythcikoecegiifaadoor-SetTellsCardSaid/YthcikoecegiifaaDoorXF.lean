/- What the functions named below compute, told as Lean functions, and for each a walk that shows it. -/
import Derived.Test.YthcikoecegiifaaDoorProg
import Derived.Test.YthcikoecegiifaaDoorXCtl
import Derived.Test.YthcikoecegiifaaDoorXTab
namespace Go.Proofs.YthcikoecegiifaaDoor.X
open Go Go.XW Go.RowKit Go.Proofs
set_option linter.unusedVariables false
set_option linter.unusedSimpArgs false


/-! ### exegetekeep_Within: function 7 -/
def exegetekeep_Within.f (a0 : Int) (a1 : Int) : Option (Int) := if decide (a1 < 1) then (some (0)) else (chk (a1 ≠ (0 : Int)) (if decide ((a0.tmod a1) < 0) then (some (IntKind.i64.wrap ((a0.tmod a1) + a1))) else (some (a0.tmod a1))))
set_option maxRecDepth 100000 in
set_option maxHeartbeats 4000000 in
theorem exegetekeep_Within.calls (a0 : Int) (a1 : Int) {I : Imm} {W : World} (hF : Fits I W) {r : Int} (H : exegetekeep_Within.f a0 a1 = some r) :
    Calls Tryd.prog 7 #[.int .i64 a0, .int .i64 a1] W (EndS (.int .i64 r) W) := by
  unfold exegetekeep_Within.f at H
  refine enterL (l := [.int .i64 a0, .int .i64 a1]) Tryd.func7 rfl 17 rfl (by kernel_rfl) (fun a_ hS => ?_)
  have hB := Below.refl W.heap.size W
  refine wp_seq ?_
  refine L_region [0] (by kernel_rfl) ?_
  refine L_pure hS [0] [] [0, 1, 4] [(0, .int .i64 a0), (1, .int .i64 a1), (4, .int .i64 0)] (by kernel_rfl) (fun a_ hS => ?_)
  refine L_end ?_
  refine wp_seq ?_
  refine wp_seq ?_
  refine L_region [0, 1] (by kernel_rfl) ?_
  refine L_pure hS [0, 1] [] [0, 1, 4, 7] [(0, .int .i64 a0), (1, .int .i64 a1), (4, .int .i64 0), (7, .bool (decide (a1 < 1)))] (by kernel_rfl) (fun a_ hS => ?_)
  refine L_end ?_
  refine c_cond hS (c := .tmp 7) rfl (fun hb => ?_) (fun hb => ?_)
  · rw [if_pos hb] at H
    refine wp_seq ?_
    refine L_region [0] (by kernel_rfl) ?_
    refine L_pure hS [0] [] [0, 1, 4] [(0, .int .i64 a0), (1, .int .i64 a1), (4, .int .i64 0)] (by kernel_rfl) (fun a_ hS => ?_)
    refine L_end ?_
    refine wp_ret ?_
    obtain rfl := Option.some.inj H
    refine bodyPost_ret (results_tmp rfl _ _ _) hS.defers ?_
    rw [hS.getD (t := 4) rfl]
    exact ⟨rfl, hB⟩
  · rw [if_neg (nt hb)] at H
    refine wp_skip ?_
    refine wp_seq ?_
    refine L_region [0, 1, 2, 3] (by kernel_rfl) ?_
    refine L_pure hS [0, 1] [2, 3] [1, 4, 8, 9] [(1, .int .i64 a1), (4, .int .i64 0), (8, .int .i64 a0), (9, .int .i64 a1)] (by kernel_rfl) (fun a_ hS => ?_)
    obtain ⟨hc1, H⟩ := chk_elim H
    refine L_yld hS 2 (.int .i64 (a0.tmod a1)) rfl (by kernel_rfl) hF (y_div hS _ rfl rfl rfl hc1 (.inr ⟨rfl, rfl⟩)) rfl ?_; intro a_ hS
    refine L_pure hS [3] [] [1, 4, 5] [(1, .int .i64 a1), (4, .int .i64 0), (5, .int .i64 (a0.tmod a1))] (by kernel_rfl) (fun a_ hS => ?_)
    refine L_end ?_
    refine wp_seq ?_
    refine wp_seq ?_
    refine L_region [0, 1] (by kernel_rfl) ?_
    refine L_pure hS [0, 1] [] [1, 4, 5, 12] [(1, .int .i64 a1), (4, .int .i64 0), (5, .int .i64 (a0.tmod a1)), (12, .bool (decide ((a0.tmod a1) < 0)))] (by kernel_rfl) (fun a_ hS => ?_)
    refine L_end ?_
    refine c_cond hS (c := .tmp 12) rfl (fun hb => ?_) (fun hb => ?_)
    · rw [if_pos hb] at H
      refine L_region [0, 1, 2, 3] (by kernel_rfl) ?_
      refine L_pure hS [0, 1, 2, 3] [] [4, 5] [(4, .int .i64 0), (5, .int .i64 (IntKind.i64.wrap ((a0.tmod a1) + a1)))] (by kernel_rfl) (fun a_ hS => ?_)
      refine L_end ?_
      refine wp_seq ?_
      refine L_region [0, 1] (by kernel_rfl) ?_
      refine L_pure hS [0, 1] [] [4] [(4, .int .i64 (IntKind.i64.wrap ((a0.tmod a1) + a1)))] (by kernel_rfl) (fun a_ hS => ?_)
      refine L_end ?_
      refine wp_ret ?_
      obtain rfl := Option.some.inj H
      refine bodyPost_ret (results_tmp rfl _ _ _) hS.defers ?_
      rw [hS.getD (t := 4) rfl]
      exact ⟨rfl, hB⟩
    · rw [if_neg (nt hb)] at H
      refine wp_skip ?_
      refine wp_seq ?_
      refine L_region [0, 1] (by kernel_rfl) ?_
      refine L_pure hS [0, 1] [] [4] [(4, .int .i64 (a0.tmod a1))] (by kernel_rfl) (fun a_ hS => ?_)
      refine L_end ?_
      refine wp_ret ?_
      obtain rfl := Option.some.inj H
      refine bodyPost_ret (results_tmp rfl _ _ _) hS.defers ?_
      rw [hS.getD (t := 4) rfl]
      exact ⟨rfl, hB⟩

/-! ### set_Set_Join: function 16 -/
def set_Set_Join.f (a0 : Int) (a1 : Int) : Option (Int) := some (Go.bits .or .u64 a0 a1)
set_option maxRecDepth 100000 in
set_option maxHeartbeats 4000000 in
theorem set_Set_Join.calls (a0 : Int) (a1 : Int) {I : Imm} {W : World} (hF : Fits I W) {r : Int} (H : set_Set_Join.f a0 a1 = some r) :
    Calls Tryd.prog 16 #[.int .u64 a0, .int .u64 a1] W (EndS (.int .u64 r) W) := by
  unfold set_Set_Join.f at H
  refine enterL (l := [.int .u64 a0, .int .u64 a1]) Tryd.func16 rfl 8 rfl (by kernel_rfl) (fun a_ hS => ?_)
  have hB := Below.refl W.heap.size W
  refine wp_seq ?_
  refine L_region [0] (by kernel_rfl) ?_
  refine L_pure hS [0] [] [0, 1, 4] [(0, .int .u64 a0), (1, .int .u64 a1), (4, .int .u64 0)] (by kernel_rfl) (fun a_ hS => ?_)
  refine L_end ?_
  refine wp_seq ?_
  refine L_region [0, 1, 2, 3] (by kernel_rfl) ?_
  refine L_pure hS [0, 1, 2, 3] [] [4] [(4, .int .u64 (Go.bits .or .u64 a0 a1))] (by kernel_rfl) (fun a_ hS => ?_)
  refine L_end ?_
  refine wp_ret ?_
  obtain rfl := Option.some.inj H
  refine bodyPost_ret (results_tmp rfl _ _ _) hS.defers ?_
  rw [hS.getD (t := 4) rfl]
  exact ⟨rfl, hB⟩

/-! ### set_Set_Both: function 17 -/
def set_Set_Both.f (a0 : Int) (a1 : Int) : Option (Int) := some (Go.bits .and .u64 a0 a1)
set_option maxRecDepth 100000 in
set_option maxHeartbeats 4000000 in
theorem set_Set_Both.calls (a0 : Int) (a1 : Int) {I : Imm} {W : World} (hF : Fits I W) {r : Int} (H : set_Set_Both.f a0 a1 = some r) :
    Calls Tryd.prog 17 #[.int .u64 a0, .int .u64 a1] W (EndS (.int .u64 r) W) := by
  unfold set_Set_Both.f at H
  refine enterL (l := [.int .u64 a0, .int .u64 a1]) Tryd.func17 rfl 8 rfl (by kernel_rfl) (fun a_ hS => ?_)
  have hB := Below.refl W.heap.size W
  refine wp_seq ?_
  refine L_region [0] (by kernel_rfl) ?_
  refine L_pure hS [0] [] [0, 1, 4] [(0, .int .u64 a0), (1, .int .u64 a1), (4, .int .u64 0)] (by kernel_rfl) (fun a_ hS => ?_)
  refine L_end ?_
  refine wp_seq ?_
  refine L_region [0, 1, 2, 3] (by kernel_rfl) ?_
  refine L_pure hS [0, 1, 2, 3] [] [4] [(4, .int .u64 (Go.bits .and .u64 a0 a1))] (by kernel_rfl) (fun a_ hS => ?_)
  refine L_end ?_
  refine wp_ret ?_
  obtain rfl := Option.some.inj H
  refine bodyPost_ret (results_tmp rfl _ _ _) hS.defers ?_
  rw [hS.getD (t := 4) rfl]
  exact ⟨rfl, hB⟩

/-! ### set_Set_Less: function 14 -/
def set_Set_Less.f (a0 : Int) (a1 : Int) : Option (Int) := some (Go.bits .andNot .u64 a0 a1)
set_option maxRecDepth 100000 in
set_option maxHeartbeats 4000000 in
theorem set_Set_Less.calls (a0 : Int) (a1 : Int) {I : Imm} {W : World} (hF : Fits I W) {r : Int} (H : set_Set_Less.f a0 a1 = some r) :
    Calls Tryd.prog 14 #[.int .u64 a0, .int .u64 a1] W (EndS (.int .u64 r) W) := by
  unfold set_Set_Less.f at H
  refine enterL (l := [.int .u64 a0, .int .u64 a1]) Tryd.func14 rfl 8 rfl (by kernel_rfl) (fun a_ hS => ?_)
  have hB := Below.refl W.heap.size W
  refine wp_seq ?_
  refine L_region [0] (by kernel_rfl) ?_
  refine L_pure hS [0] [] [0, 1, 4] [(0, .int .u64 a0), (1, .int .u64 a1), (4, .int .u64 0)] (by kernel_rfl) (fun a_ hS => ?_)
  refine L_end ?_
  refine wp_seq ?_
  refine L_region [0, 1, 2, 3] (by kernel_rfl) ?_
  refine L_pure hS [0, 1, 2, 3] [] [4] [(4, .int .u64 (Go.bits .andNot .u64 a0 a1))] (by kernel_rfl) (fun a_ hS => ?_)
  refine L_end ?_
  refine wp_ret ?_
  obtain rfl := Option.some.inj H
  refine bodyPost_ret (results_tmp rfl _ _ _) hS.defers ?_
  rw [hS.getD (t := 4) rfl]
  exact ⟨rfl, hB⟩

/-! ### set_digit: function 20 -/
def set_digit.f (a0 : Int) : Option (Int) := jn (fun (K2 : Bool → Option (Int)) => if decide (a0 < 0) then (K2 true) else (K2 (decide (a0 ≥ 64)))) (fun (x1 : Bool) => if x1 then (some (0)) else (chk ((0 : Int) ≤ a0) (lt (IntKind.u64.wrap (1 * 2 ^ (min a0.toNat 64))) fun (t5 : Int) => some (t5))))
set_option maxRecDepth 100000 in
set_option maxHeartbeats 4000000 in
theorem set_digit.calls (a0 : Int) {I : Imm} {W : World} (hF : Fits I W) {r : Int} (H : set_digit.f a0 = some r) :
    Calls Tryd.prog 20 #[.int .i64 a0] W (EndS (.int .u64 r) W) := by
  unfold set_digit.f at H
  refine enterL (l := [.int .i64 a0]) Tryd.func20 rfl 11 rfl (by kernel_rfl) (fun a_ hS => ?_)
  have hB := Below.refl W.heap.size W
  refine wp_seq ?_
  refine L_region [0] (by kernel_rfl) ?_
  refine L_pure hS [0] [] [0, 2] [(0, .int .i64 a0), (2, .int .u64 0)] (by kernel_rfl) (fun a_ hS => ?_)
  refine L_end ?_
  refine wp_seq ?_
  refine wp_seq ?_
  obtain ⟨K2, hK2, H⟩ := jn_elim H
  try dsimp only at H
  refine c_cut (fun a_ w => ∃ (x1 : Bool), Sat 11 [] [(0, .int .i64 a0), (2, .int .u64 0), (8, .bool x1)] a_ ∧ Below W.heap.size W w ∧ Fits I w ∧ K2 x1 = some r) ?_ ?_
  · skip
    refine L_region [0, 1, 2, 3, 4, 5] (by kernel_rfl) ?_
    refine L_pure hS [0, 1, 2] [3, 4, 5] [0, 2, 5] [(0, .int .i64 a0), (2, .int .u64 0), (5, .bool (decide (a0 < 0)))] (by kernel_rfl) (fun a_ hS => ?_)
    rcases Bool.eq_false_or_eq_true (decide (a0 < 0)) with hb | hb
    · rw [hb] at hS; rw [if_pos hb] at H
      refine L_pure hS [3, 4, 5] [] [0, 2, 8] [(0, .int .i64 a0), (2, .int .u64 0), (8, .bool true)] (by kernel_rfl) (fun a_ hS => ?_)
      refine L_end ?_
      exact ⟨true, hS.pick (l := [0, 2, 8]) (by kernel_rfl), hB, hF, H⟩
    · rw [hb] at hS; rw [if_neg (nt hb)] at H
      refine L_pure hS [3, 4, 5] [] [0, 2, 8] [(0, .int .i64 a0), (2, .int .u64 0), (8, .bool (decide (a0 ≥ 64)))] (by kernel_rfl) (fun a_ hS => ?_)
      refine L_end ?_
      exact ⟨(decide (a0 ≥ 64)), hS.pick (l := [0, 2, 8]) (by kernel_rfl), hB, hF, H⟩
  clear H
  rintro a_ w_ ⟨x1, hS, hB, hF, H⟩
  subst hK2
  try dsimp only at H
  refine c_cond hS (c := .tmp 8) rfl (fun hb => ?_) (fun hb => ?_)
  · rw [if_pos hb] at H
    refine wp_seq ?_
    refine L_region [0] (by kernel_rfl) ?_
    refine L_pure hS [0] [] [0, 2] [(0, .int .i64 a0), (2, .int .u64 0)] (by kernel_rfl) (fun a_ hS => ?_)
    refine L_end ?_
    refine wp_ret ?_
    obtain rfl := Option.some.inj H
    refine bodyPost_ret (results_tmp rfl _ _ _) hS.defers ?_
    rw [hS.getD (t := 2) rfl]
    exact ⟨rfl, hB⟩
  · rw [if_neg (nt hb)] at H
    refine wp_skip ?_
    refine wp_seq ?_
    refine L_region [0, 1, 2] (by kernel_rfl) ?_
    refine L_pure hS [0] [1, 2] [2, 9] [(2, .int .u64 0), (9, .int .i64 a0)] (by kernel_rfl) (fun a_ hS => ?_)
    obtain ⟨hc4, H⟩ := chk_elim H
    refine L_yld hS 1 (.int .u64 (IntKind.u64.wrap (1 * 2 ^ (min a0.toNat 64)))) rfl (by kernel_rfl) hF (y_shift hS _ rfl rfl rfl hc4 (.inl ⟨rfl, rfl⟩)) rfl ?_; intro a_ hS
    refine L_pure hS [2] [] [2] [(2, .int .u64 (IntKind.u64.wrap (1 * 2 ^ (min a0.toNat 64))))] (by kernel_rfl) (fun a_ hS => ?_)
    obtain ⟨t5, ht6, H⟩ := lt_elim H; rw [← ht6] at hS
    refine L_end ?_
    refine wp_ret ?_
    obtain rfl := Option.some.inj H
    refine bodyPost_ret (results_tmp rfl _ _ _) hS.defers ?_
    rw [hS.getD (t := 2) rfl]
    exact ⟨rfl, hB⟩

/-! ### set_Set_With: function 11 -/
def set_Set_With.f (a0 : Int) (a1 : Int) : Option (Int) := (set_digit.f a1).bind fun t1 => some (Go.bits .or .u64 a0 t1)
set_option maxRecDepth 100000 in
set_option maxHeartbeats 4000000 in
theorem set_Set_With.calls (a0 : Int) (a1 : Int) {I : Imm} {W : World} (hF : Fits I W) {r : Int} (H : set_Set_With.f a0 a1 = some r) :
    Calls Tryd.prog 11 #[.int .u64 a0, .int .i64 a1] W (EndS (.int .u64 r) W) := by
  unfold set_Set_With.f at H
  refine enterL (l := [.int .u64 a0, .int .i64 a1]) Tryd.func11 rfl 9 rfl (by kernel_rfl) (fun a_ hS => ?_)
  have hB := Below.refl W.heap.size W
  refine wp_seq ?_
  refine L_region [0] (by kernel_rfl) ?_
  refine L_pure hS [0] [] [0, 1, 4] [(0, .int .u64 a0), (1, .int .i64 a1), (4, .int .u64 0)] (by kernel_rfl) (fun a_ hS => ?_)
  refine L_end ?_
  refine wp_seq ?_
  refine L_region [0, 1, 2, 3, 4] (by kernel_rfl) ?_
  refine L_pure hS [0, 1] [2, 3, 4] [4, 5, 6] [(4, .int .u64 0), (5, .int .u64 a0), (6, .int .i64 a1)] (by kernel_rfl) (fun a_ hS => ?_)
  obtain ⟨t1, hq2, H⟩ := bind_elim H
  refine L_op hS (i := 2) rfl (by kernel_rfl) ?_
  refine wp_call hS [.int .i64 a1] rfl Tryd.func20 (by kernel_rfl) (by kernel_rfl) (by kernel_rfl) (set_digit.calls a1 hF hq2) ?_
  rintro e_ w_ ⟨rfl, hb⟩
  refine ⟨_, _, rfl, rfl, ?_⟩; intro a_ hS
  have hF := hF.below hb
  have hB := hB.trans (hb.mono hB.size)
  refine L_pure hS [3, 4] [] [4] [(4, .int .u64 (Go.bits .or .u64 a0 t1))] (by kernel_rfl) (fun a_ hS => ?_)
  refine L_end ?_
  refine wp_ret ?_
  obtain rfl := Option.some.inj H
  refine bodyPost_ret (results_tmp rfl _ _ _) hS.defers ?_
  rw [hS.getD (t := 4) rfl]
  exact ⟨rfl, hB⟩

/-! ### set_Of: function 8 -/
def set_Of.l0 (K13 : Int → Option (Int)) : List Int → Int → Option (Int)
  | [], x5 => K13 x5
  | e7 :: es8, x5 => (set_Set_With.f x5 e7).bind fun t23 => set_Of.l0 K13 es8 t23
def set_Of.f (a0 : List Int) : Option (Int) := jn (fun (K3 : Int → Option (Int)) => set_Of.l0 (fun (y15 : Int) => K3 y15) a0 0) (fun (x2 : Int) => some (x2))
set_option maxRecDepth 100000 in
set_option maxHeartbeats 4000000 in
theorem set_Of.calls (a0 : List Int) {I : Imm} {W : World} {v0 : Value} (hF : Fits I W) (h0 : RepV I (SL 1 (XI .i64) a0) v0) {r : Int} (H : set_Of.f a0 = some r) :
    Calls Tryd.prog 8 #[v0] W (EndS (.int .u64 r) W) := by
  unfold set_Of.f at H
  have hR1 := h0
  obtain ⟨A1, c1, rfl, hl1, hm1⟩ := SL_len hR1
  refine enterL (l := [.slice A1 a0.length c1]) Tryd.func8 rfl 17 rfl (by kernel_rfl) (fun a_ hS => ?_)
  have hB := Below.refl W.heap.size W
  refine wp_seq ?_
  refine L_region [0] (by kernel_rfl) ?_
  refine L_pure hS [0] [] [0, 2] [(0, .slice A1 a0.length c1), (2, .int .u64 0)] (by kernel_rfl) (fun a_ hS => ?_)
  refine L_end ?_
  refine wp_seq ?_
  refine L_region [0] (by kernel_rfl) ?_
  refine L_pure hS [0] [] [0, 2, 3] [(0, .slice A1 a0.length c1), (2, .int .u64 0), (3, .int .u64 0)] (by kernel_rfl) (fun a_ hS => ?_)
  refine L_end ?_
  refine wp_seq ?_
  refine wp_seq ?_
  refine L_region [0, 1, 2] (by kernel_rfl) ?_
  refine L_pure hS [0, 1, 2] [] [2, 3, 6, 7, 8] [(2, .int .u64 0), (3, .int .u64 0), (6, .slice A1 a0.length c1), (7, .int .i64 (a0.length : Int)), (8, .int .i64 0)] (by kernel_rfl) (fun a_ hS => ?_)
  refine L_end ?_
  obtain ⟨K3, hK3, H⟩ := jn_elim H
  try dsimp only at H
  refine c_cut (fun a_ w => ∃ (x2 : Int), Sat 17 [] [(2, .int .u64 0), (3, .int .u64 x2)] a_ ∧ Below W.heap.size W w ∧ Fits I w ∧ K3 x2 = some r) ?_ ?_
  · skip
    refine wp_block ?_
    obtain ⟨K13, hK13, H⟩ : ∃ K_, K_ = _ ∧ set_Of.l0 K_ a0 0 = some r := ⟨_, rfl, H⟩
    obtain ⟨_, _, _, _, hm11⟩ := SL_len hR1
    refine c_loop (G := Nat) (fun m_ a_ w => ∃ (j6 : Nat) (x5 : Int), a0.length - j6 = m_ ∧ Sat 17 [] [(2, .int .u64 0), (6, .slice A1 a0.length c1), (7, .int .i64 (a0.length : Int)), (3, .int .u64 x5), (8, .int .i64 (j6 : Int))] a_ ∧ Below W.heap.size W w ∧ Fits I w ∧ set_Of.l0 K13 (a0.drop j6) x5 = some r) (fun m_ => m_) (a0.length - 0) ⟨0, 0, rfl, hS.pick (l := [2, 6, 7, 3, 8]) (by kernel_rfl), hB, hF, H⟩ ?_
    clear H
    intro m_ a_ w_ hI_
    obtain ⟨j6, x5, rfl, hS, hB, hF, H⟩ := hI_
    refine wp_seq ?_
    refine L_region [0] (by kernel_rfl) ?_
    refine L_pure hS [0] [] [2, 6, 7, 3, 8, 9] [(2, .int .u64 0), (6, .slice A1 a0.length c1), (7, .int .i64 (a0.length : Int)), (3, .int .u64 x5), (8, .int .i64 (j6 : Int)), (9, .bool (decide ((j6 : Int) < (a0.length : Int))))] (by kernel_rfl) (fun a_ hS => ?_)
    refine L_end ?_
    refine wp_seq ?_
    by_cases hj10 : j6 < a0.length
    · obtain ⟨e7, hx9, hd_⟩ := drop_cons hj10
      rw [hd_, set_Of.l0] at H
      clear hd_
      rw [show decide ((j6 : Int) < (a0.length : Int)) = true from decide_eq_true (Int.ofNat_lt.2 hj10)] at hS
      refine c_true hS (c := .tmp 9) rfl ?_
      refine wp_skip ?_
      refine wp_seq ?_
      refine wp_block ?_
      refine wp_seq ?_
      refine L_region [0, 1, 2] (by kernel_rfl) ?_
      obtain ⟨ad16, hA17, hx18⟩ := SL_nth hR1 hx9
      refine L_yld hS 0 (.pointer (some ((ad16 : Addr).add (j6 * 1)))) rfl (by kernel_rfl) hF (y_indexAddr hS hA17 rfl rfl rfl Tryd.underlying22 (by kernel_rfl) (Int.natCast_nonneg _) (Int.ofNat_lt.2 hj10)) rfl ?_; intro a_ hS
      obtain ⟨u20, hI21, hR22⟩ := hx18 0 _ rfl
      obtain rfl := hR22.val_inv
      rw [add_0] at hI21
      refine L_yld hS 1 (.int .i64 e7) rfl (by kernel_rfl) hF (y_load1 hS rfl rfl Tryd.underlying3 rfl hI21) rfl ?_; intro a_ hS
      refine L_pure hS [2] [] [2, 6, 7, 3, 8, 5] [(2, .int .u64 0), (6, .slice A1 a0.length c1), (7, .int .i64 (a0.length : Int)), (3, .int .u64 x5), (8, .int .i64 (j6 : Int)), (5, .int .i64 e7)] (by kernel_rfl) (fun a_ hS => ?_)
      refine L_end ?_
      refine L_region [0, 1, 2, 3] (by kernel_rfl) ?_
      refine L_pure hS [0, 1] [2, 3] [2, 6, 7, 3, 8, 12, 13] [(2, .int .u64 0), (6, .slice A1 a0.length c1), (7, .int .i64 (a0.length : Int)), (3, .int .u64 x5), (8, .int .i64 (j6 : Int)), (12, .int .u64 x5), (13, .int .i64 e7)] (by kernel_rfl) (fun a_ hS => ?_)
      obtain ⟨t23, hq24, H⟩ := bind_elim H
      refine L_op hS (i := 2) rfl (by kernel_rfl) ?_
      refine wp_call hS [.int .u64 x5, .int .i64 e7] rfl Tryd.func11 (by kernel_rfl) (by kernel_rfl) (by kernel_rfl) (set_Set_With.calls x5 e7 hF hq24) ?_
      rintro e_ w_ ⟨rfl, hb⟩
      refine ⟨_, _, rfl, rfl, ?_⟩; intro a_ hS
      have hF := hF.below hb
      have hB := hB.trans (hb.mono hB.size)
      refine L_pure hS [3] [] [2, 6, 7, 3, 8] [(2, .int .u64 0), (6, .slice A1 a0.length c1), (7, .int .i64 (a0.length : Int)), (3, .int .u64 t23), (8, .int .i64 (j6 : Int))] (by kernel_rfl) (fun a_ hS => ?_)
      refine L_end ?_
      refine L_region [0, 1] (by kernel_rfl) ?_
      refine L_pure hS [0, 1] [] [2, 6, 7, 3, 8] [(2, .int .u64 0), (6, .slice A1 a0.length c1), (7, .int .i64 (a0.length : Int)), (3, .int .u64 t23), (8, .int .i64 (IntKind.i64.wrap ((j6 : Int) + 1)))] (by kernel_rfl) (fun a_ hS => ?_)
      refine L_end ?_
      rw [wrap_succ hj10 hm11] at hS
      exact ⟨a0.length - (j6 + 1), by omega, j6 + 1, t23, rfl, hS.pick (l := [2, 6, 7, 3, 8]) (by kernel_rfl), hB, hF, H⟩
    · rw [drop_all hj10, set_Of.l0] at H
      rw [show decide ((j6 : Int) < (a0.length : Int)) = false from decide_eq_false (fun h_ => hj10 (Int.ofNat_lt.1 h_))] at hS
      refine c_false hS (c := .tmp 9) rfl ?_
      refine wp_exit ?_
      refine x_then ?_
      refine x_then ?_
      refine x_hit ?_
      subst hK13
      try dsimp only at H
      exact ⟨x5, hS.pick (l := [2, 3]) (by kernel_rfl), hB, hF, H⟩
  clear H
  rintro a_ w_ ⟨x2, hS, hB, hF, H⟩
  subst hK3
  try dsimp only at H
  refine wp_seq ?_
  refine L_region [0, 1] (by kernel_rfl) ?_
  refine L_pure hS [0, 1] [] [2] [(2, .int .u64 x2)] (by kernel_rfl) (fun a_ hS => ?_)
  refine L_end ?_
  refine wp_ret ?_
  obtain rfl := Option.some.inj H
  refine bodyPost_ret (results_tmp rfl _ _ _) hS.defers ?_
  rw [hS.getD (t := 2) rfl]
  exact ⟨rfl, hB⟩

/-! ### set_Set_In: function 13 -/
def set_Set_In.f (a0 : Int) (a1 : Int) : Option (Bool) := some ((Go.bits .andNot .u64 a0 a1) == 0)
set_option maxRecDepth 100000 in
set_option maxHeartbeats 4000000 in
theorem set_Set_In.calls (a0 : Int) (a1 : Int) {I : Imm} {W : World} (hF : Fits I W) {r : Bool} (H : set_Set_In.f a0 a1 = some r) :
    Calls Tryd.prog 13 #[.int .u64 a0, .int .u64 a1] W (EndS (.bool r) W) := by
  unfold set_Set_In.f at H
  refine enterL (l := [.int .u64 a0, .int .u64 a1]) Tryd.func13 rfl 9 rfl (by kernel_rfl) (fun a_ hS => ?_)
  have hB := Below.refl W.heap.size W
  refine wp_seq ?_
  refine L_region [0] (by kernel_rfl) ?_
  refine L_pure hS [0] [] [0, 1, 4] [(0, .int .u64 a0), (1, .int .u64 a1), (4, .bool false)] (by kernel_rfl) (fun a_ hS => ?_)
  refine L_end ?_
  refine wp_seq ?_
  refine L_region [0, 1, 2, 3, 4] (by kernel_rfl) ?_
  refine L_pure hS [0, 1, 2, 3, 4] [] [4] [(4, .bool ((Go.bits .andNot .u64 a0 a1) == 0))] (by kernel_rfl) (fun a_ hS => ?_)
  refine L_end ?_
  refine wp_ret ?_
  obtain rfl := Option.some.inj H
  refine bodyPost_ret (results_tmp rfl _ _ _) hS.defers ?_
  rw [hS.getD (t := 4) rfl]
  exact ⟨rfl, hB⟩

/-! ### bits_TrailingZeros64: function 19 -/
def bits_TrailingZeros64.f (a0 : Int) : Option (Int) := if a0 == 0 then (some (64)) else (lt ((IntKind.u64.wrap ((Go.bits .and .u64 a0 (IntKind.u64.wrap (0 - a0))) * 285870213051353865)).fdiv (2 ^ 58)) fun (t1 : Int) => chk ((0 : Int) ≤ t1 ∧ t1 < ((64 : Nat) : Int)) (lt (IntKind.i64.wrap (tab0.getD (t1 : Int).toNat 0)) fun (t8 : Int) => some (t8)))
set_option maxRecDepth 100000 in
set_option maxHeartbeats 4000000 in
theorem bits_TrailingZeros64.calls (a0 : Int) {I : Imm} {W : World} (hF : Fits I W) (hT : TabOK I) {r : Int} (H : bits_TrailingZeros64.f a0 = some r) :
    Calls Tryd.prog 19 #[.int .u64 a0] W (EndS (.int .i64 r) W) := by
  unfold bits_TrailingZeros64.f at H
  refine enterL (l := [.int .u64 a0]) Tryd.func19 rfl 14 rfl (by kernel_rfl) (fun a_ hS => ?_)
  have hB := Below.refl W.heap.size W
  refine wp_seq ?_
  refine L_region [0] (by kernel_rfl) ?_
  refine L_pure hS [0] [] [0, 2] [(0, .int .u64 a0), (2, .int .i64 0)] (by kernel_rfl) (fun a_ hS => ?_)
  refine L_end ?_
  refine wp_seq ?_
  refine wp_seq ?_
  refine L_region [0, 1] (by kernel_rfl) ?_
  refine L_pure hS [0, 1] [] [0, 2, 4] [(0, .int .u64 a0), (2, .int .i64 0), (4, .bool (a0 == 0))] (by kernel_rfl) (fun a_ hS => ?_)
  refine L_end ?_
  refine c_cond hS (c := .tmp 4) rfl (fun hb => ?_) (fun hb => ?_)
  · rw [if_pos hb] at H
    refine wp_seq ?_
    refine L_region [0] (by kernel_rfl) ?_
    refine L_pure hS [0] [] [0, 2] [(0, .int .u64 a0), (2, .int .i64 64)] (by kernel_rfl) (fun a_ hS => ?_)
    refine L_end ?_
    refine wp_ret ?_
    obtain rfl := Option.some.inj H
    refine bodyPost_ret (results_tmp rfl _ _ _) hS.defers ?_
    rw [hS.getD (t := 2) rfl]
    exact ⟨rfl, hB⟩
  · rw [if_neg (nt hb)] at H
    refine wp_skip ?_
    refine wp_seq ?_
    refine L_region [0, 1, 2, 3, 4, 5, 6, 7, 8, 9] (by kernel_rfl) ?_
    refine L_pure hS [0, 1, 2, 3, 4, 5] [6, 7, 8, 9] [2, 10] [(2, .int .i64 0), (10, .int .u64 ((IntKind.u64.wrap ((Go.bits .and .u64 a0 (IntKind.u64.wrap (0 - a0))) * 285870213051353865)).fdiv (2 ^ 58)))] (by kernel_rfl) (fun a_ hS => ?_)
    obtain ⟨t1, ht2, H⟩ := lt_elim H; rw [← ht2] at hS
    obtain ⟨hc3, H⟩ := chk_elim H
    refine L_yld hS 6 (.pointer (some ((⟨0, 0, none⟩ : Addr).add ((t1 : Int).toNat * 1)))) rfl (by kernel_rfl) hF (y_indexAddr_arr hS rfl rfl rfl Tryd.underlying41 (by kernel_rfl) hc3.1 hc3.2) rfl ?_; intro a_ hS
    have hx4 := (show TabAt _ 0 .u8 tab0 from hT).at (n := 64) (by kernel_rfl) (t1 : Int) hc3.1 hc3.2
    obtain ⟨u5, hI6, hR7⟩ := hx4 0 _ rfl
    obtain rfl := hR7.val_inv
    rw [add_0] at hI6
    refine L_yld hS 7 (.int .u8 (tab0.getD (t1 : Int).toNat 0)) rfl (by kernel_rfl) hF (y_load1 hS rfl rfl Tryd.underlying5 rfl hI6) rfl ?_; intro a_ hS
    refine L_pure hS [8, 9] [] [2] [(2, .int .i64 (IntKind.i64.wrap (tab0.getD (t1 : Int).toNat 0)))] (by kernel_rfl) (fun a_ hS => ?_)
    obtain ⟨t8, ht9, H⟩ := lt_elim H; rw [← ht9] at hS
    refine L_end ?_
    refine wp_ret ?_
    obtain rfl := Option.some.inj H
    refine bodyPost_ret (results_tmp rfl _ _ _) hS.defers ?_
    rw [hS.getD (t := 2) rfl]
    exact ⟨rfl, hB⟩

/-! ### set_Set_List: function 9 -/
def set_Set_List.l0 (K10 : (List Int) → Int → Option ((List Int))) : Nat → (List Int) → Int → Option ((List Int))
  | 0, _, _ => none
  | k11 + 1, x5, x7 => if x7 != 0 then ((bits_TrailingZeros64.f x7).bind fun t14 => chk (x5.length + ([t14] : List Int).length ≤ 17592186044416) (lt (Go.bits .and .u64 x7 (IntKind.u64.wrap (x7 - 1))) fun (t21 : Int) => set_Set_List.l0 K10 k11 (x5 ++ ([t14] : List Int)) t21)) else (K10 x5 x7)
def set_Set_List.f (F : Nat) (a0 : Int) : Option ((List Int)) := jn (fun (K3 : (List Int) → Option ((List Int))) => set_Set_List.l0 (fun (y12 : List Int) (y13 : Int) => K3 y12) F ([] : List Int) a0) (fun (x1 : List Int) => some (x1))
set_option maxRecDepth 100000 in
set_option maxHeartbeats 4000000 in
theorem set_Set_List.calls (F : Nat) (a0 : Int) {I : Imm} {W : World} (hF : Fits I W) (hT : TabOK I) {r : (List Int)} (H : set_Set_List.f F a0 = some r) :
    Calls Tryd.prog 9 #[.int .u64 a0] W (EndO 3 1 (XI .i64) r I W) := by
  unfold set_Set_List.f at H
  refine enterL (l := [.int .u64 a0]) Tryd.func9 rfl 18 rfl (by kernel_rfl) (fun a_ hS => ?_)
  have hB := Below.refl W.heap.size W
  have hG := Grow.refl I W.heap.size
  refine wp_seq ?_
  refine L_region [0] (by kernel_rfl) ?_
  refine L_pure hS [0] [] [0, 2] [(0, .int .u64 a0), (2, .slice none 0 0)] (by kernel_rfl) (fun a_ hS => ?_)
  refine L_end ?_
  refine wp_seq ?_
  refine L_region [0] (by kernel_rfl) ?_
  refine L_pure hS [0] [] [0, 2, 3] [(0, .int .u64 a0), (2, .slice none 0 0), (3, .slice none 0 0)] (by kernel_rfl) (fun a_ hS => ?_)
  refine L_end ?_
  refine wp_seq ?_
  refine wp_seq ?_
  refine L_region [0, 1] (by kernel_rfl) ?_
  refine L_pure hS [0, 1] [] [2, 3, 4] [(2, .slice none 0 0), (3, .slice none 0 0), (4, .int .u64 a0)] (by kernel_rfl) (fun a_ hS => ?_)
  refine L_end ?_
  obtain ⟨K3, hK3, H⟩ := jn_elim H
  try dsimp only at H
  refine c_cut (fun a_ w => ∃ (x1 : List Int) (A2 : Option Addr) (c2 : Nat), Sat 18 [] [(2, .slice none 0 0), (3, .slice A2 x1.length c2)] a_ ∧ Below W.heap.size W w ∧ Fits I w ∧ Own W.heap.size I w 3 1 (XI .i64) x1 (.slice A2 x1.length c2) ∧ K3 x1 = some r) ?_ ?_
  · skip
    refine wp_block ?_
    obtain ⟨K10, hK10, H⟩ : ∃ K_, K_ = _ ∧ set_Set_List.l0 K_ F ([] : List Int) a0 = some r := ⟨_, rfl, H⟩
    refine c_loop (G := Nat) (fun m_ a_ w => ∃ (x5 : List Int) (x7 : Int) (A6 : Option Addr) (c6 : Nat), Sat 18 [] [(2, .slice none 0 0), (3, .slice A6 x5.length c6), (4, .int .u64 x7)] a_ ∧ Below W.heap.size W w ∧ Fits I w ∧ Grow I I W.heap.size ∧ Own W.heap.size I w 3 1 (XI .i64) x5 (.slice A6 x5.length c6) ∧ set_Set_List.l0 K10 m_ x5 x7 = some r) (fun m_ => m_) F ⟨([] : List Int), a0, none, 0, hS.pick (l := [2, 3, 4]) (by kernel_rfl), hB, hF, hG, Own.nil _ _ _ _ _ _, H⟩ ?_
    clear H
    intro m_ a_ w_ hI_
    obtain ⟨x5, x7, A6, c6, hS, hB, hF, hG, hO6, H⟩ := hI_
    cases m_ with
    | zero => exact absurd H (by simp [set_Set_List.l0])
    | succ k11 =>
      rw [set_Set_List.l0] at H
      refine wp_seq ?_
      refine wp_seq ?_
      refine L_region [0, 1] (by kernel_rfl) ?_
      refine L_pure hS [0, 1] [] [2, 3, 4, 7] [(2, .slice none 0 0), (3, .slice A6 x5.length c6), (4, .int .u64 x7), (7, .bool (x7 != 0))] (by kernel_rfl) (fun a_ hS => ?_)
      refine L_end ?_
      refine c_cond hS (c := .tmp 7) rfl (fun hb => ?_) (fun hb => ?_)
      · rw [if_pos hb] at H
        refine wp_skip ?_
        refine wp_seq ?_
        refine wp_block ?_
        refine L_region [0, 1, 2, 3, 4, 5] (by kernel_rfl) ?_
        refine L_pure hS [0, 1] [2, 3, 4, 5] [2, 3, 4, 12, 13] [(2, .slice none 0 0), (3, .slice A6 x5.length c6), (4, .int .u64 x7), (12, .slice A6 x5.length c6), (13, .int .u64 x7)] (by kernel_rfl) (fun a_ hS => ?_)
        obtain ⟨t14, hq15, H⟩ := bind_elim H
        refine L_op hS (i := 2) rfl (by kernel_rfl) ?_
        refine wp_call hS [.int .u64 x7] rfl Tryd.func19 (by kernel_rfl) (by kernel_rfl) (by kernel_rfl) (bits_TrailingZeros64.calls x7 hF hT hq15) ?_
        rintro e_ w_ ⟨rfl, hb⟩
        refine ⟨_, _, rfl, rfl, ?_⟩; intro a_ hS
        have hF := hF.below hb
        have hO6 := (hO6).below hb
        have hB := hB.trans (hb.mono hB.size)
        refine L_op hS (i := 3) rfl (by kernel_rfl) ?_
        refine wp_lit (base := W.heap.size) (f := (XI .i64)) hS rfl [(0, .int .i64 t14)] (by kernel_rfl) (.int .i64 0) Tryd.underlying22 (by kernel_rfl) rfl rfl #[.int .i64 t14] (by kernel_rfl) rfl rfl (fun _ => ⟨rfl, rfl⟩) hF hB.size ([t14] : List Int) rfl ⟨.val _, trivial⟩ (Nat.le_of_ble_eq_true rfl) ?_
        intro b16 w_ hO16 hbn_ hb a_ hS
        have hP17 : Apart (.slice A6 x5.length c6) (.slice (some ⟨b16, 0, none⟩) (([t14] : List Int)).length 1) := hO6.apart_new hbn_
        have hF := hF.below hb
        have hO6 := (hO6).below hb
        have hB := hB.trans (hb.mono hB.size)
        obtain ⟨hc18, H⟩ := chk_elim H
        refine L_op hS (i := 4) rfl (by kernel_rfl) ?_
        refine wp_app hS (.tmp 12) (.tmp 15) 22 rfl 8 (.int .i64 0) Tryd.underlying22 (by kernel_rfl) rfl (by decide) rfl hO6 ([t14] : List Int) rfl (Src.own (fun _ => ⟨rfl, rfl⟩) hO16) hF (lim_bytes (by decide) hc18) (lim_63 (by decide) hc18) hB.size rfl rfl ?_
        intro v_ w_ hO19 hg19 hk19 hF_ a_ hS
        obtain ⟨A19, c19, rfl, hl19, hm19⟩ := hO19.form
        have hP20 := Apart.after (u := .slice (some ⟨b16, 0, none⟩) (([t14] : List Int)).length 1) hP17 hk19 hO16.sizes
        have hO16 := hO16.other hg19 (Apart.row hP17)
        have hB := below_row hB hg19 hB.size (fun g hg => (hO6.lt g hg).1)
        have hF := hF_
        refine L_pure hS [5] [] [2, 4, 3] [(2, .slice none 0 0), (4, .int .u64 x7), (3, .slice A19 (x5 ++ ([t14] : List Int)).length c19)] (by kernel_rfl) (fun a_ hS => ?_)
        refine L_end ?_
        refine L_region [0, 1, 2, 3, 4] (by kernel_rfl) ?_
        refine L_pure hS [0, 1, 2, 3, 4] [] [2, 4, 3] [(2, .slice none 0 0), (4, .int .u64 (Go.bits .and .u64 x7 (IntKind.u64.wrap (x7 - 1)))), (3, .slice A19 (x5 ++ ([t14] : List Int)).length c19)] (by kernel_rfl) (fun a_ hS => ?_)
        obtain ⟨t21, ht22, H⟩ := lt_elim H; rw [← ht22] at hS
        refine L_end ?_
        exact ⟨k11, Nat.lt_succ_self _, (x5 ++ ([t14] : List Int)), t21, A19, c19, hS.pick (l := [2, 3, 4]) (by kernel_rfl), hB, hF, hG, hO19, H⟩
      · rw [if_neg (nt hb)] at H
        refine wp_exit ?_
        refine x_then ?_
        refine x_then ?_
        refine x_hit ?_
        subst hK10
        try dsimp only at H
        exact ⟨x5, A6, c6, hS.pick (l := [2, 3]) (by kernel_rfl), hB, hF, hO6, H⟩
  clear H
  rintro a_ w_ ⟨x1, A2, c2, hS, hB, hF, hO2, H⟩
  subst hK3
  try dsimp only at H
  refine wp_seq ?_
  refine L_region [0, 1] (by kernel_rfl) ?_
  refine L_pure hS [0, 1] [] [2] [(2, .slice A2 x1.length c2)] (by kernel_rfl) (fun a_ hS => ?_)
  refine L_end ?_
  refine wp_ret ?_
  obtain rfl := Option.some.inj H
  refine bodyPost_ret (results_tmp rfl _ _ _) hS.defers ?_
  rw [hS.getD (t := 2) rfl]
  exact ⟨_, _, rfl, hG, hF, hO2, hB⟩

/-! ### bits_OnesCount64: function 21 -/
def bits_OnesCount64.f (a0 : Int) : Option (Int) := lt (IntKind.u64.wrap ((Go.bits .and .u64 (a0.fdiv (2 ^ 1)) 6148914691236517205) + (Go.bits .and .u64 a0 6148914691236517205))) fun (t1 : Int) => lt (IntKind.u64.wrap ((Go.bits .and .u64 (t1.fdiv (2 ^ 2)) 3689348814741910323) + (Go.bits .and .u64 t1 3689348814741910323))) fun (t3 : Int) => lt (Go.bits .and .u64 (IntKind.u64.wrap ((t3.fdiv (2 ^ 4)) + t3)) 1085102592571150095) fun (t5 : Int) => lt (IntKind.u64.wrap (t5 + (t5.fdiv (2 ^ 8)))) fun (t7 : Int) => lt (IntKind.u64.wrap (t7 + (t7.fdiv (2 ^ 16)))) fun (t9 : Int) => lt (IntKind.u64.wrap (t9 + (t9.fdiv (2 ^ 32)))) fun (t11 : Int) => lt (Go.bits .and .i64 (IntKind.i64.wrap t11) 127) fun (t13 : Int) => some (t13)
set_option maxRecDepth 100000 in
set_option maxHeartbeats 4000000 in
theorem bits_OnesCount64.calls (a0 : Int) {I : Imm} {W : World} (hF : Fits I W) {r : Int} (H : bits_OnesCount64.f a0 = some r) :
    Calls Tryd.prog 21 #[.int .u64 a0] W (EndS (.int .i64 r) W) := by
  unfold bits_OnesCount64.f at H
  refine enterL (l := [.int .u64 a0]) Tryd.func21 rfl 35 rfl (by kernel_rfl) (fun a_ hS => ?_)
  have hB := Below.refl W.heap.size W
  refine wp_seq ?_
  refine L_region [0] (by kernel_rfl) ?_
  refine L_pure hS [0] [] [0, 2] [(0, .int .u64 a0), (2, .int .i64 0)] (by kernel_rfl) (fun a_ hS => ?_)
  refine L_end ?_
  refine wp_seq ?_
  refine L_region [0, 1, 2, 3, 4, 5, 6] (by kernel_rfl) ?_
  refine L_pure hS [0, 1, 2, 3, 4, 5, 6] [] [0, 2] [(0, .int .u64 (IntKind.u64.wrap ((Go.bits .and .u64 (a0.fdiv (2 ^ 1)) 6148914691236517205) + (Go.bits .and .u64 a0 6148914691236517205)))), (2, .int .i64 0)] (by kernel_rfl) (fun a_ hS => ?_)
  obtain ⟨t1, ht2, H⟩ := lt_elim H; rw [← ht2] at hS
  refine L_end ?_
  refine wp_seq ?_
  refine L_region [0, 1, 2, 3, 4, 5, 6] (by kernel_rfl) ?_
  refine L_pure hS [0, 1, 2, 3, 4, 5, 6] [] [0, 2] [(0, .int .u64 (IntKind.u64.wrap ((Go.bits .and .u64 (t1.fdiv (2 ^ 2)) 3689348814741910323) + (Go.bits .and .u64 t1 3689348814741910323)))), (2, .int .i64 0)] (by kernel_rfl) (fun a_ hS => ?_)
  obtain ⟨t3, ht4, H⟩ := lt_elim H; rw [← ht4] at hS
  refine L_end ?_
  refine wp_seq ?_
  refine L_region [0, 1, 2, 3, 4, 5] (by kernel_rfl) ?_
  refine L_pure hS [0, 1, 2, 3, 4, 5] [] [0, 2] [(0, .int .u64 (Go.bits .and .u64 (IntKind.u64.wrap ((t3.fdiv (2 ^ 4)) + t3)) 1085102592571150095)), (2, .int .i64 0)] (by kernel_rfl) (fun a_ hS => ?_)
  obtain ⟨t5, ht6, H⟩ := lt_elim H; rw [← ht6] at hS
  refine L_end ?_
  refine wp_seq ?_
  refine L_region [0, 1, 2, 3, 4] (by kernel_rfl) ?_
  refine L_pure hS [0, 1, 2, 3, 4] [] [0, 2] [(0, .int .u64 (IntKind.u64.wrap (t5 + (t5.fdiv (2 ^ 8))))), (2, .int .i64 0)] (by kernel_rfl) (fun a_ hS => ?_)
  obtain ⟨t7, ht8, H⟩ := lt_elim H; rw [← ht8] at hS
  refine L_end ?_
  refine wp_seq ?_
  refine L_region [0, 1, 2, 3, 4] (by kernel_rfl) ?_
  refine L_pure hS [0, 1, 2, 3, 4] [] [0, 2] [(0, .int .u64 (IntKind.u64.wrap (t7 + (t7.fdiv (2 ^ 16))))), (2, .int .i64 0)] (by kernel_rfl) (fun a_ hS => ?_)
  obtain ⟨t9, ht10, H⟩ := lt_elim H; rw [← ht10] at hS
  refine L_end ?_
  refine wp_seq ?_
  refine L_region [0, 1, 2, 3, 4] (by kernel_rfl) ?_
  refine L_pure hS [0, 1, 2, 3, 4] [] [0, 2] [(0, .int .u64 (IntKind.u64.wrap (t9 + (t9.fdiv (2 ^ 32))))), (2, .int .i64 0)] (by kernel_rfl) (fun a_ hS => ?_)
  obtain ⟨t11, ht12, H⟩ := lt_elim H; rw [← ht12] at hS
  refine L_end ?_
  refine wp_seq ?_
  refine L_region [0, 1, 2, 3] (by kernel_rfl) ?_
  refine L_pure hS [0, 1, 2, 3] [] [2] [(2, .int .i64 (Go.bits .and .i64 (IntKind.i64.wrap t11) 127))] (by kernel_rfl) (fun a_ hS => ?_)
  obtain ⟨t13, ht14, H⟩ := lt_elim H; rw [← ht14] at hS
  refine L_end ?_
  refine wp_ret ?_
  obtain rfl := Option.some.inj H
  refine bodyPost_ret (results_tmp rfl _ _ _) hS.defers ?_
  rw [hS.getD (t := 2) rfl]
  exact ⟨rfl, hB⟩

/-! ### set_Set_Count: function 12 -/
def set_Set_Count.f (a0 : Int) : Option (Int) := (bits_OnesCount64.f a0).bind fun t1 => some (t1)
set_option maxRecDepth 100000 in
set_option maxHeartbeats 4000000 in
theorem set_Set_Count.calls (a0 : Int) {I : Imm} {W : World} (hF : Fits I W) {r : Int} (H : set_Set_Count.f a0 = some r) :
    Calls Tryd.prog 12 #[.int .u64 a0] W (EndS (.int .i64 r) W) := by
  unfold set_Set_Count.f at H
  refine enterL (l := [.int .u64 a0]) Tryd.func12 rfl 5 rfl (by kernel_rfl) (fun a_ hS => ?_)
  have hB := Below.refl W.heap.size W
  refine wp_seq ?_
  refine L_region [0] (by kernel_rfl) ?_
  refine L_pure hS [0] [] [0, 2] [(0, .int .u64 a0), (2, .int .i64 0)] (by kernel_rfl) (fun a_ hS => ?_)
  refine L_end ?_
  refine wp_seq ?_
  refine L_region [0, 1, 2] (by kernel_rfl) ?_
  refine L_pure hS [0] [1, 2] [2, 3] [(2, .int .i64 0), (3, .int .u64 a0)] (by kernel_rfl) (fun a_ hS => ?_)
  obtain ⟨t1, hq2, H⟩ := bind_elim H
  refine L_op hS (i := 1) rfl (by kernel_rfl) ?_
  refine wp_call hS [.int .u64 a0] rfl Tryd.func21 (by kernel_rfl) (by kernel_rfl) (by kernel_rfl) (bits_OnesCount64.calls a0 hF hq2) ?_
  rintro e_ w_ ⟨rfl, hb⟩
  refine ⟨_, _, rfl, rfl, ?_⟩; intro a_ hS
  have hF := hF.below hb
  have hB := hB.trans (hb.mono hB.size)
  refine L_pure hS [2] [] [2] [(2, .int .i64 t1)] (by kernel_rfl) (fun a_ hS => ?_)
  refine L_end ?_
  refine wp_ret ?_
  obtain rfl := Option.some.inj H
  refine bodyPost_ret (results_tmp rfl _ _ _) hS.defers ?_
  rw [hS.getD (t := 2) rfl]
  exact ⟨rfl, hB⟩

/-! ### set_Set_Has: function 10 -/
def set_Set_Has.f (a0 : Int) (a1 : Int) : Option (Bool) := (set_digit.f a1).bind fun t1 => some ((Go.bits .and .u64 a0 t1) != 0)
set_option maxRecDepth 100000 in
set_option maxHeartbeats 4000000 in
theorem set_Set_Has.calls (a0 : Int) (a1 : Int) {I : Imm} {W : World} (hF : Fits I W) {r : Bool} (H : set_Set_Has.f a0 a1 = some r) :
    Calls Tryd.prog 10 #[.int .u64 a0, .int .i64 a1] W (EndS (.bool r) W) := by
  unfold set_Set_Has.f at H
  refine enterL (l := [.int .u64 a0, .int .i64 a1]) Tryd.func10 rfl 10 rfl (by kernel_rfl) (fun a_ hS => ?_)
  have hB := Below.refl W.heap.size W
  refine wp_seq ?_
  refine L_region [0] (by kernel_rfl) ?_
  refine L_pure hS [0] [] [0, 1, 4] [(0, .int .u64 a0), (1, .int .i64 a1), (4, .bool false)] (by kernel_rfl) (fun a_ hS => ?_)
  refine L_end ?_
  refine wp_seq ?_
  refine L_region [0, 1, 2, 3, 4, 5] (by kernel_rfl) ?_
  refine L_pure hS [0, 1] [2, 3, 4, 5] [4, 5, 6] [(4, .bool false), (5, .int .u64 a0), (6, .int .i64 a1)] (by kernel_rfl) (fun a_ hS => ?_)
  obtain ⟨t1, hq2, H⟩ := bind_elim H
  refine L_op hS (i := 2) rfl (by kernel_rfl) ?_
  refine wp_call hS [.int .i64 a1] rfl Tryd.func20 (by kernel_rfl) (by kernel_rfl) (by kernel_rfl) (set_digit.calls a1 hF hq2) ?_
  rintro e_ w_ ⟨rfl, hb⟩
  refine ⟨_, _, rfl, rfl, ?_⟩; intro a_ hS
  have hF := hF.below hb
  have hB := hB.trans (hb.mono hB.size)
  refine L_pure hS [3, 4, 5] [] [4] [(4, .bool ((Go.bits .and .u64 a0 t1) != 0))] (by kernel_rfl) (fun a_ hS => ?_)
  refine L_end ?_
  refine wp_ret ?_
  obtain rfl := Option.some.inj H
  refine bodyPost_ret (results_tmp rfl _ _ _) hS.defers ?_
  rw [hS.getD (t := 4) rfl]
  exact ⟨rfl, hB⟩

/-! ### exegetekeep_Same_int: function 18 -/
def exegetekeep_Same_int.l0 (a0 : List Int) (a1 : List Int) (K10 : Bool → Int → Option (Bool)) : Nat → Bool → Int → Option (Bool)
  | 0, _, _ => none
  | k11 + 1, x6, x7 => if decide (x7 < (a0.length : Int)) then (chk ((0 : Int) ≤ x7 ∧ x7 < (a0.length : Int)) (chk ((0 : Int) ≤ x7 ∧ x7 < (a1.length : Int)) (if (a0.getD (x7 : Int).toNat 0) != (a1.getD (x7 : Int).toNat 0) then (some (false)) else (exegetekeep_Same_int.l0 a0 a1 K10 k11 x6 (IntKind.i64.wrap (x7 + 1)))))) else (K10 x6 x7)
def exegetekeep_Same_int.f (F : Nat) (a0 : List Int) (a1 : List Int) : Option (Bool) := if (a0.length : Int) != (a1.length : Int) then (some (false)) else (jn (fun (K4 : Bool → Option (Bool)) => exegetekeep_Same_int.l0 a0 a1 (fun (y12 : Bool) (y13 : Int) => K4 y12) F false 0) (fun (x3 : Bool) => some (true)))
set_option maxRecDepth 100000 in
set_option maxHeartbeats 4000000 in
theorem exegetekeep_Same_int.calls (F : Nat) (a0 : List Int) (a1 : List Int) {I : Imm} {W : World} {v0 : Value} {v1 : Value} (hF : Fits I W) (h0 : RepV I (SL 1 (XI .i64) a0) v0) (h1 : RepV I (SL 1 (XI .i64) a1) v1) {r : Bool} (H : exegetekeep_Same_int.f F a0 a1 = some r) :
    Calls Tryd.prog 18 #[v0, v1] W (EndS (.bool r) W) := by
  unfold exegetekeep_Same_int.f at H
  have hR1 := h0
  obtain ⟨A1, c1, rfl, hl1, hm1⟩ := SL_len hR1
  have hR2 := h1
  obtain ⟨A2, c2, rfl, hl2, hm2⟩ := SL_len hR2
  refine enterL (l := [.slice A1 a0.length c1, .slice A2 a1.length c2]) Tryd.func18 rfl 26 rfl (by kernel_rfl) (fun a_ hS => ?_)
  have hB := Below.refl W.heap.size W
  refine wp_seq ?_
  refine L_region [0] (by kernel_rfl) ?_
  refine L_pure hS [0] [] [0, 1, 4] [(0, .slice A1 a0.length c1), (1, .slice A2 a1.length c2), (4, .bool false)] (by kernel_rfl) (fun a_ hS => ?_)
  refine L_end ?_
  refine wp_seq ?_
  refine wp_seq ?_
  refine L_region [0, 1, 2, 3, 4] (by kernel_rfl) ?_
  refine L_pure hS [0, 1, 2, 3, 4] [] [0, 1, 4, 10] [(0, .slice A1 a0.length c1), (1, .slice A2 a1.length c2), (4, .bool false), (10, .bool ((a0.length : Int) != (a1.length : Int)))] (by kernel_rfl) (fun a_ hS => ?_)
  refine L_end ?_
  refine c_cond hS (c := .tmp 10) rfl (fun hb => ?_) (fun hb => ?_)
  · rw [if_pos hb] at H
    refine wp_seq ?_
    refine L_region [0] (by kernel_rfl) ?_
    refine L_pure hS [0] [] [0, 1, 4] [(0, .slice A1 a0.length c1), (1, .slice A2 a1.length c2), (4, .bool false)] (by kernel_rfl) (fun a_ hS => ?_)
    refine L_end ?_
    refine wp_ret ?_
    obtain rfl := Option.some.inj H
    refine bodyPost_ret (results_tmp rfl _ _ _) hS.defers ?_
    rw [hS.getD (t := 4) rfl]
    exact ⟨rfl, hB⟩
  · rw [if_neg (nt hb)] at H
    refine wp_skip ?_
    refine wp_seq ?_
    refine wp_seq ?_
    refine L_region [0] (by kernel_rfl) ?_
    refine L_pure hS [0] [] [0, 1, 4, 5] [(0, .slice A1 a0.length c1), (1, .slice A2 a1.length c2), (4, .bool false), (5, .int .i64 0)] (by kernel_rfl) (fun a_ hS => ?_)
    refine L_end ?_
    obtain ⟨K4, hK4, H⟩ := jn_elim H
    try dsimp only at H
    refine c_cut (fun a_ w => ∃ (x3 : Bool), Sat 26 [] [(4, .bool x3)] a_ ∧ Below W.heap.size W w ∧ Fits I w ∧ K4 x3 = some r) ?_ ?_
    · skip
      refine wp_block ?_
      obtain ⟨K10, hK10, H⟩ : ∃ K_, K_ = _ ∧ exegetekeep_Same_int.l0 a0 a1 K_ F false 0 = some r := ⟨_, rfl, H⟩
      refine c_loop (G := Nat) (fun m_ a_ w => ∃ (x6 : Bool) (x7 : Int), Sat 26 [] [(0, .slice A1 a0.length c1), (1, .slice A2 a1.length c2), (4, .bool x6), (5, .int .i64 x7)] a_ ∧ Below W.heap.size W w ∧ Fits I w ∧ exegetekeep_Same_int.l0 a0 a1 K10 m_ x6 x7 = some r) (fun m_ => m_) F ⟨false, 0, hS.pick (l := [0, 1, 4, 5]) (by kernel_rfl), hB, hF, H⟩ ?_
      clear H
      intro m_ a_ w_ hI_
      obtain ⟨x6, x7, hS, hB, hF, H⟩ := hI_
      cases m_ with
      | zero => exact absurd H (by simp [exegetekeep_Same_int.l0])
      | succ k11 =>
        rw [exegetekeep_Same_int.l0] at H
        refine wp_seq ?_
        refine wp_seq ?_
        refine L_region [0, 1, 2, 3] (by kernel_rfl) ?_
        refine L_pure hS [0, 1, 2, 3] [] [0, 1, 4, 5, 14] [(0, .slice A1 a0.length c1), (1, .slice A2 a1.length c2), (4, .bool x6), (5, .int .i64 x7), (14, .bool (decide (x7 < (a0.length : Int))))] (by kernel_rfl) (fun a_ hS => ?_)
        refine L_end ?_
        refine c_cond hS (c := .tmp 14) rfl (fun hb => ?_) (fun hb => ?_)
        · rw [if_pos hb] at H
          refine wp_skip ?_
          refine wp_seq ?_
          refine wp_block ?_
          refine wp_seq ?_
          have hGS := Grow.of hF W.heap.size
          refine H_regionI hF (by kernel_rfl) 9 #[false, false, false, false, false, false, false, false, false] (by kernel_rfl) (by kernel_rfl) [(some 17, [0], []), (some 18, [5], []), (some 19, [17, 18], [0, 1]), (some 20, [19], [2]), (some 21, [1], []), (some 22, [5], []), (some 23, [21, 22], [4, 5]), (some 24, [23], [6]), (some 25, [20, 24], [3, 7])] (by kernel_rfl) (fun hI => ?_)
          have hF := hF.drew
          have hB := hB.drew
          refine H_pure hI (by kernel_rfl) (fun _ _ _ _ _ h => h) hS hF [0, 1, 4, 5] [0, 1, 4, 5, 17, 18, 21, 22] #[false, false, false, false, false, false, false, false, false] #[true, true, false, false, true, true, false, false, false] [(0, .slice A1 a0.length c1), (1, .slice A2 a1.length c2), (4, .bool x6), (5, .int .i64 x7), (17, .slice A1 a0.length c1), (18, .int .i64 x7), (21, .slice A2 a1.length c2), (22, .int .i64 x7)] 5 (by kernel_rfl) (fun a_ hS => ?_)
          obtain ⟨hc14, H⟩ := chk_elim H
          obtain ⟨ad15, hA16, hx17⟩ := SL_atn hR1 (0 : Int) (x7 : Int) hc14.1 hc14.2
          refine H_take hI (by kernel_rfl) (fun _ _ _ _ _ h => h) hS hF 2 (.pointer (some ((ad15 : Addr).add ((x7 : Int).toNat * 1)))) #[true, true, true, false, true, true, false, false, false] ([(19, .pointer (some ((ad15 : Addr).add ((x7 : Int).toNat * 1)))), (0, .slice A1 a0.length c1), (1, .slice A2 a1.length c2), (4, .bool x6), (5, .int .i64 x7), (17, .slice A1 a0.length c1), (18, .int .i64 x7), (21, .slice A2 a1.length c2), (22, .int .i64 x7)]) rfl (by kernel_rfl) (by kernel_rfl) (by kernel_rfl) (y_indexAddr hS hA16 rfl rfl rfl Tryd.underlying22 (by kernel_rfl) hc14.1 hc14.2) rfl ?_; intro a_ hS
          obtain ⟨u19, hI20, hR21⟩ := hx17 0 _ rfl
          obtain rfl := hR21.val_inv
          rw [add_0] at hI20
          refine H_take hI (by kernel_rfl) (fun _ _ _ _ _ h => h) hS hF 3 (.int .i64 (a0.getD (x7 : Int).toNat 0)) #[true, true, true, true, true, true, false, false, false] ([(20, .int .i64 (a0.getD (x7 : Int).toNat 0)), (19, .pointer (some ((ad15 : Addr).add ((x7 : Int).toNat * 1)))), (0, .slice A1 a0.length c1), (1, .slice A2 a1.length c2), (4, .bool x6), (5, .int .i64 x7), (17, .slice A1 a0.length c1), (18, .int .i64 x7), (21, .slice A2 a1.length c2), (22, .int .i64 x7)]) rfl (by kernel_rfl) (by kernel_rfl) (by kernel_rfl) (y_load1 hS rfl rfl Tryd.underlying3 rfl hI20) rfl ?_; intro a_ hS
          obtain ⟨hc22, H⟩ := chk_elim H
          obtain ⟨ad23, hA24, hx25⟩ := SL_atn hR2 (0 : Int) (x7 : Int) hc22.1 hc22.2
          refine H_take hI (by kernel_rfl) (fun _ _ _ _ _ h => h) hS hF 6 (.pointer (some ((ad23 : Addr).add ((x7 : Int).toNat * 1)))) #[true, true, true, true, true, true, true, false, false] ([(23, .pointer (some ((ad23 : Addr).add ((x7 : Int).toNat * 1)))), (20, .int .i64 (a0.getD (x7 : Int).toNat 0)), (19, .pointer (some ((ad15 : Addr).add ((x7 : Int).toNat * 1)))), (0, .slice A1 a0.length c1), (1, .slice A2 a1.length c2), (4, .bool x6), (5, .int .i64 x7), (17, .slice A1 a0.length c1), (18, .int .i64 x7), (21, .slice A2 a1.length c2), (22, .int .i64 x7)]) rfl (by kernel_rfl) (by kernel_rfl) (by kernel_rfl) (y_indexAddr hS hA24 rfl rfl rfl Tryd.underlying22 (by kernel_rfl) hc22.1 hc22.2) rfl ?_; intro a_ hS
          obtain ⟨u27, hI28, hR29⟩ := hx25 0 _ rfl
          obtain rfl := hR29.val_inv
          rw [add_0] at hI28
          refine H_take hI (by kernel_rfl) (fun _ _ _ _ _ h => h) hS hF 7 (.int .i64 (a1.getD (x7 : Int).toNat 0)) #[true, true, true, true, true, true, true, true, false] ([(24, .int .i64 (a1.getD (x7 : Int).toNat 0)), (23, .pointer (some ((ad23 : Addr).add ((x7 : Int).toNat * 1)))), (20, .int .i64 (a0.getD (x7 : Int).toNat 0)), (19, .pointer (some ((ad15 : Addr).add ((x7 : Int).toNat * 1)))), (0, .slice A1 a0.length c1), (1, .slice A2 a1.length c2), (4, .bool x6), (5, .int .i64 x7), (17, .slice A1 a0.length c1), (18, .int .i64 x7), (21, .slice A2 a1.length c2), (22, .int .i64 x7)]) rfl (by kernel_rfl) (by kernel_rfl) (by kernel_rfl) (y_load1 hS rfl rfl Tryd.underlying3 rfl hI28) rfl ?_; intro a_ hS
          refine H_pure hI (by kernel_rfl) (fun _ _ _ _ _ h => h) hS hF [8] [0, 1, 4, 5, 25] #[true, true, true, true, true, true, true, true, false] #[true, true, true, true, true, true, true, true, true] [(0, .slice A1 a0.length c1), (1, .slice A2 a1.length c2), (4, .bool x6), (5, .int .i64 x7), (25, .bool ((a0.getD (x7 : Int).toNat 0) != (a1.getD (x7 : Int).toNat 0)))] 0 (by kernel_rfl) (fun a_ hS => ?_)
          refine H_end (by kernel_rfl) ?_
          refine c_cond hS (c := .tmp 25) rfl (fun hb => ?_) (fun hb => ?_)
          · rw [if_pos hb] at H
            refine wp_seq ?_
            refine L_region [0] (by kernel_rfl) ?_
            refine L_pure hS [0] [] [0, 1, 4, 5] [(0, .slice A1 a0.length c1), (1, .slice A2 a1.length c2), (4, .bool false), (5, .int .i64 x7)] (by kernel_rfl) (fun a_ hS => ?_)
            refine L_end ?_
            refine wp_ret ?_
            obtain rfl := Option.some.inj H
            refine bodyPost_ret (results_tmp rfl _ _ _) hS.defers ?_
            rw [hS.getD (t := 4) rfl]
            exact ⟨rfl, hB⟩
          · rw [if_neg (nt hb)] at H
            refine wp_skip ?_
            refine L_region [0, 1, 2] (by kernel_rfl) ?_
            refine L_pure hS [0, 1, 2] [] [0, 1, 4, 5] [(0, .slice A1 a0.length c1), (1, .slice A2 a1.length c2), (4, .bool x6), (5, .int .i64 (IntKind.i64.wrap (x7 + 1)))] (by kernel_rfl) (fun a_ hS => ?_)
            refine L_end ?_
            exact ⟨k11, Nat.lt_succ_self _, x6, (IntKind.i64.wrap (x7 + 1)), hS.pick (l := [0, 1, 4, 5]) (by kernel_rfl), hB, hF, H⟩
        · rw [if_neg (nt hb)] at H
          refine wp_exit ?_
          refine x_then ?_
          refine x_then ?_
          refine x_hit ?_
          subst hK10
          try dsimp only at H
          exact ⟨x6, hS.pick (l := [4]) (by kernel_rfl), hB, hF, H⟩
    clear H
    rintro a_ w_ ⟨x3, hS, hB, hF, H⟩
    subst hK4
    try dsimp only at H
    refine wp_seq ?_
    refine L_region [0] (by kernel_rfl) ?_
    refine L_pure hS [0] [] [4] [(4, .bool true)] (by kernel_rfl) (fun a_ hS => ?_)
    refine L_end ?_
    refine wp_ret ?_
    obtain rfl := Option.some.inj H
    refine bodyPost_ret (results_tmp rfl _ _ _) hS.defers ?_
    rw [hS.getD (t := 4) rfl]
    exact ⟨rfl, hB⟩

/-! ### exegetelaw02_wakes: function 15 -/
def exegetelaw02_wakes.f (F : Nat) : Option (Bool) := (set_Of.f ([3, 1] : List Int)).bind fun t3 => (set_Set_List.f F t3).bind fun t5 => (exegetekeep_Same_int.f F t5 ([1, 3] : List Int)).bind fun t16 => some (t16)
set_option maxRecDepth 100000 in
set_option maxHeartbeats 4000000 in
theorem exegetelaw02_wakes.calls (F : Nat) {I : Imm} {W : World} (hF : Fits I W) (hT : TabOK I) {r : Bool} (H : exegetelaw02_wakes.f F = some r) :
    Calls Tryd.prog 15 #[] W (EndS (.bool r) W) := by
  unfold exegetelaw02_wakes.f at H
  refine enterL (l := []) Tryd.func15 rfl 6 rfl (by kernel_rfl) (fun a_ hS => ?_)
  have hB := Below.refl W.heap.size W
  refine wp_seq ?_
  refine L_region [0] (by kernel_rfl) ?_
  refine L_pure hS [0] [] [0] [(0, .bool false)] (by kernel_rfl) (fun a_ hS => ?_)
  refine L_end ?_
  refine wp_seq ?_
  refine L_region [0, 1, 2, 3, 4, 5] (by kernel_rfl) ?_
  refine L_op hS (i := 0) rfl (by kernel_rfl) ?_
  refine wp_lit (base := W.heap.size) (f := (XI .i64)) hS rfl [(0, .int .i64 3), (1, .int .i64 1)] (by kernel_rfl) (.int .i64 0) Tryd.underlying22 (by kernel_rfl) rfl rfl #[.int .i64 3, .int .i64 1] (by kernel_rfl) rfl rfl (fun _ => ⟨rfl, rfl⟩) hF hB.size ([3, 1] : List Int) rfl ⟨.val _, .val _, trivial⟩ (Nat.le_of_ble_eq_true rfl) ?_
  intro b1 w_ hO1 hbn_ hb a_ hS
  have hF := hF.below hb
  have hB := hB.trans (hb.mono hB.size)
  obtain ⟨t3, hq4, H⟩ := bind_elim H
  refine L_op hS (i := 1) rfl (by kernel_rfl) ?_
  refine wp_call hS [.slice (some ⟨b1, 0, none⟩) (([3, 1] : List Int)).length 2] rfl Tryd.func8 (by kernel_rfl) (by kernel_rfl) (by kernel_rfl) (set_Of.calls ([3, 1] : List Int) (Own.addFits hF) hO1.rep hq4) ?_
  rintro e_ w_ ⟨rfl, hb⟩
  refine ⟨_, _, rfl, rfl, ?_⟩; intro a_ hS
  have hF := hF.below hb
  have hO1 := (hO1).below hb
  have hB := hB.trans (hb.mono hB.size)
  obtain ⟨t5, hq6, H⟩ := bind_elim H
  refine L_op hS (i := 2) rfl (by kernel_rfl) ?_
  refine wp_call hS [.int .u64 t3] rfl Tryd.func9 (by kernel_rfl) (by kernel_rfl) (by kernel_rfl) (set_Set_List.calls F t3 hF hT hq6) ?_
  rintro e_ w_ ⟨v_, J7, rfl, hg8, hF_, hr_, hb⟩
  refine ⟨_, _, rfl, rfl, ?_⟩; intro a_ hS
  have hO9 := hr_.lower hB.size
  have hP10 := hO1.apart_of hr_ (Nat.le_refl _)
  have hO1 := (hO1.grow hg8 (Nat.le_refl _)).below hb
  have hT := hT.mono hg8.ext
  have hB := hB.trans (hb.mono hB.size)
  have hF := hF_
  obtain ⟨A9, c9, rfl, hl9, hm9⟩ := hO9.form
  refine L_op hS (i := 3) rfl (by kernel_rfl) ?_
  refine wp_lit (base := W.heap.size) (f := (XI .i64)) hS rfl [(0, .int .i64 1), (1, .int .i64 3)] (by kernel_rfl) (.int .i64 0) Tryd.underlying22 (by kernel_rfl) rfl rfl #[.int .i64 1, .int .i64 3] (by kernel_rfl) rfl rfl (fun _ => ⟨rfl, rfl⟩) hF hB.size ([1, 3] : List Int) rfl ⟨.val _, .val _, trivial⟩ (Nat.le_of_ble_eq_true rfl) ?_
  intro b11 w_ hO11 hbn_ hb a_ hS
  have hP12 : Apart (.slice A9 t5.length c9) (.slice (some ⟨b11, 0, none⟩) (([1, 3] : List Int)).length 2) := hO9.apart_new hbn_
  have hP13 : Apart (.slice (some ⟨b1, 0, none⟩) (([3, 1] : List Int)).length 2) (.slice (some ⟨b11, 0, none⟩) (([1, 3] : List Int)).length 2) := hO1.apart_new hbn_
  have hF := hF.below hb
  have hO9 := (hO9).below hb
  have hO1 := (hO1).below hb
  have hB := hB.trans (hb.mono hB.size)
  have hO9' := hO11.addOther hO9 hP12.symm
  have hO1' := hO11.addOther hO1 hP13.symm
  have hT := hT.mono hO11.addGrow.ext
  have hF := Own.addFits hF (v := .slice (some ⟨b11, 0, none⟩) (([1, 3] : List Int)).length 2)
  have hO9 := hO9'
  have hO1 := hO1'
  have hO11 := hO11.rep
  have hO1' := hO9.addOther hO1 hP10.symm
  have hT := hT.mono hO9.addGrow.ext
  have hO11 := hO11.mono hO9.addGrow.ext
  have hF := Own.addFits hF (v := .slice A9 t5.length c9)
  have hO1 := hO1'
  have hO9 := hO9.rep
  obtain ⟨J14, hJ15⟩ := nameI hF; rw [← hJ15] at hF hT hO11 hO9 hO1
  obtain ⟨t16, hq17, H⟩ := bind_elim H
  refine L_op hS (i := 4) rfl (by kernel_rfl) ?_
  refine wp_call hS [.slice A9 t5.length c9, .slice (some ⟨b11, 0, none⟩) (([1, 3] : List Int)).length 2] rfl Tryd.func18 (by kernel_rfl) (by kernel_rfl) (by kernel_rfl) (exegetekeep_Same_int.calls F t5 ([1, 3] : List Int) hF hO9 hO11 hq17) ?_
  rintro e_ w_ ⟨rfl, hb⟩
  refine ⟨_, _, rfl, rfl, ?_⟩; intro a_ hS
  have hF := hF.below hb
  have hO1 := (hO1).below hb
  have hB := hB.trans (hb.mono hB.size)
  refine L_pure hS [5] [] [0] [(0, .bool t16)] (by kernel_rfl) (fun a_ hS => ?_)
  refine L_end ?_
  refine wp_ret ?_
  obtain rfl := Option.some.inj H
  refine bodyPost_ret (results_tmp rfl _ _ _) hS.defers ?_
  rw [hS.getD (t := 0) rfl]
  exact ⟨rfl, hB⟩

/-! ### exegetelaw02_SetLaws: function 6 -/
def exegetelaw02_SetLaws.f (F : Nat) (a0 : Int) (a1 : Int) (a2 : Int) (a3 : Int) : Option (Bool) := lt (Go.bits .or .u64 (IntKind.u64.wrap a0) (IntKind.u64.wrap ((IntKind.u64.wrap a1) * 2 ^ 32))) fun (t1 : Int) => lt (Go.bits .xor .u64 (IntKind.u64.wrap ((IntKind.u64.wrap a1) * 2 ^ 17)) (IntKind.u64.wrap a2)) fun (t3 : Int) => lt (IntKind.u64.wrap ((IntKind.u64.wrap a2) * 2 ^ 31)) fun (t5 : Int) => (exegetekeep_Within.f a3 64).bind fun t7 => (set_Set_Join.f t1 t3).bind fun t9 => (set_Set_Join.f t3 t1).bind fun t11 => if t9 == t11 then ((set_Set_Both.f t1 t3).bind fun t13 => (set_Set_Both.f t3 t1).bind fun t15 => if t13 == t15 then ((set_Set_Join.f t1 t3).bind fun t17 => (set_Set_Both.f t17 t5).bind fun t19 => (set_Set_Both.f t1 t5).bind fun t21 => (set_Set_Both.f t3 t5).bind fun t23 => (set_Set_Join.f t21 t23).bind fun t25 => if t19 == t25 then ((set_Set_Less.f t1 t3).bind fun t27 => (set_Set_Both.f t1 t3).bind fun t29 => (set_Set_Join.f t27 t29).bind fun t31 => if t31 == t1 then ((set_Set_Less.f t1 t3).bind fun t33 => (set_Set_Both.f t33 t3).bind fun t35 => (set_Of.f ([] : List Int)).bind fun t37 => if t35 == t37 then ((set_Set_Join.f t1 t3).bind fun t39 => (set_Set_In.f t1 t39).bind fun t41 => if t41 then ((set_Set_Both.f t1 t3).bind fun t43 => (set_Set_In.f t43 t1).bind fun t45 => if t45 then ((set_Set_List.f F t1).bind fun t47 => (set_Of.f t47).bind fun t53 => if t53 == t1 then ((set_Set_Join.f t1 t3).bind fun t55 => (set_Set_Count.f t55).bind fun t57 => (set_Set_Both.f t1 t3).bind fun t59 => (set_Set_Count.f t59).bind fun t61 => (set_Set_Count.f t1).bind fun t63 => (set_Set_Count.f t3).bind fun t65 => if (IntKind.i64.wrap (t57 + t61)) == (IntKind.i64.wrap (t63 + t65)) then ((set_Set_With.f t1 t7).bind fun t67 => (set_Set_Has.f t67 t7).bind fun t69 => if t69 then ((set_Set_With.f t1 t7).bind fun t71 => (set_Of.f ([t7] : List Int)).bind fun t75 => (set_Set_Less.f t71 t75).bind fun t77 => (set_Of.f ([t7] : List Int)).bind fun t81 => (set_Set_Less.f t1 t81).bind fun t83 => if t77 == t83 then ((set_Of.f ([] : List Int)).bind fun t85 => (set_Set_Count.f t85).bind fun t87 => if t87 == 0 then ((exegetelaw02_wakes.f F).bind fun t89 => some (t89)) else (some (false))) else (some (false))) else (some (false))) else (some (false))) else (some (false))) else (some (false))) else (some (false))) else (some (false))) else (some (false))) else (some (false))) else (some (false))) else (some (false))
set_option maxRecDepth 100000 in
set_option maxHeartbeats 4000000 in
theorem exegetelaw02_SetLaws.calls (F : Nat) (a0 : Int) (a1 : Int) (a2 : Int) (a3 : Int) {I : Imm} {W : World} (hF : Fits I W) (hT : TabOK I) {r : Bool} (H : exegetelaw02_SetLaws.f F a0 a1 a2 a3 = some r) :
    Calls Tryd.prog 6 #[.int .u32 a0, .int .u32 a1, .int .u32 a2, .int .i64 a3] W (EndS (.bool r) W) := by
  unfold exegetelaw02_SetLaws.f at H
  refine enterL (l := [.int .u32 a0, .int .u32 a1, .int .u32 a2, .int .i64 a3]) Tryd.func6 rfl 148 rfl (by kernel_rfl) (fun a_ hS => ?_)
  have hB := Below.refl W.heap.size W
  refine wp_seq ?_
  refine L_region [0] (by kernel_rfl) ?_
  refine L_pure hS [0] [] [0, 1, 2, 3, 8] [(0, .int .u32 a0), (1, .int .u32 a1), (2, .int .u32 a2), (3, .int .i64 a3), (8, .bool false)] (by kernel_rfl) (fun a_ hS => ?_)
  refine L_end ?_
  refine wp_seq ?_
  refine L_region [0, 1, 2, 3, 4, 5, 6, 7, 8, 9, 10, 11, 12, 13, 14, 15, 16, 17] (by kernel_rfl) ?_
  refine L_pure hS [0, 1, 2, 3, 4, 5, 6, 7, 8, 9, 10, 11, 12, 13, 14, 15, 16, 17] [] [3, 8, 9, 10, 11] [(3, .int .i64 a3), (8, .bool false), (9, .int .u64 (Go.bits .or .u64 (IntKind.u64.wrap a0) (IntKind.u64.wrap ((IntKind.u64.wrap a1) * 2 ^ 32)))), (10, .int .u64 (Go.bits .xor .u64 (IntKind.u64.wrap ((IntKind.u64.wrap a1) * 2 ^ 17)) (IntKind.u64.wrap a2))), (11, .int .u64 (IntKind.u64.wrap ((IntKind.u64.wrap a2) * 2 ^ 31)))] (by kernel_rfl) (fun a_ hS => ?_)
  obtain ⟨t1, ht2, H⟩ := lt_elim H; rw [← ht2] at hS
  obtain ⟨t3, ht4, H⟩ := lt_elim H; rw [← ht4] at hS
  obtain ⟨t5, ht6, H⟩ := lt_elim H; rw [← ht6] at hS
  refine L_end ?_
  refine wp_seq ?_
  refine L_region [0, 1, 2] (by kernel_rfl) ?_
  refine L_pure hS [0] [1, 2] [3, 8, 9, 10, 11, 27] [(3, .int .i64 a3), (8, .bool false), (9, .int .u64 t1), (10, .int .u64 t3), (11, .int .u64 t5), (27, .int .i64 a3)] (by kernel_rfl) (fun a_ hS => ?_)
  obtain ⟨t7, hq8, H⟩ := bind_elim H
  refine L_op hS (i := 1) rfl (by kernel_rfl) ?_
  refine wp_call hS [.int .i64 a3, .int .i64 64] rfl Tryd.func7 (by kernel_rfl) (by kernel_rfl) (by kernel_rfl) (exegetekeep_Within.calls a3 64 hF hq8) ?_
  rintro e_ w_ ⟨rfl, hb⟩
  refine ⟨_, _, rfl, rfl, ?_⟩; intro a_ hS
  have hF := hF.below hb
  have hB := hB.trans (hb.mono hB.size)
  refine L_pure hS [2] [] [3, 8, 9, 10, 11] [(3, .int .i64 t7), (8, .bool false), (9, .int .u64 t1), (10, .int .u64 t3), (11, .int .u64 t5)] (by kernel_rfl) (fun a_ hS => ?_)
  refine L_end ?_
  refine wp_seq ?_
  refine L_region [0, 1, 2, 3, 4, 5, 6, 7, 8, 9, 10, 11, 12, 13, 14, 15, 16, 17, 18, 19, 20, 21, 22, 23, 24, 25, 26, 27, 28, 29, 30, 31, 32, 33, 34, 35, 36, 37, 38, 39, 40, 41, 42, 43, 44, 45, 46, 47, 48, 49, 50, 51, 52, 53, 54, 55, 56, 57, 58, 59, 60, 61, 62, 63, 64, 65, 66, 67, 68, 69, 70, 71, 72, 73, 74, 75, 76, 77, 78, 79, 80, 81, 82, 83, 84, 85, 86, 87, 88, 89, 90, 91, 92, 93, 94, 95, 96, 97, 98, 99, 100, 101, 102, 103, 104, 105, 106, 107, 108, 109, 110, 111, 112, 113, 114, 115, 116, 117, 118, 119] (by kernel_rfl) ?_
  refine L_pure hS [0, 1] [2, 3, 4, 5, 6, 7, 8, 9, 10, 11, 12, 13, 14, 15, 16, 17, 18, 19, 20, 21, 22, 23, 24, 25, 26, 27, 28, 29, 30, 31, 32, 33, 34, 35, 36, 37, 38, 39, 40, 41, 42, 43, 44, 45, 46, 47, 48, 49, 50, 51, 52, 53, 54, 55, 56, 57, 58, 59, 60, 61, 62, 63, 64, 65, 66, 67, 68, 69, 70, 71, 72, 73, 74, 75, 76, 77, 78, 79, 80, 81, 82, 83, 84, 85, 86, 87, 88, 89, 90, 91, 92, 93, 94, 95, 96, 97, 98, 99, 100, 101, 102, 103, 104, 105, 106, 107, 108, 109, 110, 111, 112, 113, 114, 115, 116, 117, 118, 119] [3, 8, 9, 10, 11, 29, 30] [(3, .int .i64 t7), (8, .bool false), (9, .int .u64 t1), (10, .int .u64 t3), (11, .int .u64 t5), (29, .int .u64 t1), (30, .int .u64 t3)] (by kernel_rfl) (fun a_ hS => ?_)
  obtain ⟨t9, hq10, H⟩ := bind_elim H
  refine L_op hS (i := 2) rfl (by kernel_rfl) ?_
  refine wp_call hS [.int .u64 t1, .int .u64 t3] rfl Tryd.func16 (by kernel_rfl) (by kernel_rfl) (by kernel_rfl) (set_Set_Join.calls t1 t3 hF hq10) ?_
  rintro e_ w_ ⟨rfl, hb⟩
  refine ⟨_, _, rfl, rfl, ?_⟩; intro a_ hS
  have hF := hF.below hb
  have hB := hB.trans (hb.mono hB.size)
  refine L_pure hS [3, 4] [5, 6, 7, 8, 9, 10, 11, 12, 13, 14, 15, 16, 17, 18, 19, 20, 21, 22, 23, 24, 25, 26, 27, 28, 29, 30, 31, 32, 33, 34, 35, 36, 37, 38, 39, 40, 41, 42, 43, 44, 45, 46, 47, 48, 49, 50, 51, 52, 53, 54, 55, 56, 57, 58, 59, 60, 61, 62, 63, 64, 65, 66, 67, 68, 69, 70, 71, 72, 73, 74, 75, 76, 77, 78, 79, 80, 81, 82, 83, 84, 85, 86, 87, 88, 89, 90, 91, 92, 93, 94, 95, 96, 97, 98, 99, 100, 101, 102, 103, 104, 105, 106, 107, 108, 109, 110, 111, 112, 113, 114, 115, 116, 117, 118, 119] [31, 3, 8, 9, 10, 11, 32, 33] [(31, .int .u64 t9), (3, .int .i64 t7), (8, .bool false), (9, .int .u64 t1), (10, .int .u64 t3), (11, .int .u64 t5), (32, .int .u64 t3), (33, .int .u64 t1)] (by kernel_rfl) (fun a_ hS => ?_)
  obtain ⟨t11, hq12, H⟩ := bind_elim H
  refine L_op hS (i := 5) rfl (by kernel_rfl) ?_
  refine wp_call hS [.int .u64 t3, .int .u64 t1] rfl Tryd.func16 (by kernel_rfl) (by kernel_rfl) (by kernel_rfl) (set_Set_Join.calls t3 t1 hF hq12) ?_
  rintro e_ w_ ⟨rfl, hb⟩
  refine ⟨_, _, rfl, rfl, ?_⟩; intro a_ hS
  have hF := hF.below hb
  have hB := hB.trans (hb.mono hB.size)
  refine L_pure hS [6, 7] [8, 9, 10, 11, 12, 13, 14, 15, 16, 17, 18, 19, 20, 21, 22, 23, 24, 25, 26, 27, 28, 29, 30, 31, 32, 33, 34, 35, 36, 37, 38, 39, 40, 41, 42, 43, 44, 45, 46, 47, 48, 49, 50, 51, 52, 53, 54, 55, 56, 57, 58, 59, 60, 61, 62, 63, 64, 65, 66, 67, 68, 69, 70, 71, 72, 73, 74, 75, 76, 77, 78, 79, 80, 81, 82, 83, 84, 85, 86, 87, 88, 89, 90, 91, 92, 93, 94, 95, 96, 97, 98, 99, 100, 101, 102, 103, 104, 105, 106, 107, 108, 109, 110, 111, 112, 113, 114, 115, 116, 117, 118, 119] [3, 8, 9, 10, 11, 36] [(3, .int .i64 t7), (8, .bool false), (9, .int .u64 t1), (10, .int .u64 t3), (11, .int .u64 t5), (36, .bool (t9 == t11))] (by kernel_rfl) (fun a_ hS => ?_)
  rcases Bool.eq_false_or_eq_true (t9 == t11) with hb | hb
  · rw [hb] at hS; rw [if_pos hb] at H
    refine L_pure hS [8, 9] [10, 11, 12, 13, 14, 15, 16, 17, 18, 19, 20, 21, 22, 23, 24, 25, 26, 27, 28, 29, 30, 31, 32, 33, 34, 35, 36, 37, 38, 39, 40, 41, 42, 43, 44, 45, 46, 47, 48, 49, 50, 51, 52, 53, 54, 55, 56, 57, 58, 59, 60, 61, 62, 63, 64, 65, 66, 67, 68, 69, 70, 71, 72, 73, 74, 75, 76, 77, 78, 79, 80, 81, 82, 83, 84, 85, 86, 87, 88, 89, 90, 91, 92, 93, 94, 95, 96, 97, 98, 99, 100, 101, 102, 103, 104, 105, 106, 107, 108, 109, 110, 111, 112, 113, 114, 115, 116, 117, 118, 119] [3, 8, 9, 10, 11, 36, 37, 38] [(3, .int .i64 t7), (8, .bool false), (9, .int .u64 t1), (10, .int .u64 t3), (11, .int .u64 t5), (36, .bool true), (37, .int .u64 t1), (38, .int .u64 t3)] (by kernel_rfl) (fun a_ hS => ?_)
    obtain ⟨t13, hq14, H⟩ := bind_elim H
    refine L_op hS (i := 10) rfl (by kernel_rfl) ?_
    refine wp_call hS [.int .u64 t1, .int .u64 t3] rfl Tryd.func17 (by kernel_rfl) (by kernel_rfl) (by kernel_rfl) (set_Set_Both.calls t1 t3 hF hq14) ?_
    rintro e_ w_ ⟨rfl, hb⟩
    refine ⟨_, _, rfl, rfl, ?_⟩; intro a_ hS
    have hF := hF.below hb
    have hB := hB.trans (hb.mono hB.size)
    refine L_pure hS [11, 12] [13, 14, 15, 16, 17, 18, 19, 20, 21, 22, 23, 24, 25, 26, 27, 28, 29, 30, 31, 32, 33, 34, 35, 36, 37, 38, 39, 40, 41, 42, 43, 44, 45, 46, 47, 48, 49, 50, 51, 52, 53, 54, 55, 56, 57, 58, 59, 60, 61, 62, 63, 64, 65, 66, 67, 68, 69, 70, 71, 72, 73, 74, 75, 76, 77, 78, 79, 80, 81, 82, 83, 84, 85, 86, 87, 88, 89, 90, 91, 92, 93, 94, 95, 96, 97, 98, 99, 100, 101, 102, 103, 104, 105, 106, 107, 108, 109, 110, 111, 112, 113, 114, 115, 116, 117, 118, 119] [39, 3, 8, 9, 10, 11, 36, 40, 41] [(39, .int .u64 t13), (3, .int .i64 t7), (8, .bool false), (9, .int .u64 t1), (10, .int .u64 t3), (11, .int .u64 t5), (36, .bool true), (40, .int .u64 t3), (41, .int .u64 t1)] (by kernel_rfl) (fun a_ hS => ?_)
    obtain ⟨t15, hq16, H⟩ := bind_elim H
    refine L_op hS (i := 13) rfl (by kernel_rfl) ?_
    refine wp_call hS [.int .u64 t3, .int .u64 t1] rfl Tryd.func17 (by kernel_rfl) (by kernel_rfl) (by kernel_rfl) (set_Set_Both.calls t3 t1 hF hq16) ?_
    rintro e_ w_ ⟨rfl, hb⟩
    refine ⟨_, _, rfl, rfl, ?_⟩; intro a_ hS
    have hF := hF.below hb
    have hB := hB.trans (hb.mono hB.size)
    refine L_pure hS [14, 15, 16] [17, 18, 19, 20, 21, 22, 23, 24, 25, 26, 27, 28, 29, 30, 31, 32, 33, 34, 35, 36, 37, 38, 39, 40, 41, 42, 43, 44, 45, 46, 47, 48, 49, 50, 51, 52, 53, 54, 55, 56, 57, 58, 59, 60, 61, 62, 63, 64, 65, 66, 67, 68, 69, 70, 71, 72, 73, 74, 75, 76, 77, 78, 79, 80, 81, 82, 83, 84, 85, 86, 87, 88, 89, 90, 91, 92, 93, 94, 95, 96, 97, 98, 99, 100, 101, 102, 103, 104, 105, 106, 107, 108, 109, 110, 111, 112, 113, 114, 115, 116, 117, 118, 119] [3, 8, 9, 10, 11, 45] [(3, .int .i64 t7), (8, .bool false), (9, .int .u64 t1), (10, .int .u64 t3), (11, .int .u64 t5), (45, .bool (t13 == t15))] (by kernel_rfl) (fun a_ hS => ?_)
    rcases Bool.eq_false_or_eq_true (t13 == t15) with hb | hb
    · rw [hb] at hS; rw [if_pos hb] at H
      refine L_pure hS [17, 18] [19, 20, 21, 22, 23, 24, 25, 26, 27, 28, 29, 30, 31, 32, 33, 34, 35, 36, 37, 38, 39, 40, 41, 42, 43, 44, 45, 46, 47, 48, 49, 50, 51, 52, 53, 54, 55, 56, 57, 58, 59, 60, 61, 62, 63, 64, 65, 66, 67, 68, 69, 70, 71, 72, 73, 74, 75, 76, 77, 78, 79, 80, 81, 82, 83, 84, 85, 86, 87, 88, 89, 90, 91, 92, 93, 94, 95, 96, 97, 98, 99, 100, 101, 102, 103, 104, 105, 106, 107, 108, 109, 110, 111, 112, 113, 114, 115, 116, 117, 118, 119] [3, 8, 9, 10, 11, 45, 46, 47] [(3, .int .i64 t7), (8, .bool false), (9, .int .u64 t1), (10, .int .u64 t3), (11, .int .u64 t5), (45, .bool true), (46, .int .u64 t1), (47, .int .u64 t3)] (by kernel_rfl) (fun a_ hS => ?_)
      obtain ⟨t17, hq18, H⟩ := bind_elim H
      refine L_op hS (i := 19) rfl (by kernel_rfl) ?_
      refine wp_call hS [.int .u64 t1, .int .u64 t3] rfl Tryd.func16 (by kernel_rfl) (by kernel_rfl) (by kernel_rfl) (set_Set_Join.calls t1 t3 hF hq18) ?_
      rintro e_ w_ ⟨rfl, hb⟩
      refine ⟨_, _, rfl, rfl, ?_⟩; intro a_ hS
      have hF := hF.below hb
      have hB := hB.trans (hb.mono hB.size)
      refine L_pure hS [20] [21, 22, 23, 24, 25, 26, 27, 28, 29, 30, 31, 32, 33, 34, 35, 36, 37, 38, 39, 40, 41, 42, 43, 44, 45, 46, 47, 48, 49, 50, 51, 52, 53, 54, 55, 56, 57, 58, 59, 60, 61, 62, 63, 64, 65, 66, 67, 68, 69, 70, 71, 72, 73, 74, 75, 76, 77, 78, 79, 80, 81, 82, 83, 84, 85, 86, 87, 88, 89, 90, 91, 92, 93, 94, 95, 96, 97, 98, 99, 100, 101, 102, 103, 104, 105, 106, 107, 108, 109, 110, 111, 112, 113, 114, 115, 116, 117, 118, 119] [48, 3, 8, 9, 10, 11, 45, 49] [(48, .int .u64 t17), (3, .int .i64 t7), (8, .bool false), (9, .int .u64 t1), (10, .int .u64 t3), (11, .int .u64 t5), (45, .bool true), (49, .int .u64 t5)] (by kernel_rfl) (fun a_ hS => ?_)
      obtain ⟨t19, hq20, H⟩ := bind_elim H
      refine L_op hS (i := 21) rfl (by kernel_rfl) ?_
      refine wp_call hS [.int .u64 t17, .int .u64 t5] rfl Tryd.func17 (by kernel_rfl) (by kernel_rfl) (by kernel_rfl) (set_Set_Both.calls t17 t5 hF hq20) ?_
      rintro e_ w_ ⟨rfl, hb⟩
      refine ⟨_, _, rfl, rfl, ?_⟩; intro a_ hS
      have hF := hF.below hb
      have hB := hB.trans (hb.mono hB.size)
      refine L_pure hS [22, 23] [24, 25, 26, 27, 28, 29, 30, 31, 32, 33, 34, 35, 36, 37, 38, 39, 40, 41, 42, 43, 44, 45, 46, 47, 48, 49, 50, 51, 52, 53, 54, 55, 56, 57, 58, 59, 60, 61, 62, 63, 64, 65, 66, 67, 68, 69, 70, 71, 72, 73, 74, 75, 76, 77, 78, 79, 80, 81, 82, 83, 84, 85, 86, 87, 88, 89, 90, 91, 92, 93, 94, 95, 96, 97, 98, 99, 100, 101, 102, 103, 104, 105, 106, 107, 108, 109, 110, 111, 112, 113, 114, 115, 116, 117, 118, 119] [50, 3, 8, 9, 10, 11, 45, 51, 52] [(50, .int .u64 t19), (3, .int .i64 t7), (8, .bool false), (9, .int .u64 t1), (10, .int .u64 t3), (11, .int .u64 t5), (45, .bool true), (51, .int .u64 t1), (52, .int .u64 t5)] (by kernel_rfl) (fun a_ hS => ?_)
      obtain ⟨t21, hq22, H⟩ := bind_elim H
      refine L_op hS (i := 24) rfl (by kernel_rfl) ?_
      refine wp_call hS [.int .u64 t1, .int .u64 t5] rfl Tryd.func17 (by kernel_rfl) (by kernel_rfl) (by kernel_rfl) (set_Set_Both.calls t1 t5 hF hq22) ?_
      rintro e_ w_ ⟨rfl, hb⟩
      refine ⟨_, _, rfl, rfl, ?_⟩; intro a_ hS
      have hF := hF.below hb
      have hB := hB.trans (hb.mono hB.size)
      refine L_pure hS [25, 26] [27, 28, 29, 30, 31, 32, 33, 34, 35, 36, 37, 38, 39, 40, 41, 42, 43, 44, 45, 46, 47, 48, 49, 50, 51, 52, 53, 54, 55, 56, 57, 58, 59, 60, 61, 62, 63, 64, 65, 66, 67, 68, 69, 70, 71, 72, 73, 74, 75, 76, 77, 78, 79, 80, 81, 82, 83, 84, 85, 86, 87, 88, 89, 90, 91, 92, 93, 94, 95, 96, 97, 98, 99, 100, 101, 102, 103, 104, 105, 106, 107, 108, 109, 110, 111, 112, 113, 114, 115, 116, 117, 118, 119] [53, 50, 3, 8, 9, 10, 45, 54, 55] [(53, .int .u64 t21), (50, .int .u64 t19), (3, .int .i64 t7), (8, .bool false), (9, .int .u64 t1), (10, .int .u64 t3), (45, .bool true), (54, .int .u64 t3), (55, .int .u64 t5)] (by kernel_rfl) (fun a_ hS => ?_)
      obtain ⟨t23, hq24, H⟩ := bind_elim H
      refine L_op hS (i := 27) rfl (by kernel_rfl) ?_
      refine wp_call hS [.int .u64 t3, .int .u64 t5] rfl Tryd.func17 (by kernel_rfl) (by kernel_rfl) (by kernel_rfl) (set_Set_Both.calls t3 t5 hF hq24) ?_
      rintro e_ w_ ⟨rfl, hb⟩
      refine ⟨_, _, rfl, rfl, ?_⟩; intro a_ hS
      have hF := hF.below hb
      have hB := hB.trans (hb.mono hB.size)
      obtain ⟨t25, hq26, H⟩ := bind_elim H
      refine L_op hS (i := 28) rfl (by kernel_rfl) ?_
      refine wp_call hS [.int .u64 t21, .int .u64 t23] rfl Tryd.func16 (by kernel_rfl) (by kernel_rfl) (by kernel_rfl) (set_Set_Join.calls t21 t23 hF hq26) ?_
      rintro e_ w_ ⟨rfl, hb⟩
      refine ⟨_, _, rfl, rfl, ?_⟩; intro a_ hS
      have hF := hF.below hb
      have hB := hB.trans (hb.mono hB.size)
      refine L_pure hS [29, 30, 31] [32, 33, 34, 35, 36, 37, 38, 39, 40, 41, 42, 43, 44, 45, 46, 47, 48, 49, 50, 51, 52, 53, 54, 55, 56, 57, 58, 59, 60, 61, 62, 63, 64, 65, 66, 67, 68, 69, 70, 71, 72, 73, 74, 75, 76, 77, 78, 79, 80, 81, 82, 83, 84, 85, 86, 87, 88, 89, 90, 91, 92, 93, 94, 95, 96, 97, 98, 99, 100, 101, 102, 103, 104, 105, 106, 107, 108, 109, 110, 111, 112, 113, 114, 115, 116, 117, 118, 119] [3, 8, 9, 10, 60] [(3, .int .i64 t7), (8, .bool false), (9, .int .u64 t1), (10, .int .u64 t3), (60, .bool (t19 == t25))] (by kernel_rfl) (fun a_ hS => ?_)
      rcases Bool.eq_false_or_eq_true (t19 == t25) with hb | hb
      · rw [hb] at hS; rw [if_pos hb] at H
        refine L_pure hS [32, 33] [34, 35, 36, 37, 38, 39, 40, 41, 42, 43, 44, 45, 46, 47, 48, 49, 50, 51, 52, 53, 54, 55, 56, 57, 58, 59, 60, 61, 62, 63, 64, 65, 66, 67, 68, 69, 70, 71, 72, 73, 74, 75, 76, 77, 78, 79, 80, 81, 82, 83, 84, 85, 86, 87, 88, 89, 90, 91, 92, 93, 94, 95, 96, 97, 98, 99, 100, 101, 102, 103, 104, 105, 106, 107, 108, 109, 110, 111, 112, 113, 114, 115, 116, 117, 118, 119] [3, 8, 9, 10, 60, 61, 62] [(3, .int .i64 t7), (8, .bool false), (9, .int .u64 t1), (10, .int .u64 t3), (60, .bool true), (61, .int .u64 t1), (62, .int .u64 t3)] (by kernel_rfl) (fun a_ hS => ?_)
        obtain ⟨t27, hq28, H⟩ := bind_elim H
        refine L_op hS (i := 34) rfl (by kernel_rfl) ?_
        refine wp_call hS [.int .u64 t1, .int .u64 t3] rfl Tryd.func14 (by kernel_rfl) (by kernel_rfl) (by kernel_rfl) (set_Set_Less.calls t1 t3 hF hq28) ?_
        rintro e_ w_ ⟨rfl, hb⟩
        refine ⟨_, _, rfl, rfl, ?_⟩; intro a_ hS
        have hF := hF.below hb
        have hB := hB.trans (hb.mono hB.size)
        refine L_pure hS [35, 36] [37, 38, 39, 40, 41, 42, 43, 44, 45, 46, 47, 48, 49, 50, 51, 52, 53, 54, 55, 56, 57, 58, 59, 60, 61, 62, 63, 64, 65, 66, 67, 68, 69, 70, 71, 72, 73, 74, 75, 76, 77, 78, 79, 80, 81, 82, 83, 84, 85, 86, 87, 88, 89, 90, 91, 92, 93, 94, 95, 96, 97, 98, 99, 100, 101, 102, 103, 104, 105, 106, 107, 108, 109, 110, 111, 112, 113, 114, 115, 116, 117, 118, 119] [63, 3, 8, 9, 10, 60, 64, 65] [(63, .int .u64 t27), (3, .int .i64 t7), (8, .bool false), (9, .int .u64 t1), (10, .int .u64 t3), (60, .bool true), (64, .int .u64 t1), (65, .int .u64 t3)] (by kernel_rfl) (fun a_ hS => ?_)
        obtain ⟨t29, hq30, H⟩ := bind_elim H
        refine L_op hS (i := 37) rfl (by kernel_rfl) ?_
        refine wp_call hS [.int .u64 t1, .int .u64 t3] rfl Tryd.func17 (by kernel_rfl) (by kernel_rfl) (by kernel_rfl) (set_Set_Both.calls t1 t3 hF hq30) ?_
        rintro e_ w_ ⟨rfl, hb⟩
        refine ⟨_, _, rfl, rfl, ?_⟩; intro a_ hS
        have hF := hF.below hb
        have hB := hB.trans (hb.mono hB.size)
        obtain ⟨t31, hq32, H⟩ := bind_elim H
        refine L_op hS (i := 38) rfl (by kernel_rfl) ?_
        refine wp_call hS [.int .u64 t27, .int .u64 t29] rfl Tryd.func16 (by kernel_rfl) (by kernel_rfl) (by kernel_rfl) (set_Set_Join.calls t27 t29 hF hq32) ?_
        rintro e_ w_ ⟨rfl, hb⟩
        refine ⟨_, _, rfl, rfl, ?_⟩; intro a_ hS
        have hF := hF.below hb
        have hB := hB.trans (hb.mono hB.size)
        refine L_pure hS [39, 40, 41, 42] [43, 44, 45, 46, 47, 48, 49, 50, 51, 52, 53, 54, 55, 56, 57, 58, 59, 60, 61, 62, 63, 64, 65, 66, 67, 68, 69, 70, 71, 72, 73, 74, 75, 76, 77, 78, 79, 80, 81, 82, 83, 84, 85, 86, 87, 88, 89, 90, 91, 92, 93, 94, 95, 96, 97, 98, 99, 100, 101, 102, 103, 104, 105, 106, 107, 108, 109, 110, 111, 112, 113, 114, 115, 116, 117, 118, 119] [3, 8, 9, 10, 71] [(3, .int .i64 t7), (8, .bool false), (9, .int .u64 t1), (10, .int .u64 t3), (71, .bool (t31 == t1))] (by kernel_rfl) (fun a_ hS => ?_)
        rcases Bool.eq_false_or_eq_true (t31 == t1) with hb | hb
        · rw [hb] at hS; rw [if_pos hb] at H
          refine L_pure hS [43, 44] [45, 46, 47, 48, 49, 50, 51, 52, 53, 54, 55, 56, 57, 58, 59, 60, 61, 62, 63, 64, 65, 66, 67, 68, 69, 70, 71, 72, 73, 74, 75, 76, 77, 78, 79, 80, 81, 82, 83, 84, 85, 86, 87, 88, 89, 90, 91, 92, 93, 94, 95, 96, 97, 98, 99, 100, 101, 102, 103, 104, 105, 106, 107, 108, 109, 110, 111, 112, 113, 114, 115, 116, 117, 118, 119] [3, 8, 9, 10, 71, 72, 73] [(3, .int .i64 t7), (8, .bool false), (9, .int .u64 t1), (10, .int .u64 t3), (71, .bool true), (72, .int .u64 t1), (73, .int .u64 t3)] (by kernel_rfl) (fun a_ hS => ?_)
          obtain ⟨t33, hq34, H⟩ := bind_elim H
          refine L_op hS (i := 45) rfl (by kernel_rfl) ?_
          refine wp_call hS [.int .u64 t1, .int .u64 t3] rfl Tryd.func14 (by kernel_rfl) (by kernel_rfl) (by kernel_rfl) (set_Set_Less.calls t1 t3 hF hq34) ?_
          rintro e_ w_ ⟨rfl, hb⟩
          refine ⟨_, _, rfl, rfl, ?_⟩; intro a_ hS
          have hF := hF.below hb
          have hB := hB.trans (hb.mono hB.size)
          refine L_pure hS [46] [47, 48, 49, 50, 51, 52, 53, 54, 55, 56, 57, 58, 59, 60, 61, 62, 63, 64, 65, 66, 67, 68, 69, 70, 71, 72, 73, 74, 75, 76, 77, 78, 79, 80, 81, 82, 83, 84, 85, 86, 87, 88, 89, 90, 91, 92, 93, 94, 95, 96, 97, 98, 99, 100, 101, 102, 103, 104, 105, 106, 107, 108, 109, 110, 111, 112, 113, 114, 115, 116, 117, 118, 119] [74, 3, 8, 9, 10, 71, 75] [(74, .int .u64 t33), (3, .int .i64 t7), (8, .bool false), (9, .int .u64 t1), (10, .int .u64 t3), (71, .bool true), (75, .int .u64 t3)] (by kernel_rfl) (fun a_ hS => ?_)
          obtain ⟨t35, hq36, H⟩ := bind_elim H
          refine L_op hS (i := 47) rfl (by kernel_rfl) ?_
          refine wp_call hS [.int .u64 t33, .int .u64 t3] rfl Tryd.func17 (by kernel_rfl) (by kernel_rfl) (by kernel_rfl) (set_Set_Both.calls t33 t3 hF hq36) ?_
          rintro e_ w_ ⟨rfl, hb⟩
          refine ⟨_, _, rfl, rfl, ?_⟩; intro a_ hS
          have hF := hF.below hb
          have hB := hB.trans (hb.mono hB.size)
          obtain ⟨t37, hq38, H⟩ := bind_elim H
          refine L_op hS (i := 48) rfl (by kernel_rfl) ?_
          refine wp_call hS [.slice none 0 0] rfl Tryd.func8 (by kernel_rfl) (by kernel_rfl) (by kernel_rfl) (set_Of.calls ([] : List Int) hF (.nil _ _) hq38) ?_
          rintro e_ w_ ⟨rfl, hb⟩
          refine ⟨_, _, rfl, rfl, ?_⟩; intro a_ hS
          have hF := hF.below hb
          have hB := hB.trans (hb.mono hB.size)
          refine L_pure hS [49, 50, 51] [52, 53, 54, 55, 56, 57, 58, 59, 60, 61, 62, 63, 64, 65, 66, 67, 68, 69, 70, 71, 72, 73, 74, 75, 76, 77, 78, 79, 80, 81, 82, 83, 84, 85, 86, 87, 88, 89, 90, 91, 92, 93, 94, 95, 96, 97, 98, 99, 100, 101, 102, 103, 104, 105, 106, 107, 108, 109, 110, 111, 112, 113, 114, 115, 116, 117, 118, 119] [3, 8, 9, 10, 80] [(3, .int .i64 t7), (8, .bool false), (9, .int .u64 t1), (10, .int .u64 t3), (80, .bool (t35 == t37))] (by kernel_rfl) (fun a_ hS => ?_)
          rcases Bool.eq_false_or_eq_true (t35 == t37) with hb | hb
          · rw [hb] at hS; rw [if_pos hb] at H
            refine L_pure hS [52, 53, 54] [55, 56, 57, 58, 59, 60, 61, 62, 63, 64, 65, 66, 67, 68, 69, 70, 71, 72, 73, 74, 75, 76, 77, 78, 79, 80, 81, 82, 83, 84, 85, 86, 87, 88, 89, 90, 91, 92, 93, 94, 95, 96, 97, 98, 99, 100, 101, 102, 103, 104, 105, 106, 107, 108, 109, 110, 111, 112, 113, 114, 115, 116, 117, 118, 119] [3, 8, 9, 10, 80, 81, 82, 83] [(3, .int .i64 t7), (8, .bool false), (9, .int .u64 t1), (10, .int .u64 t3), (80, .bool true), (81, .int .u64 t1), (82, .int .u64 t1), (83, .int .u64 t3)] (by kernel_rfl) (fun a_ hS => ?_)
            obtain ⟨t39, hq40, H⟩ := bind_elim H
            refine L_op hS (i := 55) rfl (by kernel_rfl) ?_
            refine wp_call hS [.int .u64 t1, .int .u64 t3] rfl Tryd.func16 (by kernel_rfl) (by kernel_rfl) (by kernel_rfl) (set_Set_Join.calls t1 t3 hF hq40) ?_
            rintro e_ w_ ⟨rfl, hb⟩
            refine ⟨_, _, rfl, rfl, ?_⟩; intro a_ hS
            have hF := hF.below hb
            have hB := hB.trans (hb.mono hB.size)
            obtain ⟨t41, hq42, H⟩ := bind_elim H
            refine L_op hS (i := 56) rfl (by kernel_rfl) ?_
            refine wp_call hS [.int .u64 t1, .int .u64 t39] rfl Tryd.func13 (by kernel_rfl) (by kernel_rfl) (by kernel_rfl) (set_Set_In.calls t1 t39 hF hq42) ?_
            rintro e_ w_ ⟨rfl, hb⟩
            refine ⟨_, _, rfl, rfl, ?_⟩; intro a_ hS
            have hF := hF.below hb
            have hB := hB.trans (hb.mono hB.size)
            refine L_pure hS [57, 58] [59, 60, 61, 62, 63, 64, 65, 66, 67, 68, 69, 70, 71, 72, 73, 74, 75, 76, 77, 78, 79, 80, 81, 82, 83, 84, 85, 86, 87, 88, 89, 90, 91, 92, 93, 94, 95, 96, 97, 98, 99, 100, 101, 102, 103, 104, 105, 106, 107, 108, 109, 110, 111, 112, 113, 114, 115, 116, 117, 118, 119] [3, 8, 9, 10, 87] [(3, .int .i64 t7), (8, .bool false), (9, .int .u64 t1), (10, .int .u64 t3), (87, .bool t41)] (by kernel_rfl) (fun a_ hS => ?_)
            rcases Bool.eq_false_or_eq_true t41 with hb | hb
            · rw [hb] at hS; rw [if_pos hb] at H
              refine L_pure hS [59, 60] [61, 62, 63, 64, 65, 66, 67, 68, 69, 70, 71, 72, 73, 74, 75, 76, 77, 78, 79, 80, 81, 82, 83, 84, 85, 86, 87, 88, 89, 90, 91, 92, 93, 94, 95, 96, 97, 98, 99, 100, 101, 102, 103, 104, 105, 106, 107, 108, 109, 110, 111, 112, 113, 114, 115, 116, 117, 118, 119] [3, 8, 9, 10, 87, 88, 89] [(3, .int .i64 t7), (8, .bool false), (9, .int .u64 t1), (10, .int .u64 t3), (87, .bool true), (88, .int .u64 t1), (89, .int .u64 t3)] (by kernel_rfl) (fun a_ hS => ?_)
              obtain ⟨t43, hq44, H⟩ := bind_elim H
              refine L_op hS (i := 61) rfl (by kernel_rfl) ?_
              refine wp_call hS [.int .u64 t1, .int .u64 t3] rfl Tryd.func17 (by kernel_rfl) (by kernel_rfl) (by kernel_rfl) (set_Set_Both.calls t1 t3 hF hq44) ?_
              rintro e_ w_ ⟨rfl, hb⟩
              refine ⟨_, _, rfl, rfl, ?_⟩; intro a_ hS
              have hF := hF.below hb
              have hB := hB.trans (hb.mono hB.size)
              refine L_pure hS [62] [63, 64, 65, 66, 67, 68, 69, 70, 71, 72, 73, 74, 75, 76, 77, 78, 79, 80, 81, 82, 83, 84, 85, 86, 87, 88, 89, 90, 91, 92, 93, 94, 95, 96, 97, 98, 99, 100, 101, 102, 103, 104, 105, 106, 107, 108, 109, 110, 111, 112, 113, 114, 115, 116, 117, 118, 119] [90, 3, 8, 9, 10, 87, 91] [(90, .int .u64 t43), (3, .int .i64 t7), (8, .bool false), (9, .int .u64 t1), (10, .int .u64 t3), (87, .bool true), (91, .int .u64 t1)] (by kernel_rfl) (fun a_ hS => ?_)
              obtain ⟨t45, hq46, H⟩ := bind_elim H
              refine L_op hS (i := 63) rfl (by kernel_rfl) ?_
              refine wp_call hS [.int .u64 t43, .int .u64 t1] rfl Tryd.func13 (by kernel_rfl) (by kernel_rfl) (by kernel_rfl) (set_Set_In.calls t43 t1 hF hq46) ?_
              rintro e_ w_ ⟨rfl, hb⟩
              refine ⟨_, _, rfl, rfl, ?_⟩; intro a_ hS
              have hF := hF.below hb
              have hB := hB.trans (hb.mono hB.size)
              refine L_pure hS [64, 65] [66, 67, 68, 69, 70, 71, 72, 73, 74, 75, 76, 77, 78, 79, 80, 81, 82, 83, 84, 85, 86, 87, 88, 89, 90, 91, 92, 93, 94, 95, 96, 97, 98, 99, 100, 101, 102, 103, 104, 105, 106, 107, 108, 109, 110, 111, 112, 113, 114, 115, 116, 117, 118, 119] [3, 8, 9, 10, 94] [(3, .int .i64 t7), (8, .bool false), (9, .int .u64 t1), (10, .int .u64 t3), (94, .bool t45)] (by kernel_rfl) (fun a_ hS => ?_)
              rcases Bool.eq_false_or_eq_true t45 with hb | hb
              · rw [hb] at hS; rw [if_pos hb] at H
                refine L_pure hS [66] [67, 68, 69, 70, 71, 72, 73, 74, 75, 76, 77, 78, 79, 80, 81, 82, 83, 84, 85, 86, 87, 88, 89, 90, 91, 92, 93, 94, 95, 96, 97, 98, 99, 100, 101, 102, 103, 104, 105, 106, 107, 108, 109, 110, 111, 112, 113, 114, 115, 116, 117, 118, 119] [3, 8, 9, 10, 94, 95] [(3, .int .i64 t7), (8, .bool false), (9, .int .u64 t1), (10, .int .u64 t3), (94, .bool true), (95, .int .u64 t1)] (by kernel_rfl) (fun a_ hS => ?_)
                obtain ⟨t47, hq48, H⟩ := bind_elim H
                refine L_op hS (i := 67) rfl (by kernel_rfl) ?_
                refine wp_call hS [.int .u64 t1] rfl Tryd.func9 (by kernel_rfl) (by kernel_rfl) (by kernel_rfl) (set_Set_List.calls F t1 hF hT hq48) ?_
                rintro e_ w_ ⟨v_, J49, rfl, hg50, hF_, hr_, hb⟩
                refine ⟨_, _, rfl, rfl, ?_⟩; intro a_ hS
                have hO51 := hr_.lower hB.size
                have hT := hT.mono hg50.ext
                have hB := hB.trans (hb.mono hB.size)
                have hF := hF_
                obtain ⟨A51, c51, rfl, hl51, hm51⟩ := hO51.form
                obtain ⟨t53, hq54, H⟩ := bind_elim H
                refine L_op hS (i := 68) rfl (by kernel_rfl) ?_
                refine wp_call hS [.slice A51 t47.length c51] rfl Tryd.func8 (by kernel_rfl) (by kernel_rfl) (by kernel_rfl) (set_Of.calls t47 (Own.addFits hF) hO51.rep hq54) ?_
                rintro e_ w_ ⟨rfl, hb⟩
                refine ⟨_, _, rfl, rfl, ?_⟩; intro a_ hS
                have hF := hF.below hb
                have hO51 := (hO51).below hb
                have hB := hB.trans (hb.mono hB.size)
                refine L_pure hS [69, 70, 71, 72] [73, 74, 75, 76, 77, 78, 79, 80, 81, 82, 83, 84, 85, 86, 87, 88, 89, 90, 91, 92, 93, 94, 95, 96, 97, 98, 99, 100, 101, 102, 103, 104, 105, 106, 107, 108, 109, 110, 111, 112, 113, 114, 115, 116, 117, 118, 119] [3, 8, 9, 10, 101] [(3, .int .i64 t7), (8, .bool false), (9, .int .u64 t1), (10, .int .u64 t3), (101, .bool (t53 == t1))] (by kernel_rfl) (fun a_ hS => ?_)
                rcases Bool.eq_false_or_eq_true (t53 == t1) with hb | hb
                · rw [hb] at hS; rw [if_pos hb] at H
                  refine L_pure hS [73, 74] [75, 76, 77, 78, 79, 80, 81, 82, 83, 84, 85, 86, 87, 88, 89, 90, 91, 92, 93, 94, 95, 96, 97, 98, 99, 100, 101, 102, 103, 104, 105, 106, 107, 108, 109, 110, 111, 112, 113, 114, 115, 116, 117, 118, 119] [3, 8, 9, 10, 101, 102, 103] [(3, .int .i64 t7), (8, .bool false), (9, .int .u64 t1), (10, .int .u64 t3), (101, .bool true), (102, .int .u64 t1), (103, .int .u64 t3)] (by kernel_rfl) (fun a_ hS => ?_)
                  obtain ⟨t55, hq56, H⟩ := bind_elim H
                  refine L_op hS (i := 75) rfl (by kernel_rfl) ?_
                  refine wp_call hS [.int .u64 t1, .int .u64 t3] rfl Tryd.func16 (by kernel_rfl) (by kernel_rfl) (by kernel_rfl) (set_Set_Join.calls t1 t3 hF hq56) ?_
                  rintro e_ w_ ⟨rfl, hb⟩
                  refine ⟨_, _, rfl, rfl, ?_⟩; intro a_ hS
                  have hF := hF.below hb
                  have hB := hB.trans (hb.mono hB.size)
                  obtain ⟨t57, hq58, H⟩ := bind_elim H
                  refine L_op hS (i := 76) rfl (by kernel_rfl) ?_
                  refine wp_call hS [.int .u64 t55] rfl Tryd.func12 (by kernel_rfl) (by kernel_rfl) (by kernel_rfl) (set_Set_Count.calls t55 hF hq58) ?_
                  rintro e_ w_ ⟨rfl, hb⟩
                  refine ⟨_, _, rfl, rfl, ?_⟩; intro a_ hS
                  have hF := hF.below hb
                  have hB := hB.trans (hb.mono hB.size)
                  refine L_pure hS [77, 78] [79, 80, 81, 82, 83, 84, 85, 86, 87, 88, 89, 90, 91, 92, 93, 94, 95, 96, 97, 98, 99, 100, 101, 102, 103, 104, 105, 106, 107, 108, 109, 110, 111, 112, 113, 114, 115, 116, 117, 118, 119] [105, 3, 8, 9, 10, 101, 106, 107] [(105, .int .i64 t57), (3, .int .i64 t7), (8, .bool false), (9, .int .u64 t1), (10, .int .u64 t3), (101, .bool true), (106, .int .u64 t1), (107, .int .u64 t3)] (by kernel_rfl) (fun a_ hS => ?_)
                  obtain ⟨t59, hq60, H⟩ := bind_elim H
                  refine L_op hS (i := 79) rfl (by kernel_rfl) ?_
                  refine wp_call hS [.int .u64 t1, .int .u64 t3] rfl Tryd.func17 (by kernel_rfl) (by kernel_rfl) (by kernel_rfl) (set_Set_Both.calls t1 t3 hF hq60) ?_
                  rintro e_ w_ ⟨rfl, hb⟩
                  refine ⟨_, _, rfl, rfl, ?_⟩; intro a_ hS
                  have hF := hF.below hb
                  have hB := hB.trans (hb.mono hB.size)
                  obtain ⟨t61, hq62, H⟩ := bind_elim H
                  refine L_op hS (i := 80) rfl (by kernel_rfl) ?_
                  refine wp_call hS [.int .u64 t59] rfl Tryd.func12 (by kernel_rfl) (by kernel_rfl) (by kernel_rfl) (set_Set_Count.calls t59 hF hq62) ?_
                  rintro e_ w_ ⟨rfl, hb⟩
                  refine ⟨_, _, rfl, rfl, ?_⟩; intro a_ hS
                  have hF := hF.below hb
                  have hB := hB.trans (hb.mono hB.size)
                  refine L_pure hS [81, 82] [83, 84, 85, 86, 87, 88, 89, 90, 91, 92, 93, 94, 95, 96, 97, 98, 99, 100, 101, 102, 103, 104, 105, 106, 107, 108, 109, 110, 111, 112, 113, 114, 115, 116, 117, 118, 119] [3, 8, 9, 10, 101, 110, 111] [(3, .int .i64 t7), (8, .bool false), (9, .int .u64 t1), (10, .int .u64 t3), (101, .bool true), (110, .int .i64 (IntKind.i64.wrap (t57 + t61))), (111, .int .u64 t1)] (by kernel_rfl) (fun a_ hS => ?_)
                  obtain ⟨t63, hq64, H⟩ := bind_elim H
                  refine L_op hS (i := 83) rfl (by kernel_rfl) ?_
                  refine wp_call hS [.int .u64 t1] rfl Tryd.func12 (by kernel_rfl) (by kernel_rfl) (by kernel_rfl) (set_Set_Count.calls t1 hF hq64) ?_
                  rintro e_ w_ ⟨rfl, hb⟩
                  refine ⟨_, _, rfl, rfl, ?_⟩; intro a_ hS
                  have hF := hF.below hb
                  have hB := hB.trans (hb.mono hB.size)
                  refine L_pure hS [84] [85, 86, 87, 88, 89, 90, 91, 92, 93, 94, 95, 96, 97, 98, 99, 100, 101, 102, 103, 104, 105, 106, 107, 108, 109, 110, 111, 112, 113, 114, 115, 116, 117, 118, 119] [112, 3, 8, 9, 101, 110, 113] [(112, .int .i64 t63), (3, .int .i64 t7), (8, .bool false), (9, .int .u64 t1), (101, .bool true), (110, .int .i64 (IntKind.i64.wrap (t57 + t61))), (113, .int .u64 t3)] (by kernel_rfl) (fun a_ hS => ?_)
                  obtain ⟨t65, hq66, H⟩ := bind_elim H
                  refine L_op hS (i := 85) rfl (by kernel_rfl) ?_
                  refine wp_call hS [.int .u64 t3] rfl Tryd.func12 (by kernel_rfl) (by kernel_rfl) (by kernel_rfl) (set_Set_Count.calls t3 hF hq66) ?_
                  rintro e_ w_ ⟨rfl, hb⟩
                  refine ⟨_, _, rfl, rfl, ?_⟩; intro a_ hS
                  have hF := hF.below hb
                  have hB := hB.trans (hb.mono hB.size)
                  refine L_pure hS [86, 87, 88, 89] [90, 91, 92, 93, 94, 95, 96, 97, 98, 99, 100, 101, 102, 103, 104, 105, 106, 107, 108, 109, 110, 111, 112, 113, 114, 115, 116, 117, 118, 119] [3, 8, 9, 118] [(3, .int .i64 t7), (8, .bool false), (9, .int .u64 t1), (118, .bool ((IntKind.i64.wrap (t57 + t61)) == (IntKind.i64.wrap (t63 + t65))))] (by kernel_rfl) (fun a_ hS => ?_)
                  rcases Bool.eq_false_or_eq_true ((IntKind.i64.wrap (t57 + t61)) == (IntKind.i64.wrap (t63 + t65))) with hb | hb
                  · rw [hb] at hS; rw [if_pos hb] at H
                    refine L_pure hS [90, 91] [92, 93, 94, 95, 96, 97, 98, 99, 100, 101, 102, 103, 104, 105, 106, 107, 108, 109, 110, 111, 112, 113, 114, 115, 116, 117, 118, 119] [3, 8, 9, 118, 119, 120] [(3, .int .i64 t7), (8, .bool false), (9, .int .u64 t1), (118, .bool true), (119, .int .u64 t1), (120, .int .i64 t7)] (by kernel_rfl) (fun a_ hS => ?_)
                    obtain ⟨t67, hq68, H⟩ := bind_elim H
                    refine L_op hS (i := 92) rfl (by kernel_rfl) ?_
                    refine wp_call hS [.int .u64 t1, .int .i64 t7] rfl Tryd.func11 (by kernel_rfl) (by kernel_rfl) (by kernel_rfl) (set_Set_With.calls t1 t7 hF hq68) ?_
                    rintro e_ w_ ⟨rfl, hb⟩
                    refine ⟨_, _, rfl, rfl, ?_⟩; intro a_ hS
                    have hF := hF.below hb
                    have hB := hB.trans (hb.mono hB.size)
                    refine L_pure hS [93] [94, 95, 96, 97, 98, 99, 100, 101, 102, 103, 104, 105, 106, 107, 108, 109, 110, 111, 112, 113, 114, 115, 116, 117, 118, 119] [121, 3, 8, 9, 118, 122] [(121, .int .u64 t67), (3, .int .i64 t7), (8, .bool false), (9, .int .u64 t1), (118, .bool true), (122, .int .i64 t7)] (by kernel_rfl) (fun a_ hS => ?_)
                    obtain ⟨t69, hq70, H⟩ := bind_elim H
                    refine L_op hS (i := 94) rfl (by kernel_rfl) ?_
                    refine wp_call hS [.int .u64 t67, .int .i64 t7] rfl Tryd.func10 (by kernel_rfl) (by kernel_rfl) (by kernel_rfl) (set_Set_Has.calls t67 t7 hF hq70) ?_
                    rintro e_ w_ ⟨rfl, hb⟩
                    refine ⟨_, _, rfl, rfl, ?_⟩; intro a_ hS
                    have hF := hF.below hb
                    have hB := hB.trans (hb.mono hB.size)
                    refine L_pure hS [95, 96] [97, 98, 99, 100, 101, 102, 103, 104, 105, 106, 107, 108, 109, 110, 111, 112, 113, 114, 115, 116, 117, 118, 119] [3, 8, 9, 125] [(3, .int .i64 t7), (8, .bool false), (9, .int .u64 t1), (125, .bool t69)] (by kernel_rfl) (fun a_ hS => ?_)
                    rcases Bool.eq_false_or_eq_true t69 with hb | hb
                    · rw [hb] at hS; rw [if_pos hb] at H
                      refine L_pure hS [97, 98] [99, 100, 101, 102, 103, 104, 105, 106, 107, 108, 109, 110, 111, 112, 113, 114, 115, 116, 117, 118, 119] [3, 8, 9, 125, 126, 127] [(3, .int .i64 t7), (8, .bool false), (9, .int .u64 t1), (125, .bool true), (126, .int .u64 t1), (127, .int .i64 t7)] (by kernel_rfl) (fun a_ hS => ?_)
                      obtain ⟨t71, hq72, H⟩ := bind_elim H
                      refine L_op hS (i := 99) rfl (by kernel_rfl) ?_
                      refine wp_call hS [.int .u64 t1, .int .i64 t7] rfl Tryd.func11 (by kernel_rfl) (by kernel_rfl) (by kernel_rfl) (set_Set_With.calls t1 t7 hF hq72) ?_
                      rintro e_ w_ ⟨rfl, hb⟩
                      refine ⟨_, _, rfl, rfl, ?_⟩; intro a_ hS
                      have hF := hF.below hb
                      have hB := hB.trans (hb.mono hB.size)
                      refine L_pure hS [100] [101, 102, 103, 104, 105, 106, 107, 108, 109, 110, 111, 112, 113, 114, 115, 116, 117, 118, 119] [128, 3, 8, 9, 125, 129] [(128, .int .u64 t71), (3, .int .i64 t7), (8, .bool false), (9, .int .u64 t1), (125, .bool true), (129, .int .i64 t7)] (by kernel_rfl) (fun a_ hS => ?_)
                      refine L_op hS (i := 101) rfl (by kernel_rfl) ?_
                      refine wp_lit (base := W.heap.size) (f := (XI .i64)) hS rfl [(0, .int .i64 t7)] (by kernel_rfl) (.int .i64 0) Tryd.underlying22 (by kernel_rfl) rfl rfl #[.int .i64 t7] (by kernel_rfl) rfl rfl (fun _ => ⟨rfl, rfl⟩) hF hB.size ([t7] : List Int) rfl ⟨.val _, trivial⟩ (Nat.le_of_ble_eq_true rfl) ?_
                      intro b73 w_ hO73 hbn_ hb a_ hS
                      have hF := hF.below hb
                      have hB := hB.trans (hb.mono hB.size)
                      obtain ⟨t75, hq76, H⟩ := bind_elim H
                      refine L_op hS (i := 102) rfl (by kernel_rfl) ?_
                      refine wp_call hS [.slice (some ⟨b73, 0, none⟩) (([t7] : List Int)).length 1] rfl Tryd.func8 (by kernel_rfl) (by kernel_rfl) (by kernel_rfl) (set_Of.calls ([t7] : List Int) (Own.addFits hF) hO73.rep hq76) ?_
                      rintro e_ w_ ⟨rfl, hb⟩
                      refine ⟨_, _, rfl, rfl, ?_⟩; intro a_ hS
                      have hF := hF.below hb
                      have hO73 := (hO73).below hb
                      have hB := hB.trans (hb.mono hB.size)
                      obtain ⟨t77, hq78, H⟩ := bind_elim H
                      refine L_op hS (i := 103) rfl (by kernel_rfl) ?_
                      refine wp_call hS [.int .u64 t71, .int .u64 t75] rfl Tryd.func14 (by kernel_rfl) (by kernel_rfl) (by kernel_rfl) (set_Set_Less.calls t71 t75 hF hq78) ?_
                      rintro e_ w_ ⟨rfl, hb⟩
                      refine ⟨_, _, rfl, rfl, ?_⟩; intro a_ hS
                      have hF := hF.below hb
                      have hO73 := (hO73).below hb
                      have hB := hB.trans (hb.mono hB.size)
                      refine L_pure hS [104, 105] [106, 107, 108, 109, 110, 111, 112, 113, 114, 115, 116, 117, 118, 119] [132, 8, 125, 133, 134] [(132, .int .u64 t77), (8, .bool false), (125, .bool true), (133, .int .u64 t1), (134, .int .i64 t7)] (by kernel_rfl) (fun a_ hS => ?_)
                      refine L_op hS (i := 106) rfl (by kernel_rfl) ?_
                      refine wp_lit (base := W.heap.size) (f := (XI .i64)) hS rfl [(0, .int .i64 t7)] (by kernel_rfl) (.int .i64 0) Tryd.underlying22 (by kernel_rfl) rfl rfl #[.int .i64 t7] (by kernel_rfl) rfl rfl (fun _ => ⟨rfl, rfl⟩) hF hB.size ([t7] : List Int) rfl ⟨.val _, trivial⟩ (Nat.le_of_ble_eq_true rfl) ?_
                      intro b79 w_ hO79 hbn_ hb a_ hS
                      have hF := hF.below hb
                      have hB := hB.trans (hb.mono hB.size)
                      obtain ⟨t81, hq82, H⟩ := bind_elim H
                      refine L_op hS (i := 107) rfl (by kernel_rfl) ?_
                      refine wp_call hS [.slice (some ⟨b79, 0, none⟩) (([t7] : List Int)).length 1] rfl Tryd.func8 (by kernel_rfl) (by kernel_rfl) (by kernel_rfl) (set_Of.calls ([t7] : List Int) (Own.addFits hF) hO79.rep hq82) ?_
                      rintro e_ w_ ⟨rfl, hb⟩
                      refine ⟨_, _, rfl, rfl, ?_⟩; intro a_ hS
                      have hF := hF.below hb
                      have hO79 := (hO79).below hb
                      have hB := hB.trans (hb.mono hB.size)
                      obtain ⟨t83, hq84, H⟩ := bind_elim H
                      refine L_op hS (i := 108) rfl (by kernel_rfl) ?_
                      refine wp_call hS [.int .u64 t1, .int .u64 t81] rfl Tryd.func14 (by kernel_rfl) (by kernel_rfl) (by kernel_rfl) (set_Set_Less.calls t1 t81 hF hq84) ?_
                      rintro e_ w_ ⟨rfl, hb⟩
                      refine ⟨_, _, rfl, rfl, ?_⟩; intro a_ hS
                      have hF := hF.below hb
                      have hO79 := (hO79).below hb
                      have hB := hB.trans (hb.mono hB.size)
                      refine L_pure hS [109, 110, 111] [112, 113, 114, 115, 116, 117, 118, 119] [8, 140] [(8, .bool false), (140, .bool (t77 == t83))] (by kernel_rfl) (fun a_ hS => ?_)
                      rcases Bool.eq_false_or_eq_true (t77 == t83) with hb | hb
                      · rw [hb] at hS; rw [if_pos hb] at H
                        obtain ⟨t85, hq86, H⟩ := bind_elim H
                        refine L_op hS (i := 112) rfl (by kernel_rfl) ?_
                        refine wp_call hS [.slice none 0 0] rfl Tryd.func8 (by kernel_rfl) (by kernel_rfl) (by kernel_rfl) (set_Of.calls ([] : List Int) hF (.nil _ _) hq86) ?_
                        rintro e_ w_ ⟨rfl, hb⟩
                        refine ⟨_, _, rfl, rfl, ?_⟩; intro a_ hS
                        have hF := hF.below hb
                        have hB := hB.trans (hb.mono hB.size)
                        obtain ⟨t87, hq88, H⟩ := bind_elim H
                        refine L_op hS (i := 113) rfl (by kernel_rfl) ?_
                        refine wp_call hS [.int .u64 t85] rfl Tryd.func12 (by kernel_rfl) (by kernel_rfl) (by kernel_rfl) (set_Set_Count.calls t85 hF hq88) ?_
                        rintro e_ w_ ⟨rfl, hb⟩
                        refine ⟨_, _, rfl, rfl, ?_⟩; intro a_ hS
                        have hF := hF.below hb
                        have hB := hB.trans (hb.mono hB.size)
                        refine L_pure hS [114, 115, 116] [117, 118, 119] [8, 145] [(8, .bool false), (145, .bool (t87 == 0))] (by kernel_rfl) (fun a_ hS => ?_)
                        rcases Bool.eq_false_or_eq_true (t87 == 0) with hb | hb
                        · rw [hb] at hS; rw [if_pos hb] at H
                          obtain ⟨t89, hq90, H⟩ := bind_elim H
                          refine L_op hS (i := 117) rfl (by kernel_rfl) ?_
                          refine wp_call hS [] rfl Tryd.func15 (by kernel_rfl) (by kernel_rfl) (by kernel_rfl) (exegetelaw02_wakes.calls F hF hT hq90) ?_
                          rintro e_ w_ ⟨rfl, hb⟩
                          refine ⟨_, _, rfl, rfl, ?_⟩; intro a_ hS
                          have hF := hF.below hb
                          have hB := hB.trans (hb.mono hB.size)
                          refine L_pure hS [118, 119] [] [8] [(8, .bool t89)] (by kernel_rfl) (fun a_ hS => ?_)
                          refine L_end ?_
                          refine wp_ret ?_
                          obtain rfl := Option.some.inj H
                          refine bodyPost_ret (results_tmp rfl _ _ _) hS.defers ?_
                          rw [hS.getD (t := 8) rfl]
                          exact ⟨rfl, hB⟩
                        · rw [hb] at hS; rw [if_neg (nt hb)] at H
                          refine L_pure hS [117, 118, 119] [] [8] [(8, .bool false)] (by kernel_rfl) (fun a_ hS => ?_)
                          refine L_end ?_
                          refine wp_ret ?_
                          obtain rfl := Option.some.inj H
                          refine bodyPost_ret (results_tmp rfl _ _ _) hS.defers ?_
                          rw [hS.getD (t := 8) rfl]
                          exact ⟨rfl, hB⟩
                      · rw [hb] at hS; rw [if_neg (nt hb)] at H
                        refine L_pure hS [112, 113, 114, 115, 116, 117, 118, 119] [] [8] [(8, .bool false)] (by kernel_rfl) (fun a_ hS => ?_)
                        refine L_end ?_
                        refine wp_ret ?_
                        obtain rfl := Option.some.inj H
                        refine bodyPost_ret (results_tmp rfl _ _ _) hS.defers ?_
                        rw [hS.getD (t := 8) rfl]
                        exact ⟨rfl, hB⟩
                    · rw [hb] at hS; rw [if_neg (nt hb)] at H
                      refine L_pure hS [97, 98, 99, 100, 101, 102, 103, 104, 105, 106, 107, 108, 109, 110, 111, 112, 113, 114, 115, 116, 117, 118, 119] [] [8] [(8, .bool false)] (by kernel_rfl) (fun a_ hS => ?_)
                      refine L_end ?_
                      refine wp_ret ?_
                      obtain rfl := Option.some.inj H
                      refine bodyPost_ret (results_tmp rfl _ _ _) hS.defers ?_
                      rw [hS.getD (t := 8) rfl]
                      exact ⟨rfl, hB⟩
                  · rw [hb] at hS; rw [if_neg (nt hb)] at H
                    refine L_pure hS [90, 91, 92, 93, 94, 95, 96, 97, 98, 99, 100, 101, 102, 103, 104, 105, 106, 107, 108, 109, 110, 111, 112, 113, 114, 115, 116, 117, 118, 119] [] [8] [(8, .bool false)] (by kernel_rfl) (fun a_ hS => ?_)
                    refine L_end ?_
                    refine wp_ret ?_
                    obtain rfl := Option.some.inj H
                    refine bodyPost_ret (results_tmp rfl _ _ _) hS.defers ?_
                    rw [hS.getD (t := 8) rfl]
                    exact ⟨rfl, hB⟩
                · rw [hb] at hS; rw [if_neg (nt hb)] at H
                  refine L_pure hS [73, 74, 75, 76, 77, 78, 79, 80, 81, 82, 83, 84, 85, 86, 87, 88, 89, 90, 91, 92, 93, 94, 95, 96, 97, 98, 99, 100, 101, 102, 103, 104, 105, 106, 107, 108, 109, 110, 111, 112, 113, 114, 115, 116, 117, 118, 119] [] [8] [(8, .bool false)] (by kernel_rfl) (fun a_ hS => ?_)
                  refine L_end ?_
                  refine wp_ret ?_
                  obtain rfl := Option.some.inj H
                  refine bodyPost_ret (results_tmp rfl _ _ _) hS.defers ?_
                  rw [hS.getD (t := 8) rfl]
                  exact ⟨rfl, hB⟩
              · rw [hb] at hS; rw [if_neg (nt hb)] at H
                refine L_pure hS [66, 67, 68, 69, 70, 71, 72, 73, 74, 75, 76, 77, 78, 79, 80, 81, 82, 83, 84, 85, 86, 87, 88, 89, 90, 91, 92, 93, 94, 95, 96, 97, 98, 99, 100, 101, 102, 103, 104, 105, 106, 107, 108, 109, 110, 111, 112, 113, 114, 115, 116, 117, 118, 119] [] [8] [(8, .bool false)] (by kernel_rfl) (fun a_ hS => ?_)
                refine L_end ?_
                refine wp_ret ?_
                obtain rfl := Option.some.inj H
                refine bodyPost_ret (results_tmp rfl _ _ _) hS.defers ?_
                rw [hS.getD (t := 8) rfl]
                exact ⟨rfl, hB⟩
            · rw [hb] at hS; rw [if_neg (nt hb)] at H
              refine L_pure hS [59, 60, 61, 62, 63, 64, 65, 66, 67, 68, 69, 70, 71, 72, 73, 74, 75, 76, 77, 78, 79, 80, 81, 82, 83, 84, 85, 86, 87, 88, 89, 90, 91, 92, 93, 94, 95, 96, 97, 98, 99, 100, 101, 102, 103, 104, 105, 106, 107, 108, 109, 110, 111, 112, 113, 114, 115, 116, 117, 118, 119] [] [8] [(8, .bool false)] (by kernel_rfl) (fun a_ hS => ?_)
              refine L_end ?_
              refine wp_ret ?_
              obtain rfl := Option.some.inj H
              refine bodyPost_ret (results_tmp rfl _ _ _) hS.defers ?_
              rw [hS.getD (t := 8) rfl]
              exact ⟨rfl, hB⟩
          · rw [hb] at hS; rw [if_neg (nt hb)] at H
            refine L_pure hS [52, 53, 54, 55, 56, 57, 58, 59, 60, 61, 62, 63, 64, 65, 66, 67, 68, 69, 70, 71, 72, 73, 74, 75, 76, 77, 78, 79, 80, 81, 82, 83, 84, 85, 86, 87, 88, 89, 90, 91, 92, 93, 94, 95, 96, 97, 98, 99, 100, 101, 102, 103, 104, 105, 106, 107, 108, 109, 110, 111, 112, 113, 114, 115, 116, 117, 118, 119] [] [8] [(8, .bool false)] (by kernel_rfl) (fun a_ hS => ?_)
            refine L_end ?_
            refine wp_ret ?_
            obtain rfl := Option.some.inj H
            refine bodyPost_ret (results_tmp rfl _ _ _) hS.defers ?_
            rw [hS.getD (t := 8) rfl]
            exact ⟨rfl, hB⟩
        · rw [hb] at hS; rw [if_neg (nt hb)] at H
          refine L_pure hS [43, 44, 45, 46, 47, 48, 49, 50, 51, 52, 53, 54, 55, 56, 57, 58, 59, 60, 61, 62, 63, 64, 65, 66, 67, 68, 69, 70, 71, 72, 73, 74, 75, 76, 77, 78, 79, 80, 81, 82, 83, 84, 85, 86, 87, 88, 89, 90, 91, 92, 93, 94, 95, 96, 97, 98, 99, 100, 101, 102, 103, 104, 105, 106, 107, 108, 109, 110, 111, 112, 113, 114, 115, 116, 117, 118, 119] [] [8] [(8, .bool false)] (by kernel_rfl) (fun a_ hS => ?_)
          refine L_end ?_
          refine wp_ret ?_
          obtain rfl := Option.some.inj H
          refine bodyPost_ret (results_tmp rfl _ _ _) hS.defers ?_
          rw [hS.getD (t := 8) rfl]
          exact ⟨rfl, hB⟩
      · rw [hb] at hS; rw [if_neg (nt hb)] at H
        refine L_pure hS [32, 33, 34, 35, 36, 37, 38, 39, 40, 41, 42, 43, 44, 45, 46, 47, 48, 49, 50, 51, 52, 53, 54, 55, 56, 57, 58, 59, 60, 61, 62, 63, 64, 65, 66, 67, 68, 69, 70, 71, 72, 73, 74, 75, 76, 77, 78, 79, 80, 81, 82, 83, 84, 85, 86, 87, 88, 89, 90, 91, 92, 93, 94, 95, 96, 97, 98, 99, 100, 101, 102, 103, 104, 105, 106, 107, 108, 109, 110, 111, 112, 113, 114, 115, 116, 117, 118, 119] [] [8] [(8, .bool false)] (by kernel_rfl) (fun a_ hS => ?_)
        refine L_end ?_
        refine wp_ret ?_
        obtain rfl := Option.some.inj H
        refine bodyPost_ret (results_tmp rfl _ _ _) hS.defers ?_
        rw [hS.getD (t := 8) rfl]
        exact ⟨rfl, hB⟩
    · rw [hb] at hS; rw [if_neg (nt hb)] at H
      refine L_pure hS [17, 18, 19, 20, 21, 22, 23, 24, 25, 26, 27, 28, 29, 30, 31, 32, 33, 34, 35, 36, 37, 38, 39, 40, 41, 42, 43, 44, 45, 46, 47, 48, 49, 50, 51, 52, 53, 54, 55, 56, 57, 58, 59, 60, 61, 62, 63, 64, 65, 66, 67, 68, 69, 70, 71, 72, 73, 74, 75, 76, 77, 78, 79, 80, 81, 82, 83, 84, 85, 86, 87, 88, 89, 90, 91, 92, 93, 94, 95, 96, 97, 98, 99, 100, 101, 102, 103, 104, 105, 106, 107, 108, 109, 110, 111, 112, 113, 114, 115, 116, 117, 118, 119] [] [8] [(8, .bool false)] (by kernel_rfl) (fun a_ hS => ?_)
      refine L_end ?_
      refine wp_ret ?_
      obtain rfl := Option.some.inj H
      refine bodyPost_ret (results_tmp rfl _ _ _) hS.defers ?_
      rw [hS.getD (t := 8) rfl]
      exact ⟨rfl, hB⟩
  · rw [hb] at hS; rw [if_neg (nt hb)] at H
    refine L_pure hS [8, 9, 10, 11, 12, 13, 14, 15, 16, 17, 18, 19, 20, 21, 22, 23, 24, 25, 26, 27, 28, 29, 30, 31, 32, 33, 34, 35, 36, 37, 38, 39, 40, 41, 42, 43, 44, 45, 46, 47, 48, 49, 50, 51, 52, 53, 54, 55, 56, 57, 58, 59, 60, 61, 62, 63, 64, 65, 66, 67, 68, 69, 70, 71, 72, 73, 74, 75, 76, 77, 78, 79, 80, 81, 82, 83, 84, 85, 86, 87, 88, 89, 90, 91, 92, 93, 94, 95, 96, 97, 98, 99, 100, 101, 102, 103, 104, 105, 106, 107, 108, 109, 110, 111, 112, 113, 114, 115, 116, 117, 118, 119] [] [8] [(8, .bool false)] (by kernel_rfl) (fun a_ hS => ?_)
    refine L_end ?_
    refine wp_ret ?_
    obtain rfl := Option.some.inj H
    refine bodyPost_ret (results_tmp rfl _ _ _) hS.defers ?_
    rw [hS.getD (t := 8) rfl]
    exact ⟨rfl, hB⟩

/-! ### exegetelaw02_SetSplits: function 4 -/
def exegetelaw02_SetSplits.f (F : Nat) (a0 : List Int) (a1 : List Int) (a2 : Int) : Option (Bool) := (set_Of.f a0).bind fun t3 => (set_Of.f a1).bind fun t5 => (set_Set_List.f F t3).bind fun t7 => (exegetekeep_Within.f a2 (IntKind.i64.wrap ((t7.length : Int) + 1))).bind fun t12 => chk ((0 : Int) ≤ 0 ∧ (0 : Int) ≤ t12 ∧ (t12 : Int) ≤ (t7.length : Int)) (chk ((0 : Int) ≤ t12 ∧ (t12 : Int) ≤ (t7.length : Int) ∧ ((t7.length : Int) : Int) ≤ (t7.length : Int)) ((set_Of.f ((t7.take (t12 : Int).toNat).drop (0 : Int).toNat)).bind fun t20 => (set_Of.f ((t7.take ((t7.length : Int) : Int).toNat).drop (t12 : Int).toNat)).bind fun t22 => jn (fun (K25 : Bool → Option (Bool)) => (set_Set_Join.f t20 t22).bind fun t27 => if t27 != t3 then (K25 true) else ((set_Set_Both.f t20 t22).bind fun t29 => (set_Of.f ([] : List Int)).bind fun t31 => if t29 != t31 then (K25 true) else ((set_Set_Count.f t20).bind fun t33 => if t33 != t12 then (K25 true) else ((set_Set_In.f t20 t3).bind fun t35 => if !t35 then (K25 true) else ((set_Set_In.f t22 t3).bind fun t37 => K25 (!t37)))))) (fun (x24 : Bool) => if x24 then (some (false)) else ((set_Set_Less.f t3 t5).bind fun t39 => (set_Set_Less.f t5 t3).bind fun t41 => (set_Set_Both.f t3 t5).bind fun t43 => (set_Set_Join.f t39 t41).bind fun t45 => (set_Set_Join.f t45 t43).bind fun t47 => (set_Set_Join.f t3 t5).bind fun t49 => if t47 == t49 then ((set_Set_Both.f t39 t41).bind fun t51 => (set_Of.f ([] : List Int)).bind fun t53 => if t51 == t53 then ((set_Set_Both.f t39 t43).bind fun t55 => (set_Of.f ([] : List Int)).bind fun t57 => if t55 == t57 then ((set_Set_Both.f t41 t43).bind fun t59 => (set_Of.f ([] : List Int)).bind fun t61 => if t59 == t61 then ((set_Set_In.f t3 t5).bind fun t63 => (set_Of.f ([] : List Int)).bind fun t65 => if t63 == (t39 == t65) then ((set_Set_In.f t3 t5).bind fun t67 => if t67 then ((set_Set_In.f t5 t3).bind fun t69 => if (t3 == t5) == t69 then ((exegetelaw02_wakes.f F).bind fun t71 => some (t71)) else (some (false))) else (if (t3 == t5) == false then ((exegetelaw02_wakes.f F).bind fun t73 => some (t73)) else (some (false)))) else (some (false))) else (some (false))) else (some (false))) else (some (false))) else (some (false))))))
set_option maxRecDepth 100000 in
set_option maxHeartbeats 4000000 in
theorem exegetelaw02_SetSplits.calls (F : Nat) (a0 : List Int) (a1 : List Int) (a2 : Int) {I : Imm} {W : World} {v0 : Value} {v1 : Value} (hF : Fits I W) (hT : TabOK I) (h0 : RepV I (SL 1 (XI .i64) a0) v0) (h1 : RepV I (SL 1 (XI .i64) a1) v1) {r : Bool} (H : exegetelaw02_SetSplits.f F a0 a1 a2 = some r) :
    Calls Tryd.prog 4 #[v0, v1, .int .i64 a2] W (EndS (.bool r) W) := by
  unfold exegetelaw02_SetSplits.f at H
  have hR1 := h0
  obtain ⟨A1, c1, rfl, hl1, hm1⟩ := SL_len hR1
  have hR2 := h1
  obtain ⟨A2, c2, rfl, hl2, hm2⟩ := SL_len hR2
  refine enterL (l := [.slice A1 a0.length c1, .slice A2 a1.length c2, .int .i64 a2]) Tryd.func4 rfl 130 rfl (by kernel_rfl) (fun a_ hS => ?_)
  have hB := Below.refl W.heap.size W
  refine wp_seq ?_
  refine L_region [0] (by kernel_rfl) ?_
  refine L_pure hS [0] [] [0, 1, 2, 6] [(0, .slice A1 a0.length c1), (1, .slice A2 a1.length c2), (2, .int .i64 a2), (6, .bool false)] (by kernel_rfl) (fun a_ hS => ?_)
  refine L_end ?_
  refine wp_seq ?_
  refine L_region [0, 1, 2, 3, 4, 5] (by kernel_rfl) ?_
  refine L_pure hS [0] [1, 2, 3, 4, 5] [1, 2, 6, 16] [(1, .slice A2 a1.length c2), (2, .int .i64 a2), (6, .bool false), (16, .slice A1 a0.length c1)] (by kernel_rfl) (fun a_ hS => ?_)
  obtain ⟨t3, hq4, H⟩ := bind_elim H
  refine L_op hS (i := 1) rfl (by kernel_rfl) ?_
  refine wp_call hS [.slice A1 a0.length c1] rfl Tryd.func8 (by kernel_rfl) (by kernel_rfl) (by kernel_rfl) (set_Of.calls a0 hF hR1 hq4) ?_
  rintro e_ w_ ⟨rfl, hb⟩
  refine ⟨_, _, rfl, rfl, ?_⟩; intro a_ hS
  have hF := hF.below hb
  have hB := hB.trans (hb.mono hB.size)
  refine L_pure hS [2] [3, 4, 5] [17, 2, 6, 18] [(17, .int .u64 t3), (2, .int .i64 a2), (6, .bool false), (18, .slice A2 a1.length c2)] (by kernel_rfl) (fun a_ hS => ?_)
  obtain ⟨t5, hq6, H⟩ := bind_elim H
  refine L_op hS (i := 3) rfl (by kernel_rfl) ?_
  refine wp_call hS [.slice A2 a1.length c2] rfl Tryd.func8 (by kernel_rfl) (by kernel_rfl) (by kernel_rfl) (set_Of.calls a1 hF hR2 hq6) ?_
  rintro e_ w_ ⟨rfl, hb⟩
  refine ⟨_, _, rfl, rfl, ?_⟩; intro a_ hS
  have hF := hF.below hb
  have hB := hB.trans (hb.mono hB.size)
  refine L_pure hS [4, 5] [] [2, 6, 7, 8] [(2, .int .i64 a2), (6, .bool false), (7, .int .u64 t3), (8, .int .u64 t5)] (by kernel_rfl) (fun a_ hS => ?_)
  refine L_end ?_
  refine wp_seq ?_
  refine L_region [0, 1, 2] (by kernel_rfl) ?_
  refine L_pure hS [0] [1, 2] [2, 6, 7, 8, 20] [(2, .int .i64 a2), (6, .bool false), (7, .int .u64 t3), (8, .int .u64 t5), (20, .int .u64 t3)] (by kernel_rfl) (fun a_ hS => ?_)
  obtain ⟨t7, hq8, H⟩ := bind_elim H
  refine L_op hS (i := 1) rfl (by kernel_rfl) ?_
  refine wp_call hS [.int .u64 t3] rfl Tryd.func9 (by kernel_rfl) (by kernel_rfl) (by kernel_rfl) (set_Set_List.calls F t3 hF hT hq8) ?_
  rintro e_ w_ ⟨v_, J9, rfl, hg10, hF_, hr_, hb⟩
  refine ⟨_, _, rfl, rfl, ?_⟩; intro a_ hS
  have hO11 := hr_.lower hB.size
  have hT := hT.mono hg10.ext
  have hB := hB.trans (hb.mono hB.size)
  have hF := hF_
  obtain ⟨A11, c11, rfl, hl11, hm11⟩ := hO11.form
  refine L_pure hS [2] [] [2, 6, 7, 8, 9] [(2, .int .i64 a2), (6, .bool false), (7, .int .u64 t3), (8, .int .u64 t5), (9, .slice A11 t7.length c11)] (by kernel_rfl) (fun a_ hS => ?_)
  refine L_end ?_
  refine wp_seq ?_
  refine L_region [0, 1, 2, 3, 4, 5] (by kernel_rfl) ?_
  refine L_pure hS [0, 1, 2, 3] [4, 5] [6, 7, 8, 9, 22, 25] [(6, .bool false), (7, .int .u64 t3), (8, .int .u64 t5), (9, .slice A11 t7.length c11), (22, .int .i64 a2), (25, .int .i64 (IntKind.i64.wrap ((t7.length : Int) + 1)))] (by kernel_rfl) (fun a_ hS => ?_)
  obtain ⟨t12, hq13, H⟩ := bind_elim H
  refine L_op hS (i := 4) rfl (by kernel_rfl) ?_
  refine wp_call hS [.int .i64 a2, .int .i64 (IntKind.i64.wrap ((t7.length : Int) + 1))] rfl Tryd.func7 (by kernel_rfl) (by kernel_rfl) (by kernel_rfl) (exegetekeep_Within.calls a2 (IntKind.i64.wrap ((t7.length : Int) + 1)) hF hq13) ?_
  rintro e_ w_ ⟨rfl, hb⟩
  refine ⟨_, _, rfl, rfl, ?_⟩; intro a_ hS
  have hF := hF.below hb
  have hO11 := (hO11).below hb
  have hB := hB.trans (hb.mono hB.size)
  refine L_pure hS [5] [] [6, 7, 8, 9, 10] [(6, .bool false), (7, .int .u64 t3), (8, .int .u64 t5), (9, .slice A11 t7.length c11), (10, .int .i64 t12)] (by kernel_rfl) (fun a_ hS => ?_)
  refine L_end ?_
  refine wp_seq ?_
  have hGS := Grow.of hF W.heap.size
  refine H_regionI hF (by kernel_rfl) 10 #[false, false, false, false, false, false, false, false, false, false] (by kernel_rfl) (by kernel_rfl) [(some 27, [9], []), (some 28, [10], []), (some 29, [27, 28], [0, 1]), (some 30, [29], [2]), (some 31, [9], []), (some 32, [10], []), (some 33, [31, 32], [4, 5]), (some 34, [33], [6, 3]), (some 11, [30], [3, 7, 0, 1, 2, 3]), (some 12, [34], [7, 8, 0, 1, 2, 3, 4, 5, 6, 7, 8])] (by kernel_rfl) (fun hI => ?_)
  have hO11 := hO11.below (Below.refl _ _).drew
  have hF := hF.drew
  have hB := hB.drew
  refine H_pure hI (by kernel_rfl) (fun _ _ _ _ _ h => h) hS hF [0, 1, 4, 5] [6, 7, 8, 10, 27, 28, 31, 32] #[false, false, false, false, false, false, false, false, false, false] #[true, true, false, false, true, true, false, false, false, false] [(6, .bool false), (7, .int .u64 t3), (8, .int .u64 t5), (10, .int .i64 t12), (27, .slice A11 t7.length c11), (28, .int .i64 t12), (31, .slice A11 t7.length c11), (32, .int .i64 t12)] 6 (by kernel_rfl) (fun a_ hS => ?_)
  obtain ⟨hc14, H⟩ := chk_elim H
  have hT := hT.mono hO11.addGrow.ext
  have hGS := hGS.trans hO11.addGrow (Nat.le_refl _)
  have hF := Own.addFits hF (v := .slice A11 t7.length c11)
  have hO11 := hO11.rep
  obtain ⟨J15, hJ16⟩ := nameI hF; rw [← hJ16] at hF hGS hT hO11
  refine H_upI hF hGS.ext ?_
  have hGS := Grow.of hF W.heap.size
  have hR17 := SL_cut hO11 (lo := (0 : Int).toNat) (hi := (t12 : Int).toNat) (cut_le hc14) (cut_len hc14)
  refine H_take hI (by kernel_rfl) (fun _ _ _ _ _ h => h) hS hF 2 (.slice (cutA A11 c11 (0 : Int).toNat 1) ((t7.take (t12 : Int).toNat).drop (0 : Int).toNat).length (c11 - (0 : Int).toNat)) #[true, true, true, false, true, true, false, false, false, false] ([(29, .slice (cutA A11 c11 (0 : Int).toNat 1) ((t7.take (t12 : Int).toNat).drop (0 : Int).toNat).length (c11 - (0 : Int).toNat)), (6, .bool false), (7, .int .u64 t3), (8, .int .u64 t5), (10, .int .i64 t12), (27, .slice A11 t7.length c11), (28, .int .i64 t12), (31, .slice A11 t7.length c11), (32, .int .i64 t12)]) rfl (by kernel_rfl) (by kernel_rfl) (by kernel_rfl) (y_slice_sl hS 0 t12 rfl rfl Tryd.underlying22 (by kernel_rfl) hO11.sl_len.2 (.inl ⟨rfl, rfl⟩) (.inr ⟨_, _, rfl, rfl⟩) hc14.1 hc14.2.1 hc14.2.2) rfl ?_; intro a_ hS
  obtain ⟨hc18, H⟩ := chk_elim H
  have hR19 := SL_cut hO11 (lo := (t12 : Int).toNat) (hi := ((t7.length : Int) : Int).toNat) (cut_le hc18) (cut_len hc18)
  refine H_take hI (by kernel_rfl) (fun _ _ _ _ _ h => h) hS hF 6 (.slice (cutA A11 c11 (t12 : Int).toNat 1) ((t7.take ((t7.length : Int) : Int).toNat).drop (t12 : Int).toNat).length (c11 - (t12 : Int).toNat)) #[true, true, true, false, true, true, true, false, false, false] ([(33, .slice (cutA A11 c11 (t12 : Int).toNat 1) ((t7.take ((t7.length : Int) : Int).toNat).drop (t12 : Int).toNat).length (c11 - (t12 : Int).toNat)), (29, .slice (cutA A11 c11 (0 : Int).toNat 1) ((t7.take (t12 : Int).toNat).drop (0 : Int).toNat).length (c11 - (0 : Int).toNat)), (6, .bool false), (7, .int .u64 t3), (8, .int .u64 t5), (10, .int .i64 t12), (27, .slice A11 t7.length c11), (28, .int .i64 t12), (31, .slice A11 t7.length c11), (32, .int .i64 t12)]) rfl (by kernel_rfl) (by kernel_rfl) (by kernel_rfl) (y_slice_sl hS t12 (t7.length : Int) rfl rfl Tryd.underlying22 (by kernel_rfl) hO11.sl_len.2 (.inr ⟨_, _, rfl, rfl⟩) (.inl ⟨rfl, rfl⟩) hc18.1 hc18.2.1 hc18.2.2) rfl ?_; intro a_ hS
  obtain ⟨t20, hq21, H⟩ := bind_elim H
  refine H_op hS 3 #[true, true, true, true, true, true, true, false, false, false] rfl (by kernel_rfl) (by kernel_rfl) (by kernel_rfl) ?_
  refine wp_call hS [.slice (cutA A11 c11 (0 : Int).toNat 1) ((t7.take (t12 : Int).toNat).drop (0 : Int).toNat).length (c11 - (0 : Int).toNat)] rfl Tryd.func8 (by kernel_rfl) (by kernel_rfl) (by kernel_rfl) (set_Of.calls ((t7.take (t12 : Int).toNat).drop (0 : Int).toNat) hF hR17 hq21) ?_
  rintro e_ w_ ⟨rfl, hb⟩
  refine ⟨_, _, rfl, rfl, ?_⟩; intro a_ hS
  have hF := hF.below hb
  have hB := hB.trans (hb.mono hB.size)
  refine ⟨hF.of_ext hGS.ext, ?_⟩
  obtain ⟨t22, hq23, H⟩ := bind_elim H
  refine H_op hS 7 #[true, true, true, true, true, true, true, true, false, false] rfl (by kernel_rfl) (by kernel_rfl) (by kernel_rfl) ?_
  refine wp_call hS [.slice (cutA A11 c11 (t12 : Int).toNat 1) ((t7.take ((t7.length : Int) : Int).toNat).drop (t12 : Int).toNat).length (c11 - (t12 : Int).toNat)] rfl Tryd.func8 (by kernel_rfl) (by kernel_rfl) (by kernel_rfl) (set_Of.calls ((t7.take ((t7.length : Int) : Int).toNat).drop (t12 : Int).toNat) hF hR19 hq23) ?_
  rintro e_ w_ ⟨rfl, hb⟩
  refine ⟨_, _, rfl, rfl, ?_⟩; intro a_ hS
  have hF := hF.below hb
  have hB := hB.trans (hb.mono hB.size)
  refine ⟨hF.of_ext hGS.ext, ?_⟩
  refine H_pure hI (by kernel_rfl) (fun _ _ _ _ _ h => h) hS hF [8, 9] [6, 7, 8, 10, 11, 12] #[true, true, true, true, true, true, true, true, false, false] #[true, true, true, true, true, true, true, true, true, true] [(6, .bool false), (7, .int .u64 t3), (8, .int .u64 t5), (10, .int .i64 t12), (11, .int .u64 t20), (12, .int .u64 t22)] 0 (by kernel_rfl) (fun a_ hS => ?_)
  refine H_end (by kernel_rfl) ?_
  refine wp_seq ?_
  refine wp_seq ?_
  obtain ⟨K25, hK25, H⟩ := jn_elim H
  try dsimp only at H
  refine c_cut (fun a_ w => ∃ (x24 : Bool), Sat 130 [] [(6, .bool false), (7, .int .u64 t3), (8, .int .u64 t5), (64, .bool x24)] a_ ∧ Below W.heap.size W w ∧ Fits J15 w ∧ K25 x24 = some r) ?_ ?_
  · skip
    refine L_region [0, 1, 2, 3, 4, 5, 6, 7, 8, 9, 10, 11, 12, 13, 14, 15, 16, 17, 18, 19, 20, 21, 22, 23, 24, 25, 26, 27, 28, 29] (by kernel_rfl) ?_
    refine L_pure hS [0, 1] [2, 3, 4, 5, 6, 7, 8, 9, 10, 11, 12, 13, 14, 15, 16, 17, 18, 19, 20, 21, 22, 23, 24, 25, 26, 27, 28, 29] [6, 7, 8, 10, 11, 12, 35, 36] [(6, .bool false), (7, .int .u64 t3), (8, .int .u64 t5), (10, .int .i64 t12), (11, .int .u64 t20), (12, .int .u64 t22), (35, .int .u64 t20), (36, .int .u64 t22)] (by kernel_rfl) (fun a_ hS => ?_)
    obtain ⟨t27, hq28, H⟩ := bind_elim H
    refine L_op hS (i := 2) rfl (by kernel_rfl) ?_
    refine wp_call hS [.int .u64 t20, .int .u64 t22] rfl Tryd.func16 (by kernel_rfl) (by kernel_rfl) (by kernel_rfl) (set_Set_Join.calls t20 t22 hF hq28) ?_
    rintro e_ w_ ⟨rfl, hb⟩
    refine ⟨_, _, rfl, rfl, ?_⟩; intro a_ hS
    have hF := hF.below hb
    have hB := hB.trans (hb.mono hB.size)
    refine L_pure hS [3, 4, 5] [6, 7, 8, 9, 10, 11, 12, 13, 14, 15, 16, 17, 18, 19, 20, 21, 22, 23, 24, 25, 26, 27, 28, 29] [6, 7, 8, 10, 11, 12, 40] [(6, .bool false), (7, .int .u64 t3), (8, .int .u64 t5), (10, .int .i64 t12), (11, .int .u64 t20), (12, .int .u64 t22), (40, .bool (t27 != t3))] (by kernel_rfl) (fun a_ hS => ?_)
    rcases Bool.eq_false_or_eq_true (t27 != t3) with hb | hb
    · rw [hb] at hS; rw [if_pos hb] at H
      refine L_pure hS [6, 7, 8, 9, 10, 11, 12, 13, 14, 15, 16, 17, 18, 19, 20, 21, 22, 23, 24, 25, 26, 27, 28, 29] [] [6, 7, 8, 64] [(6, .bool false), (7, .int .u64 t3), (8, .int .u64 t5), (64, .bool true)] (by kernel_rfl) (fun a_ hS => ?_)
      refine L_end ?_
      exact ⟨true, hS.pick (l := [6, 7, 8, 64]) (by kernel_rfl), hB, hF, H⟩
    · rw [hb] at hS; rw [if_neg (nt hb)] at H
      refine L_pure hS [6, 7] [8, 9, 10, 11, 12, 13, 14, 15, 16, 17, 18, 19, 20, 21, 22, 23, 24, 25, 26, 27, 28, 29] [6, 7, 8, 10, 11, 12, 40, 41, 42] [(6, .bool false), (7, .int .u64 t3), (8, .int .u64 t5), (10, .int .i64 t12), (11, .int .u64 t20), (12, .int .u64 t22), (40, .bool false), (41, .int .u64 t20), (42, .int .u64 t22)] (by kernel_rfl) (fun a_ hS => ?_)
      obtain ⟨t29, hq30, H⟩ := bind_elim H
      refine L_op hS (i := 8) rfl (by kernel_rfl) ?_
      refine wp_call hS [.int .u64 t20, .int .u64 t22] rfl Tryd.func17 (by kernel_rfl) (by kernel_rfl) (by kernel_rfl) (set_Set_Both.calls t20 t22 hF hq30) ?_
      rintro e_ w_ ⟨rfl, hb⟩
      refine ⟨_, _, rfl, rfl, ?_⟩; intro a_ hS
      have hF := hF.below hb
      have hB := hB.trans (hb.mono hB.size)
      obtain ⟨t31, hq32, H⟩ := bind_elim H
      refine L_op hS (i := 9) rfl (by kernel_rfl) ?_
      refine wp_call hS [.slice none 0 0] rfl Tryd.func8 (by kernel_rfl) (by kernel_rfl) (by kernel_rfl) (set_Of.calls ([] : List Int) hF (.nil _ _) hq32) ?_
      rintro e_ w_ ⟨rfl, hb⟩
      refine ⟨_, _, rfl, rfl, ?_⟩; intro a_ hS
      have hF := hF.below hb
      have hB := hB.trans (hb.mono hB.size)
      refine L_pure hS [10, 11, 12] [13, 14, 15, 16, 17, 18, 19, 20, 21, 22, 23, 24, 25, 26, 27, 28, 29] [6, 7, 8, 10, 11, 12, 47] [(6, .bool false), (7, .int .u64 t3), (8, .int .u64 t5), (10, .int .i64 t12), (11, .int .u64 t20), (12, .int .u64 t22), (47, .bool (t29 != t31))] (by kernel_rfl) (fun a_ hS => ?_)
      rcases Bool.eq_false_or_eq_true (t29 != t31) with hb | hb
      · rw [hb] at hS; rw [if_pos hb] at H
        refine L_pure hS [13, 14, 15, 16, 17, 18, 19, 20, 21, 22, 23, 24, 25, 26, 27, 28, 29] [] [6, 7, 8, 64] [(6, .bool false), (7, .int .u64 t3), (8, .int .u64 t5), (64, .bool true)] (by kernel_rfl) (fun a_ hS => ?_)
        refine L_end ?_
        exact ⟨true, hS.pick (l := [6, 7, 8, 64]) (by kernel_rfl), hB, hF, H⟩
      · rw [hb] at hS; rw [if_neg (nt hb)] at H
        refine L_pure hS [13] [14, 15, 16, 17, 18, 19, 20, 21, 22, 23, 24, 25, 26, 27, 28, 29] [6, 7, 8, 10, 11, 12, 47, 48] [(6, .bool false), (7, .int .u64 t3), (8, .int .u64 t5), (10, .int .i64 t12), (11, .int .u64 t20), (12, .int .u64 t22), (47, .bool false), (48, .int .u64 t20)] (by kernel_rfl) (fun a_ hS => ?_)
        obtain ⟨t33, hq34, H⟩ := bind_elim H
        refine L_op hS (i := 14) rfl (by kernel_rfl) ?_
        refine wp_call hS [.int .u64 t20] rfl Tryd.func12 (by kernel_rfl) (by kernel_rfl) (by kernel_rfl) (set_Set_Count.calls t20 hF hq34) ?_
        rintro e_ w_ ⟨rfl, hb⟩
        refine ⟨_, _, rfl, rfl, ?_⟩; intro a_ hS
        have hF := hF.below hb
        have hB := hB.trans (hb.mono hB.size)
        refine L_pure hS [15, 16, 17, 18] [19, 20, 21, 22, 23, 24, 25, 26, 27, 28, 29] [6, 7, 8, 11, 12, 53] [(6, .bool false), (7, .int .u64 t3), (8, .int .u64 t5), (11, .int .u64 t20), (12, .int .u64 t22), (53, .bool (t33 != t12))] (by kernel_rfl) (fun a_ hS => ?_)
        rcases Bool.eq_false_or_eq_true (t33 != t12) with hb | hb
        · rw [hb] at hS; rw [if_pos hb] at H
          refine L_pure hS [19, 20, 21, 22, 23, 24, 25, 26, 27, 28, 29] [] [6, 7, 8, 64] [(6, .bool false), (7, .int .u64 t3), (8, .int .u64 t5), (64, .bool true)] (by kernel_rfl) (fun a_ hS => ?_)
          refine L_end ?_
          exact ⟨true, hS.pick (l := [6, 7, 8, 64]) (by kernel_rfl), hB, hF, H⟩
        · rw [hb] at hS; rw [if_neg (nt hb)] at H
          refine L_pure hS [19, 20] [21, 22, 23, 24, 25, 26, 27, 28, 29] [6, 7, 8, 12, 53, 54, 55] [(6, .bool false), (7, .int .u64 t3), (8, .int .u64 t5), (12, .int .u64 t22), (53, .bool false), (54, .int .u64 t20), (55, .int .u64 t3)] (by kernel_rfl) (fun a_ hS => ?_)
          obtain ⟨t35, hq36, H⟩ := bind_elim H
          refine L_op hS (i := 21) rfl (by kernel_rfl) ?_
          refine wp_call hS [.int .u64 t20, .int .u64 t3] rfl Tryd.func13 (by kernel_rfl) (by kernel_rfl) (by kernel_rfl) (set_Set_In.calls t20 t3 hF hq36) ?_
          rintro e_ w_ ⟨rfl, hb⟩
          refine ⟨_, _, rfl, rfl, ?_⟩; intro a_ hS
          have hF := hF.below hb
          have hB := hB.trans (hb.mono hB.size)
          refine L_pure hS [22, 23, 24] [25, 26, 27, 28, 29] [6, 7, 8, 12, 59] [(6, .bool false), (7, .int .u64 t3), (8, .int .u64 t5), (12, .int .u64 t22), (59, .bool (!t35))] (by kernel_rfl) (fun a_ hS => ?_)
          rcases Bool.eq_false_or_eq_true (!t35) with hb | hb
          · rw [hb] at hS; rw [if_pos hb] at H
            refine L_pure hS [25, 26, 27, 28, 29] [] [6, 7, 8, 64] [(6, .bool false), (7, .int .u64 t3), (8, .int .u64 t5), (64, .bool true)] (by kernel_rfl) (fun a_ hS => ?_)
            refine L_end ?_
            exact ⟨true, hS.pick (l := [6, 7, 8, 64]) (by kernel_rfl), hB, hF, H⟩
          · rw [hb] at hS; rw [if_neg (nt hb)] at H
            refine L_pure hS [25, 26] [27, 28, 29] [6, 7, 8, 59, 60, 61] [(6, .bool false), (7, .int .u64 t3), (8, .int .u64 t5), (59, .bool false), (60, .int .u64 t22), (61, .int .u64 t3)] (by kernel_rfl) (fun a_ hS => ?_)
            obtain ⟨t37, hq38, H⟩ := bind_elim H
            refine L_op hS (i := 27) rfl (by kernel_rfl) ?_
            refine wp_call hS [.int .u64 t22, .int .u64 t3] rfl Tryd.func13 (by kernel_rfl) (by kernel_rfl) (by kernel_rfl) (set_Set_In.calls t22 t3 hF hq38) ?_
            rintro e_ w_ ⟨rfl, hb⟩
            refine ⟨_, _, rfl, rfl, ?_⟩; intro a_ hS
            have hF := hF.below hb
            have hB := hB.trans (hb.mono hB.size)
            refine L_pure hS [28, 29] [] [6, 7, 8, 64] [(6, .bool false), (7, .int .u64 t3), (8, .int .u64 t5), (64, .bool (!t37))] (by kernel_rfl) (fun a_ hS => ?_)
            refine L_end ?_
            exact ⟨(!t37), hS.pick (l := [6, 7, 8, 64]) (by kernel_rfl), hB, hF, H⟩
  clear H
  rintro a_ w_ ⟨x24, hS, hB, hF, H⟩
  subst hK25
  try dsimp only at H
  refine c_cond hS (c := .tmp 64) rfl (fun hb => ?_) (fun hb => ?_)
  · rw [if_pos hb] at H
    refine wp_seq ?_
    refine L_region [0] (by kernel_rfl) ?_
    refine L_pure hS [0] [] [6, 7, 8] [(6, .bool false), (7, .int .u64 t3), (8, .int .u64 t5)] (by kernel_rfl) (fun a_ hS => ?_)
    refine L_end ?_
    refine wp_ret ?_
    obtain rfl := Option.some.inj H
    refine bodyPost_ret (results_tmp rfl _ _ _) hS.defers ?_
    rw [hS.getD (t := 6) rfl]
    exact ⟨rfl, hB⟩
  · rw [if_neg (nt hb)] at H
    refine wp_skip ?_
    refine wp_seq ?_
    refine L_region [0, 1, 2, 3, 4, 5, 6, 7, 8, 9, 10, 11] (by kernel_rfl) ?_
    refine L_pure hS [0, 1] [2, 3, 4, 5, 6, 7, 8, 9, 10, 11] [6, 7, 8, 65, 66] [(6, .bool false), (7, .int .u64 t3), (8, .int .u64 t5), (65, .int .u64 t3), (66, .int .u64 t5)] (by kernel_rfl) (fun a_ hS => ?_)
    obtain ⟨t39, hq40, H⟩ := bind_elim H
    refine L_op hS (i := 2) rfl (by kernel_rfl) ?_
    refine wp_call hS [.int .u64 t3, .int .u64 t5] rfl Tryd.func14 (by kernel_rfl) (by kernel_rfl) (by kernel_rfl) (set_Set_Less.calls t3 t5 hF hq40) ?_
    rintro e_ w_ ⟨rfl, hb⟩
    refine ⟨_, _, rfl, rfl, ?_⟩; intro a_ hS
    have hF := hF.below hb
    have hB := hB.trans (hb.mono hB.size)
    refine L_pure hS [3, 4] [5, 6, 7, 8, 9, 10, 11] [67, 6, 7, 8, 68, 69] [(67, .int .u64 t39), (6, .bool false), (7, .int .u64 t3), (8, .int .u64 t5), (68, .int .u64 t5), (69, .int .u64 t3)] (by kernel_rfl) (fun a_ hS => ?_)
    obtain ⟨t41, hq42, H⟩ := bind_elim H
    refine L_op hS (i := 5) rfl (by kernel_rfl) ?_
    refine wp_call hS [.int .u64 t5, .int .u64 t3] rfl Tryd.func14 (by kernel_rfl) (by kernel_rfl) (by kernel_rfl) (set_Set_Less.calls t5 t3 hF hq42) ?_
    rintro e_ w_ ⟨rfl, hb⟩
    refine ⟨_, _, rfl, rfl, ?_⟩; intro a_ hS
    have hF := hF.below hb
    have hB := hB.trans (hb.mono hB.size)
    refine L_pure hS [6, 7] [8, 9, 10, 11] [70, 67, 6, 7, 8, 71, 72] [(70, .int .u64 t41), (67, .int .u64 t39), (6, .bool false), (7, .int .u64 t3), (8, .int .u64 t5), (71, .int .u64 t3), (72, .int .u64 t5)] (by kernel_rfl) (fun a_ hS => ?_)
    obtain ⟨t43, hq44, H⟩ := bind_elim H
    refine L_op hS (i := 8) rfl (by kernel_rfl) ?_
    refine wp_call hS [.int .u64 t3, .int .u64 t5] rfl Tryd.func17 (by kernel_rfl) (by kernel_rfl) (by kernel_rfl) (set_Set_Both.calls t3 t5 hF hq44) ?_
    rintro e_ w_ ⟨rfl, hb⟩
    refine ⟨_, _, rfl, rfl, ?_⟩; intro a_ hS
    have hF := hF.below hb
    have hB := hB.trans (hb.mono hB.size)
    refine L_pure hS [9, 10, 11] [] [6, 7, 8, 13, 14, 15] [(6, .bool false), (7, .int .u64 t3), (8, .int .u64 t5), (13, .int .u64 t39), (14, .int .u64 t41), (15, .int .u64 t43)] (by kernel_rfl) (fun a_ hS => ?_)
    refine L_end ?_
    refine wp_seq ?_
    refine L_region [0, 1, 2, 3, 4, 5, 6, 7, 8, 9, 10, 11, 12, 13, 14, 15, 16, 17, 18, 19, 20, 21, 22, 23, 24, 25, 26, 27, 28, 29, 30, 31, 32, 33, 34, 35, 36, 37, 38, 39, 40, 41, 42, 43, 44, 45, 46, 47, 48, 49, 50, 51, 52, 53, 54, 55, 56] (by kernel_rfl) ?_
    refine L_pure hS [0, 1] [2, 3, 4, 5, 6, 7, 8, 9, 10, 11, 12, 13, 14, 15, 16, 17, 18, 19, 20, 21, 22, 23, 24, 25, 26, 27, 28, 29, 30, 31, 32, 33, 34, 35, 36, 37, 38, 39, 40, 41, 42, 43, 44, 45, 46, 47, 48, 49, 50, 51, 52, 53, 54, 55, 56] [6, 7, 8, 13, 14, 15, 74, 75] [(6, .bool false), (7, .int .u64 t3), (8, .int .u64 t5), (13, .int .u64 t39), (14, .int .u64 t41), (15, .int .u64 t43), (74, .int .u64 t39), (75, .int .u64 t41)] (by kernel_rfl) (fun a_ hS => ?_)
    obtain ⟨t45, hq46, H⟩ := bind_elim H
    refine L_op hS (i := 2) rfl (by kernel_rfl) ?_
    refine wp_call hS [.int .u64 t39, .int .u64 t41] rfl Tryd.func16 (by kernel_rfl) (by kernel_rfl) (by kernel_rfl) (set_Set_Join.calls t39 t41 hF hq46) ?_
    rintro e_ w_ ⟨rfl, hb⟩
    refine ⟨_, _, rfl, rfl, ?_⟩; intro a_ hS
    have hF := hF.below hb
    have hB := hB.trans (hb.mono hB.size)
    refine L_pure hS [3] [4, 5, 6, 7, 8, 9, 10, 11, 12, 13, 14, 15, 16, 17, 18, 19, 20, 21, 22, 23, 24, 25, 26, 27, 28, 29, 30, 31, 32, 33, 34, 35, 36, 37, 38, 39, 40, 41, 42, 43, 44, 45, 46, 47, 48, 49, 50, 51, 52, 53, 54, 55, 56] [76, 6, 7, 8, 13, 14, 15, 77] [(76, .int .u64 t45), (6, .bool false), (7, .int .u64 t3), (8, .int .u64 t5), (13, .int .u64 t39), (14, .int .u64 t41), (15, .int .u64 t43), (77, .int .u64 t43)] (by kernel_rfl) (fun a_ hS => ?_)
    obtain ⟨t47, hq48, H⟩ := bind_elim H
    refine L_op hS (i := 4) rfl (by kernel_rfl) ?_
    refine wp_call hS [.int .u64 t45, .int .u64 t43] rfl Tryd.func16 (by kernel_rfl) (by kernel_rfl) (by kernel_rfl) (set_Set_Join.calls t45 t43 hF hq48) ?_
    rintro e_ w_ ⟨rfl, hb⟩
    refine ⟨_, _, rfl, rfl, ?_⟩; intro a_ hS
    have hF := hF.below hb
    have hB := hB.trans (hb.mono hB.size)
    refine L_pure hS [5, 6] [7, 8, 9, 10, 11, 12, 13, 14, 15, 16, 17, 18, 19, 20, 21, 22, 23, 24, 25, 26, 27, 28, 29, 30, 31, 32, 33, 34, 35, 36, 37, 38, 39, 40, 41, 42, 43, 44, 45, 46, 47, 48, 49, 50, 51, 52, 53, 54, 55, 56] [78, 6, 7, 8, 13, 14, 15, 79, 80] [(78, .int .u64 t47), (6, .bool false), (7, .int .u64 t3), (8, .int .u64 t5), (13, .int .u64 t39), (14, .int .u64 t41), (15, .int .u64 t43), (79, .int .u64 t3), (80, .int .u64 t5)] (by kernel_rfl) (fun a_ hS => ?_)
    obtain ⟨t49, hq50, H⟩ := bind_elim H
    refine L_op hS (i := 7) rfl (by kernel_rfl) ?_
    refine wp_call hS [.int .u64 t3, .int .u64 t5] rfl Tryd.func16 (by kernel_rfl) (by kernel_rfl) (by kernel_rfl) (set_Set_Join.calls t3 t5 hF hq50) ?_
    rintro e_ w_ ⟨rfl, hb⟩
    refine ⟨_, _, rfl, rfl, ?_⟩; intro a_ hS
    have hF := hF.below hb
    have hB := hB.trans (hb.mono hB.size)
    refine L_pure hS [8, 9] [10, 11, 12, 13, 14, 15, 16, 17, 18, 19, 20, 21, 22, 23, 24, 25, 26, 27, 28, 29, 30, 31, 32, 33, 34, 35, 36, 37, 38, 39, 40, 41, 42, 43, 44, 45, 46, 47, 48, 49, 50, 51, 52, 53, 54, 55, 56] [6, 7, 8, 13, 14, 15, 83] [(6, .bool false), (7, .int .u64 t3), (8, .int .u64 t5), (13, .int .u64 t39), (14, .int .u64 t41), (15, .int .u64 t43), (83, .bool (t47 == t49))] (by kernel_rfl) (fun a_ hS => ?_)
    rcases Bool.eq_false_or_eq_true (t47 == t49) with hb | hb
    · rw [hb] at hS; rw [if_pos hb] at H
      refine L_pure hS [10, 11] [12, 13, 14, 15, 16, 17, 18, 19, 20, 21, 22, 23, 24, 25, 26, 27, 28, 29, 30, 31, 32, 33, 34, 35, 36, 37, 38, 39, 40, 41, 42, 43, 44, 45, 46, 47, 48, 49, 50, 51, 52, 53, 54, 55, 56] [6, 7, 8, 13, 14, 15, 83, 84, 85] [(6, .bool false), (7, .int .u64 t3), (8, .int .u64 t5), (13, .int .u64 t39), (14, .int .u64 t41), (15, .int .u64 t43), (83, .bool true), (84, .int .u64 t39), (85, .int .u64 t41)] (by kernel_rfl) (fun a_ hS => ?_)
      obtain ⟨t51, hq52, H⟩ := bind_elim H
      refine L_op hS (i := 12) rfl (by kernel_rfl) ?_
      refine wp_call hS [.int .u64 t39, .int .u64 t41] rfl Tryd.func17 (by kernel_rfl) (by kernel_rfl) (by kernel_rfl) (set_Set_Both.calls t39 t41 hF hq52) ?_
      rintro e_ w_ ⟨rfl, hb⟩
      refine ⟨_, _, rfl, rfl, ?_⟩; intro a_ hS
      have hF := hF.below hb
      have hB := hB.trans (hb.mono hB.size)
      obtain ⟨t53, hq54, H⟩ := bind_elim H
      refine L_op hS (i := 13) rfl (by kernel_rfl) ?_
      refine wp_call hS [.slice none 0 0] rfl Tryd.func8 (by kernel_rfl) (by kernel_rfl) (by kernel_rfl) (set_Of.calls ([] : List Int) hF (.nil _ _) hq54) ?_
      rintro e_ w_ ⟨rfl, hb⟩
      refine ⟨_, _, rfl, rfl, ?_⟩; intro a_ hS
      have hF := hF.below hb
      have hB := hB.trans (hb.mono hB.size)
      refine L_pure hS [14, 15, 16] [17, 18, 19, 20, 21, 22, 23, 24, 25, 26, 27, 28, 29, 30, 31, 32, 33, 34, 35, 36, 37, 38, 39, 40, 41, 42, 43, 44, 45, 46, 47, 48, 49, 50, 51, 52, 53, 54, 55, 56] [6, 7, 8, 13, 14, 15, 90] [(6, .bool false), (7, .int .u64 t3), (8, .int .u64 t5), (13, .int .u64 t39), (14, .int .u64 t41), (15, .int .u64 t43), (90, .bool (t51 == t53))] (by kernel_rfl) (fun a_ hS => ?_)
      rcases Bool.eq_false_or_eq_true (t51 == t53) with hb | hb
      · rw [hb] at hS; rw [if_pos hb] at H
        refine L_pure hS [17, 18] [19, 20, 21, 22, 23, 24, 25, 26, 27, 28, 29, 30, 31, 32, 33, 34, 35, 36, 37, 38, 39, 40, 41, 42, 43, 44, 45, 46, 47, 48, 49, 50, 51, 52, 53, 54, 55, 56] [6, 7, 8, 13, 14, 15, 90, 91, 92] [(6, .bool false), (7, .int .u64 t3), (8, .int .u64 t5), (13, .int .u64 t39), (14, .int .u64 t41), (15, .int .u64 t43), (90, .bool true), (91, .int .u64 t39), (92, .int .u64 t43)] (by kernel_rfl) (fun a_ hS => ?_)
        obtain ⟨t55, hq56, H⟩ := bind_elim H
        refine L_op hS (i := 19) rfl (by kernel_rfl) ?_
        refine wp_call hS [.int .u64 t39, .int .u64 t43] rfl Tryd.func17 (by kernel_rfl) (by kernel_rfl) (by kernel_rfl) (set_Set_Both.calls t39 t43 hF hq56) ?_
        rintro e_ w_ ⟨rfl, hb⟩
        refine ⟨_, _, rfl, rfl, ?_⟩; intro a_ hS
        have hF := hF.below hb
        have hB := hB.trans (hb.mono hB.size)
        obtain ⟨t57, hq58, H⟩ := bind_elim H
        refine L_op hS (i := 20) rfl (by kernel_rfl) ?_
        refine wp_call hS [.slice none 0 0] rfl Tryd.func8 (by kernel_rfl) (by kernel_rfl) (by kernel_rfl) (set_Of.calls ([] : List Int) hF (.nil _ _) hq58) ?_
        rintro e_ w_ ⟨rfl, hb⟩
        refine ⟨_, _, rfl, rfl, ?_⟩; intro a_ hS
        have hF := hF.below hb
        have hB := hB.trans (hb.mono hB.size)
        refine L_pure hS [21, 22, 23] [24, 25, 26, 27, 28, 29, 30, 31, 32, 33, 34, 35, 36, 37, 38, 39, 40, 41, 42, 43, 44, 45, 46, 47, 48, 49, 50, 51, 52, 53, 54, 55, 56] [6, 7, 8, 13, 14, 15, 97] [(6, .bool false), (7, .int .u64 t3), (8, .int .u64 t5), (13, .int .u64 t39), (14, .int .u64 t41), (15, .int .u64 t43), (97, .bool (t55 == t57))] (by kernel_rfl) (fun a_ hS => ?_)
        rcases Bool.eq_false_or_eq_true (t55 == t57) with hb | hb
        · rw [hb] at hS; rw [if_pos hb] at H
          refine L_pure hS [24, 25] [26, 27, 28, 29, 30, 31, 32, 33, 34, 35, 36, 37, 38, 39, 40, 41, 42, 43, 44, 45, 46, 47, 48, 49, 50, 51, 52, 53, 54, 55, 56] [6, 7, 8, 13, 97, 98, 99] [(6, .bool false), (7, .int .u64 t3), (8, .int .u64 t5), (13, .int .u64 t39), (97, .bool true), (98, .int .u64 t41), (99, .int .u64 t43)] (by kernel_rfl) (fun a_ hS => ?_)
          obtain ⟨t59, hq60, H⟩ := bind_elim H
          refine L_op hS (i := 26) rfl (by kernel_rfl) ?_
          refine wp_call hS [.int .u64 t41, .int .u64 t43] rfl Tryd.func17 (by kernel_rfl) (by kernel_rfl) (by kernel_rfl) (set_Set_Both.calls t41 t43 hF hq60) ?_
          rintro e_ w_ ⟨rfl, hb⟩
          refine ⟨_, _, rfl, rfl, ?_⟩; intro a_ hS
          have hF := hF.below hb
          have hB := hB.trans (hb.mono hB.size)
          obtain ⟨t61, hq62, H⟩ := bind_elim H
          refine L_op hS (i := 27) rfl (by kernel_rfl) ?_
          refine wp_call hS [.slice none 0 0] rfl Tryd.func8 (by kernel_rfl) (by kernel_rfl) (by kernel_rfl) (set_Of.calls ([] : List Int) hF (.nil _ _) hq62) ?_
          rintro e_ w_ ⟨rfl, hb⟩
          refine ⟨_, _, rfl, rfl, ?_⟩; intro a_ hS
          have hF := hF.below hb
          have hB := hB.trans (hb.mono hB.size)
          refine L_pure hS [28, 29, 30] [31, 32, 33, 34, 35, 36, 37, 38, 39, 40, 41, 42, 43, 44, 45, 46, 47, 48, 49, 50, 51, 52, 53, 54, 55, 56] [6, 7, 8, 13, 104] [(6, .bool false), (7, .int .u64 t3), (8, .int .u64 t5), (13, .int .u64 t39), (104, .bool (t59 == t61))] (by kernel_rfl) (fun a_ hS => ?_)
          rcases Bool.eq_false_or_eq_true (t59 == t61) with hb | hb
          · rw [hb] at hS; rw [if_pos hb] at H
            refine L_pure hS [31, 32] [33, 34, 35, 36, 37, 38, 39, 40, 41, 42, 43, 44, 45, 46, 47, 48, 49, 50, 51, 52, 53, 54, 55, 56] [6, 7, 8, 13, 104, 105, 106] [(6, .bool false), (7, .int .u64 t3), (8, .int .u64 t5), (13, .int .u64 t39), (104, .bool true), (105, .int .u64 t3), (106, .int .u64 t5)] (by kernel_rfl) (fun a_ hS => ?_)
            obtain ⟨t63, hq64, H⟩ := bind_elim H
            refine L_op hS (i := 33) rfl (by kernel_rfl) ?_
            refine wp_call hS [.int .u64 t3, .int .u64 t5] rfl Tryd.func13 (by kernel_rfl) (by kernel_rfl) (by kernel_rfl) (set_Set_In.calls t3 t5 hF hq64) ?_
            rintro e_ w_ ⟨rfl, hb⟩
            refine ⟨_, _, rfl, rfl, ?_⟩; intro a_ hS
            have hF := hF.below hb
            have hB := hB.trans (hb.mono hB.size)
            refine L_pure hS [34] [35, 36, 37, 38, 39, 40, 41, 42, 43, 44, 45, 46, 47, 48, 49, 50, 51, 52, 53, 54, 55, 56] [107, 6, 7, 8, 104, 108] [(107, .bool t63), (6, .bool false), (7, .int .u64 t3), (8, .int .u64 t5), (104, .bool true), (108, .int .u64 t39)] (by kernel_rfl) (fun a_ hS => ?_)
            obtain ⟨t65, hq66, H⟩ := bind_elim H
            refine L_op hS (i := 35) rfl (by kernel_rfl) ?_
            refine wp_call hS [.slice none 0 0] rfl Tryd.func8 (by kernel_rfl) (by kernel_rfl) (by kernel_rfl) (set_Of.calls ([] : List Int) hF (.nil _ _) hq66) ?_
            rintro e_ w_ ⟨rfl, hb⟩
            refine ⟨_, _, rfl, rfl, ?_⟩; intro a_ hS
            have hF := hF.below hb
            have hB := hB.trans (hb.mono hB.size)
            refine L_pure hS [36, 37, 38, 39] [40, 41, 42, 43, 44, 45, 46, 47, 48, 49, 50, 51, 52, 53, 54, 55, 56] [6, 7, 8, 113] [(6, .bool false), (7, .int .u64 t3), (8, .int .u64 t5), (113, .bool (t63 == (t39 == t65)))] (by kernel_rfl) (fun a_ hS => ?_)
            rcases Bool.eq_false_or_eq_true (t63 == (t39 == t65)) with hb | hb
            · rw [hb] at hS; rw [if_pos hb] at H
              refine L_pure hS [40, 41, 42, 43, 44] [45, 46, 47, 48, 49, 50, 51, 52, 53, 54, 55, 56] [6, 7, 8, 113, 116, 117, 118] [(6, .bool false), (7, .int .u64 t3), (8, .int .u64 t5), (113, .bool true), (116, .bool (t3 == t5)), (117, .int .u64 t3), (118, .int .u64 t5)] (by kernel_rfl) (fun a_ hS => ?_)
              obtain ⟨t67, hq68, H⟩ := bind_elim H
              refine L_op hS (i := 45) rfl (by kernel_rfl) ?_
              refine wp_call hS [.int .u64 t3, .int .u64 t5] rfl Tryd.func13 (by kernel_rfl) (by kernel_rfl) (by kernel_rfl) (set_Set_In.calls t3 t5 hF hq68) ?_
              rintro e_ w_ ⟨rfl, hb⟩
              refine ⟨_, _, rfl, rfl, ?_⟩; intro a_ hS
              have hF := hF.below hb
              have hB := hB.trans (hb.mono hB.size)
              refine L_pure hS [46] [47, 48, 49, 50, 51, 52, 53, 54, 55, 56] [6, 7, 8, 113, 116, 120] [(6, .bool false), (7, .int .u64 t3), (8, .int .u64 t5), (113, .bool true), (116, .bool (t3 == t5)), (120, .bool t67)] (by kernel_rfl) (fun a_ hS => ?_)
              rcases Bool.eq_false_or_eq_true t67 with hb | hb
              · rw [hb] at hS; rw [if_pos hb] at H
                refine L_pure hS [47, 48] [49, 50, 51, 52, 53, 54, 55, 56] [6, 113, 116, 120, 121, 122] [(6, .bool false), (113, .bool true), (116, .bool (t3 == t5)), (120, .bool true), (121, .int .u64 t5), (122, .int .u64 t3)] (by kernel_rfl) (fun a_ hS => ?_)
                obtain ⟨t69, hq70, H⟩ := bind_elim H
                refine L_op hS (i := 49) rfl (by kernel_rfl) ?_
                refine wp_call hS [.int .u64 t5, .int .u64 t3] rfl Tryd.func13 (by kernel_rfl) (by kernel_rfl) (by kernel_rfl) (set_Set_In.calls t5 t3 hF hq70) ?_
                rintro e_ w_ ⟨rfl, hb⟩
                refine ⟨_, _, rfl, rfl, ?_⟩; intro a_ hS
                have hF := hF.below hb
                have hB := hB.trans (hb.mono hB.size)
                refine L_pure hS [50, 51, 52, 53] [54, 55, 56] [6, 127] [(6, .bool false), (127, .bool ((t3 == t5) == t69))] (by kernel_rfl) (fun a_ hS => ?_)
                rcases Bool.eq_false_or_eq_true ((t3 == t5) == t69) with hb | hb
                · rw [hb] at hS; rw [if_pos hb] at H
                  obtain ⟨t71, hq72, H⟩ := bind_elim H
                  refine L_op hS (i := 54) rfl (by kernel_rfl) ?_
                  refine wp_call hS [] rfl Tryd.func15 (by kernel_rfl) (by kernel_rfl) (by kernel_rfl) (exegetelaw02_wakes.calls F hF hT hq72) ?_
                  rintro e_ w_ ⟨rfl, hb⟩
                  refine ⟨_, _, rfl, rfl, ?_⟩; intro a_ hS
                  have hF := hF.below hb
                  have hB := hB.trans (hb.mono hB.size)
                  refine L_pure hS [55, 56] [] [6] [(6, .bool t71)] (by kernel_rfl) (fun a_ hS => ?_)
                  refine L_end ?_
                  refine wp_ret ?_
                  obtain rfl := Option.some.inj H
                  refine bodyPost_ret (results_tmp rfl _ _ _) hS.defers ?_
                  rw [hS.getD (t := 6) rfl]
                  exact ⟨rfl, hB⟩
                · rw [hb] at hS; rw [if_neg (nt hb)] at H
                  refine L_pure hS [54, 55, 56] [] [6] [(6, .bool false)] (by kernel_rfl) (fun a_ hS => ?_)
                  refine L_end ?_
                  refine wp_ret ?_
                  obtain rfl := Option.some.inj H
                  refine bodyPost_ret (results_tmp rfl _ _ _) hS.defers ?_
                  rw [hS.getD (t := 6) rfl]
                  exact ⟨rfl, hB⟩
              · rw [hb] at hS; rw [if_neg (nt hb)] at H
                refine L_pure hS [47, 48, 49, 50, 51, 52, 53] [54, 55, 56] [6, 127] [(6, .bool false), (127, .bool ((t3 == t5) == false))] (by kernel_rfl) (fun a_ hS => ?_)
                rcases Bool.eq_false_or_eq_true ((t3 == t5) == false) with hb | hb
                · rw [hb] at hS; rw [if_pos hb] at H
                  obtain ⟨t73, hq74, H⟩ := bind_elim H
                  refine L_op hS (i := 54) rfl (by kernel_rfl) ?_
                  refine wp_call hS [] rfl Tryd.func15 (by kernel_rfl) (by kernel_rfl) (by kernel_rfl) (exegetelaw02_wakes.calls F hF hT hq74) ?_
                  rintro e_ w_ ⟨rfl, hb⟩
                  refine ⟨_, _, rfl, rfl, ?_⟩; intro a_ hS
                  have hF := hF.below hb
                  have hB := hB.trans (hb.mono hB.size)
                  refine L_pure hS [55, 56] [] [6] [(6, .bool t73)] (by kernel_rfl) (fun a_ hS => ?_)
                  refine L_end ?_
                  refine wp_ret ?_
                  obtain rfl := Option.some.inj H
                  refine bodyPost_ret (results_tmp rfl _ _ _) hS.defers ?_
                  rw [hS.getD (t := 6) rfl]
                  exact ⟨rfl, hB⟩
                · rw [hb] at hS; rw [if_neg (nt hb)] at H
                  refine L_pure hS [54, 55, 56] [] [6] [(6, .bool false)] (by kernel_rfl) (fun a_ hS => ?_)
                  refine L_end ?_
                  refine wp_ret ?_
                  obtain rfl := Option.some.inj H
                  refine bodyPost_ret (results_tmp rfl _ _ _) hS.defers ?_
                  rw [hS.getD (t := 6) rfl]
                  exact ⟨rfl, hB⟩
            · rw [hb] at hS; rw [if_neg (nt hb)] at H
              refine L_pure hS [40, 41, 42, 43, 44, 45, 46, 47, 48, 49, 50, 51, 52, 53, 54, 55, 56] [] [6] [(6, .bool false)] (by kernel_rfl) (fun a_ hS => ?_)
              refine L_end ?_
              refine wp_ret ?_
              obtain rfl := Option.some.inj H
              refine bodyPost_ret (results_tmp rfl _ _ _) hS.defers ?_
              rw [hS.getD (t := 6) rfl]
              exact ⟨rfl, hB⟩
          · rw [hb] at hS; rw [if_neg (nt hb)] at H
            refine L_pure hS [31, 32, 33, 34, 35, 36, 37, 38, 39, 40, 41, 42, 43, 44, 45, 46, 47, 48, 49, 50, 51, 52, 53, 54, 55, 56] [] [6] [(6, .bool false)] (by kernel_rfl) (fun a_ hS => ?_)
            refine L_end ?_
            refine wp_ret ?_
            obtain rfl := Option.some.inj H
            refine bodyPost_ret (results_tmp rfl _ _ _) hS.defers ?_
            rw [hS.getD (t := 6) rfl]
            exact ⟨rfl, hB⟩
        · rw [hb] at hS; rw [if_neg (nt hb)] at H
          refine L_pure hS [24, 25, 26, 27, 28, 29, 30, 31, 32, 33, 34, 35, 36, 37, 38, 39, 40, 41, 42, 43, 44, 45, 46, 47, 48, 49, 50, 51, 52, 53, 54, 55, 56] [] [6] [(6, .bool false)] (by kernel_rfl) (fun a_ hS => ?_)
          refine L_end ?_
          refine wp_ret ?_
          obtain rfl := Option.some.inj H
          refine bodyPost_ret (results_tmp rfl _ _ _) hS.defers ?_
          rw [hS.getD (t := 6) rfl]
          exact ⟨rfl, hB⟩
      · rw [hb] at hS; rw [if_neg (nt hb)] at H
        refine L_pure hS [17, 18, 19, 20, 21, 22, 23, 24, 25, 26, 27, 28, 29, 30, 31, 32, 33, 34, 35, 36, 37, 38, 39, 40, 41, 42, 43, 44, 45, 46, 47, 48, 49, 50, 51, 52, 53, 54, 55, 56] [] [6] [(6, .bool false)] (by kernel_rfl) (fun a_ hS => ?_)
        refine L_end ?_
        refine wp_ret ?_
        obtain rfl := Option.some.inj H
        refine bodyPost_ret (results_tmp rfl _ _ _) hS.defers ?_
        rw [hS.getD (t := 6) rfl]
        exact ⟨rfl, hB⟩
    · rw [hb] at hS; rw [if_neg (nt hb)] at H
      refine L_pure hS [10, 11, 12, 13, 14, 15, 16, 17, 18, 19, 20, 21, 22, 23, 24, 25, 26, 27, 28, 29, 30, 31, 32, 33, 34, 35, 36, 37, 38, 39, 40, 41, 42, 43, 44, 45, 46, 47, 48, 49, 50, 51, 52, 53, 54, 55, 56] [] [6] [(6, .bool false)] (by kernel_rfl) (fun a_ hS => ?_)
      refine L_end ?_
      refine wp_ret ?_
      obtain rfl := Option.some.inj H
      refine bodyPost_ret (results_tmp rfl _ _ _) hS.defers ?_
      rw [hS.getD (t := 6) rfl]
      exact ⟨rfl, hB⟩

/-! ### exegetelaw02_SetLists: function 3 -/
def exegetelaw02_SetLists.l0 (a0 : List Int) (a1 : List Int) (K12 : Int → (List Int) → Option (Bool)) : Nat → Int → (List Int) → Option (Bool)
  | 0, _, _ => none
  | k13 + 1, x8, x9 => jn (fun (K17 : Bool → Option (Bool)) => if decide ((IntKind.i64.wrap (x8 + 1)) < (a1.length : Int)) then (if decide (x8 < 20) then (K17 (decide (((([] : List Int) ++ a0).length : Int) > 0))) else (K17 false)) else (K17 false)) (fun (x16 : Bool) => if x16 then (chk ((0 : Int) ≤ x8 ∧ x8 < (a1.length : Int)) (chk ((0 : Int) ≤ (IntKind.i64.wrap (x8 + 1)) ∧ (IntKind.i64.wrap (x8 + 1)) < (a1.length : Int)) (lt (a1.getD (IntKind.i64.wrap (x8 + 1) : Int).toNat 0) fun (t35 : Int) => (exegetekeep_Within.f (a1.getD (x8 : Int).toNat 0) ((([] : List Int) ++ a0).length : Int)).bind fun t37 => (exegetekeep_Within.f t35 ((([] : List Int) ++ a0).length : Int)).bind fun t39 => chk ((0 : Int) ≤ t39 ∧ t39 < ((([] : List Int) ++ a0).length : Int)) (chk ((0 : Int) ≤ t37 ∧ t37 < ((([] : List Int) ++ a0).length : Int)) (exegetelaw02_SetLists.l0 a0 a1 K12 k13 (IntKind.i64.wrap (x8 + 2)) ((x9.set (t37 : Int).toNat (x9.getD (t39 : Int).toNat 0)).set (t39 : Int).toNat (x9.getD (t37 : Int).toNat 0))))))) else (K12 x8 x9))
def exegetelaw02_SetLists.l1 (t61 : Int) (t63 : (List Int)) (K80 : Bool → Option (Bool)) : List Int → Nat → Bool → Option (Bool)
  | [], _, x72 => K80 x72
  | e74 :: es75, j73, x72 => jn (fun (K90 : Bool → Option (Bool)) => if decide (e74 < 0) then (K90 true) else (if decide (e74 > 63) then (K90 true) else (if decide ((j73 : Int) > 0) then (chk ((0 : Int) ≤ (IntKind.i64.wrap ((j73 : Int) - 1)) ∧ (IntKind.i64.wrap ((j73 : Int) - 1)) < (t63.length : Int)) (if decide ((t63.getD (IntKind.i64.wrap ((j73 : Int) - 1) : Int).toNat 0) ≥ e74) then (K90 true) else ((set_Set_Has.f t61 e74).bind fun t99 => K90 (!t99)))) else ((set_Set_Has.f t61 e74).bind fun t101 => K90 (!t101))))) (fun (x89 : Bool) => if x89 then (some (false)) else (exegetelaw02_SetLists.l1 t61 t63 K80 es75 (j73 + 1) x72))
def exegetelaw02_SetLists.l2 (t63 : (List Int)) (K109 : Int → (List Int) → Option (Bool)) : Nat → Int → (List Int) → Option (Bool)
  | 0, _, _ => none
  | k110 + 1, x105, x106 => if decide (x105 < (t63.length : Int)) then (chk ((0 : Int) ≤ x105 ∧ x105 < (t63.length : Int)) (exegetelaw02_SetLists.l2 t63 K109 k110 (IntKind.i64.wrap (x105 + 1)) (x106.set (x105 : Int).toNat 99))) else (K109 x105 x106)
def exegetelaw02_SetLists.l3 (K126 : Int → Int → Option (Bool)) : Nat → Int → Int → Option (Bool)
  | 0, _, _ => none
  | k127 + 1, x122, x123 => if decide (x123 < 64) then ((set_Set_With.f x122 x123).bind fun t130 => exegetelaw02_SetLists.l3 K126 k127 t130 (IntKind.i64.wrap (x123 + 1))) else (K126 x122 x123)
def exegetelaw02_SetLists.f (F : Nat) (a0 : List Int) (a1 : List Int) : Option (Bool) := chk (([] : List Int).length + a0.length ≤ 17592186044416) (jn (fun (K6 : (List Int) → Option (Bool)) => exegetelaw02_SetLists.l0 a0 a1 (fun (y14 : Int) (y15 : List Int) => K6 y15) F 0 (([] : List Int) ++ a0)) (fun (x5 : List Int) => (set_Of.f a0).bind fun t61 => (set_Set_List.f F t61).bind fun t63 => jn (fun (K70 : Bool → Option (Bool)) => exegetelaw02_SetLists.l1 t61 t63 (fun (y82 : Bool) => K70 y82) t63 0 false) (fun (x69 : Bool) => jn (fun (K103 : Option (Bool)) => exegetelaw02_SetLists.l2 t63 (fun (y111 : Int) (y112 : List Int) => K103) F 0 t63) ((set_Of.f ([] : List Int)).bind fun t117 => jn (fun (K120 : Int → Option (Bool)) => exegetelaw02_SetLists.l3 (fun (y128 : Int) (y129 : Int) => K120 y128) F t117 0) (fun (x119 : Int) => (set_Of.f x5).bind fun t133 => if t133 == t61 then (chk (x5.length + ([64, (-1), 1099511627776] : List Int).length ≤ 17592186044416) ((set_Of.f (x5 ++ ([64, (-1), 1099511627776] : List Int))).bind fun t141 => if t141 == t61 then ((set_Set_List.f F t61).bind fun t143 => (set_Set_Count.f t61).bind fun t148 => if (t143.length : Int) == t148 then ((set_Set_Count.f x119).bind fun t150 => if t150 == 64 then ((set_Set_In.f t61 x119).bind fun t152 => if t152 then ((set_Set_Less.f x119 t61).bind fun t154 => (set_Set_Count.f t154).bind fun t156 => (set_Set_Count.f t61).bind fun t158 => if t156 == (IntKind.i64.wrap (64 - t158)) then ((exegetelaw02_wakes.f F).bind fun t160 => some (t160)) else (some (false))) else (some (false))) else (some (false))) else (some (false))) else (some (false)))) else (some (false)))))))
set_option maxRecDepth 100000 in
set_option maxHeartbeats 4000000 in
theorem exegetelaw02_SetLists.calls (F : Nat) (a0 : List Int) (a1 : List Int) {I : Imm} {W : World} {v0 : Value} {v1 : Value} (hF : Fits I W) (hT : TabOK I) (h0 : RepV I (SL 1 (XI .i64) a0) v0) (h1 : RepV I (SL 1 (XI .i64) a1) v1) {r : Bool} (H : exegetelaw02_SetLists.f F a0 a1 = some r) :
    Calls Tryd.prog 3 #[v0, v1] W (EndS (.bool r) W) := by
  unfold exegetelaw02_SetLists.f at H
  have hR1 := h0
  obtain ⟨A1, c1, rfl, hl1, hm1⟩ := SL_len hR1
  have hR2 := h1
  obtain ⟨A2, c2, rfl, hl2, hm2⟩ := SL_len hR2
  refine enterL (l := [.slice A1 a0.length c1, .slice A2 a1.length c2]) Tryd.func3 rfl 160 rfl (by kernel_rfl) (fun a_ hS => ?_)
  have hB := Below.refl W.heap.size W
  refine wp_seq ?_
  refine L_region [0] (by kernel_rfl) ?_
  refine L_pure hS [0] [] [0, 1, 4] [(0, .slice A1 a0.length c1), (1, .slice A2 a1.length c2), (4, .bool false)] (by kernel_rfl) (fun a_ hS => ?_)
  refine L_end ?_
  refine wp_seq ?_
  refine L_region [0, 1, 2] (by kernel_rfl) ?_
  refine L_pure hS [0] [1, 2] [0, 1, 4, 16] [(0, .slice A1 a0.length c1), (1, .slice A2 a1.length c2), (4, .bool false), (16, .slice A1 a0.length c1)] (by kernel_rfl) (fun a_ hS => ?_)
  obtain ⟨hc3, H⟩ := chk_elim H
  refine L_op hS (i := 1) rfl (by kernel_rfl) ?_
  refine wp_app hS (.const (.slice none 0 0)) (.tmp 16) 22 rfl 8 (.int .i64 0) Tryd.underlying22 (by kernel_rfl) rfl (by decide) rfl (Own.nil W.heap.size I _ 3 1 (XI .i64)) a0 rfl (Src.rep (fun _ => ⟨rfl, rfl⟩) hF hR1) hF (lim_bytes (by decide) hc3) (lim_63 (by decide) hc3) hB.size rfl rfl ?_
  intro v_ w_ hO4 hg4 hk4 hF_ a_ hS
  obtain ⟨A4, c4, rfl, hl4, hm4⟩ := hO4.form
  have hB := below_row hB hg4 hB.size (fun g hg => by simp [Value.ownBlock] at hg)
  have hF := hF_
  refine L_pure hS [2] [] [0, 1, 4, 5] [(0, .slice A1 a0.length c1), (1, .slice A2 a1.length c2), (4, .bool false), (5, .slice A4 (([] : List Int) ++ a0).length c4)] (by kernel_rfl) (fun a_ hS => ?_)
  refine L_end ?_
  refine wp_seq ?_
  refine wp_seq ?_
  refine L_region [0] (by kernel_rfl) ?_
  refine L_pure hS [0] [] [0, 1, 4, 5, 6] [(0, .slice A1 a0.length c1), (1, .slice A2 a1.length c2), (4, .bool false), (5, .slice A4 (([] : List Int) ++ a0).length c4), (6, .int .i64 0)] (by kernel_rfl) (fun a_ hS => ?_)
  refine L_end ?_
  obtain ⟨K6, hK6, H⟩ := jn_elim H
  try dsimp only at H
  refine c_cut (fun a_ w => ∃ (x5 : List Int), Sat 160 [] [(0, .slice A1 a0.length c1), (4, .bool false), (5, .slice A4 (([] : List Int) ++ a0).length c4)] a_ ∧ Below W.heap.size W w ∧ Fits I w ∧ Own W.heap.size I w 3 1 (XI .i64) x5 (.slice A4 (([] : List Int) ++ a0).length c4) ∧ K6 x5 = some r) ?_ ?_
  · skip
    refine wp_block ?_
    obtain ⟨K12, hK12, H⟩ : ∃ K_, K_ = _ ∧ exegetelaw02_SetLists.l0 a0 a1 K_ F 0 (([] : List Int) ++ a0) = some r := ⟨_, rfl, H⟩
    refine c_loop (G := Nat) (fun m_ a_ w => ∃ (x8 : Int) (x9 : List Int), Sat 160 [] [(0, .slice A1 a0.length c1), (1, .slice A2 a1.length c2), (4, .bool false), (5, .slice A4 (([] : List Int) ++ a0).length c4), (6, .int .i64 x8)] a_ ∧ Below W.heap.size W w ∧ Fits I w ∧ Own W.heap.size I w 3 1 (XI .i64) x9 (.slice A4 (([] : List Int) ++ a0).length c4) ∧ exegetelaw02_SetLists.l0 a0 a1 K12 m_ x8 x9 = some r) (fun m_ => m_) F ⟨0, (([] : List Int) ++ a0), hS.pick (l := [0, 1, 4, 5, 6]) (by kernel_rfl), hB, hF, hO4, H⟩ ?_
    clear H
    intro m_ a_ w_ hI_
    obtain ⟨x8, x9, hS, hB, hF, hO4, H⟩ := hI_
    cases m_ with
    | zero => exact absurd H (by simp [exegetelaw02_SetLists.l0])
    | succ k13 =>
      rw [exegetelaw02_SetLists.l0] at H
      refine wp_seq ?_
      refine wp_seq ?_
      obtain ⟨K17, hK17, H⟩ := jn_elim H
      try dsimp only at H
      refine c_cut (fun a_ w => ∃ (x16 : Bool), Sat 160 [] [(0, .slice A1 a0.length c1), (1, .slice A2 a1.length c2), (4, .bool false), (5, .slice A4 (([] : List Int) ++ a0).length c4), (6, .int .i64 x8), (31, .bool x16)] a_ ∧ Below W.heap.size W w ∧ Fits I w ∧ Own W.heap.size I w 3 1 (XI .i64) x9 (.slice A4 (([] : List Int) ++ a0).length c4) ∧ K17 x16 = some r) ?_ ?_
      · skip
        refine L_region [0, 1, 2, 3, 4, 5, 6, 7, 8, 9, 10, 11, 12, 13] (by kernel_rfl) ?_
        refine L_pure hS [0, 1, 2, 3, 4, 5] [6, 7, 8, 9, 10, 11, 12, 13] [0, 1, 4, 5, 6, 23] [(0, .slice A1 a0.length c1), (1, .slice A2 a1.length c2), (4, .bool false), (5, .slice A4 (([] : List Int) ++ a0).length c4), (6, .int .i64 x8), (23, .bool (decide ((IntKind.i64.wrap (x8 + 1)) < (a1.length : Int))))] (by kernel_rfl) (fun a_ hS => ?_)
        rcases Bool.eq_false_or_eq_true (decide ((IntKind.i64.wrap (x8 + 1)) < (a1.length : Int))) with hb | hb
        · rw [hb] at hS; rw [if_pos hb] at H
          refine L_pure hS [6, 7, 8, 9] [10, 11, 12, 13] [0, 1, 4, 5, 6, 27] [(0, .slice A1 a0.length c1), (1, .slice A2 a1.length c2), (4, .bool false), (5, .slice A4 (([] : List Int) ++ a0).length c4), (6, .int .i64 x8), (27, .bool (decide (x8 < 20)))] (by kernel_rfl) (fun a_ hS => ?_)
          rcases Bool.eq_false_or_eq_true (decide (x8 < 20)) with hb | hb
          · rw [hb] at hS; rw [if_pos hb] at H
            refine L_pure hS [10, 11, 12, 13] [] [0, 1, 4, 5, 6, 31] [(0, .slice A1 a0.length c1), (1, .slice A2 a1.length c2), (4, .bool false), (5, .slice A4 (([] : List Int) ++ a0).length c4), (6, .int .i64 x8), (31, .bool (decide (((([] : List Int) ++ a0).length : Int) > 0)))] (by kernel_rfl) (fun a_ hS => ?_)
            refine L_end ?_
            exact ⟨(decide (((([] : List Int) ++ a0).length : Int) > 0)), hS.pick (l := [0, 1, 4, 5, 6, 31]) (by kernel_rfl), hB, hF, hO4, H⟩
          · rw [hb] at hS; rw [if_neg (nt hb)] at H
            refine L_pure hS [10, 11, 12, 13] [] [0, 1, 4, 5, 6, 31] [(0, .slice A1 a0.length c1), (1, .slice A2 a1.length c2), (4, .bool false), (5, .slice A4 (([] : List Int) ++ a0).length c4), (6, .int .i64 x8), (31, .bool false)] (by kernel_rfl) (fun a_ hS => ?_)
            refine L_end ?_
            exact ⟨false, hS.pick (l := [0, 1, 4, 5, 6, 31]) (by kernel_rfl), hB, hF, hO4, H⟩
        · rw [hb] at hS; rw [if_neg (nt hb)] at H
          refine L_pure hS [6, 7, 8, 9, 10, 11, 12, 13] [] [0, 1, 4, 5, 6, 31] [(0, .slice A1 a0.length c1), (1, .slice A2 a1.length c2), (4, .bool false), (5, .slice A4 (([] : List Int) ++ a0).length c4), (6, .int .i64 x8), (31, .bool false)] (by kernel_rfl) (fun a_ hS => ?_)
          refine L_end ?_
          exact ⟨false, hS.pick (l := [0, 1, 4, 5, 6, 31]) (by kernel_rfl), hB, hF, hO4, H⟩
      clear H
      rintro a_ w_ ⟨x16, hS, hB, hF, hO4, H⟩
      subst hK17
      try dsimp only at H
      refine c_cond hS (c := .tmp 31) rfl (fun hb => ?_) (fun hb => ?_)
      · rw [if_pos hb] at H
        refine wp_skip ?_
        refine wp_seq ?_
        refine wp_block ?_
        refine wp_seq ?_
        have hGS := Grow.of hF W.heap.size
        refine H_regionI hF (by kernel_rfl) 17 #[false, false, false, false, false, false, false, false, false, false, false, false, false, false, false, false, false] (by kernel_rfl) (by kernel_rfl) [(some 34, [1], []), (some 35, [6], []), (some 36, [34, 35], [0, 1]), (some 37, [36], [2]), (some 38, [5], []), (some 39, [38], [4]), (some 40, [37, 39], [3, 5]), (some 41, [1], []), (some 42, [6], []), (some 43, [42], [8]), (some 44, [41, 43], [7, 9]), (some 45, [44], [10]), (some 46, [5], []), (some 47, [46], [12]), (some 48, [45, 47], [11, 13, 6]), (some 7, [40], [6, 14, 0, 1, 2, 3, 4, 5, 6]), (some 8, [48], [14, 15, 0, 1, 2, 3, 4, 5, 6, 7, 8, 9, 10, 11, 12, 13, 14, 15])] (by kernel_rfl) (fun hI => ?_)
        have hO4 := hO4.below (Below.refl _ _).drew
        have hF := hF.drew
        have hB := hB.drew
        refine H_pure hI (by kernel_rfl) (fun _ _ _ _ _ h => h) hS hF [0, 1, 4, 5, 7, 8, 9, 12] [0, 1, 4, 5, 6, 34, 35, 39, 41, 43, 46] #[false, false, false, false, false, false, false, false, false, false, false, false, false, false, false, false, false] #[true, true, false, false, true, true, false, true, true, true, false, false, true, false, false, false, false] [(0, .slice A1 a0.length c1), (1, .slice A2 a1.length c2), (4, .bool false), (5, .slice A4 (([] : List Int) ++ a0).length c4), (6, .int .i64 x8), (34, .slice A2 a1.length c2), (35, .int .i64 x8), (39, .int .i64 ((([] : List Int) ++ a0).length : Int)), (41, .slice A2 a1.length c2), (43, .int .i64 (IntKind.i64.wrap (x8 + 1))), (46, .slice A4 (([] : List Int) ++ a0).length c4)] 9 (by kernel_rfl) (fun a_ hS => ?_)
        refine H_pure hI (by kernel_rfl) (fun _ _ _ _ _ h => h) hS hF [13] [0, 1, 4, 5, 6, 34, 35, 39, 41, 43, 47] #[true, true, false, false, true, true, false, true, true, true, false, false, true, false, false, false, false] #[true, true, false, false, true, true, false, true, true, true, false, false, true, true, false, false, false] [(0, .slice A1 a0.length c1), (1, .slice A2 a1.length c2), (4, .bool false), (5, .slice A4 (([] : List Int) ++ a0).length c4), (6, .int .i64 x8), (34, .slice A2 a1.length c2), (35, .int .i64 x8), (39, .int .i64 ((([] : List Int) ++ a0).length : Int)), (41, .slice A2 a1.length c2), (43, .int .i64 (IntKind.i64.wrap (x8 + 1))), (47, .int .i64 ((([] : List Int) ++ a0).length : Int))] 8 (by kernel_rfl) (fun a_ hS => ?_)
        obtain ⟨hc19, H⟩ := chk_elim H
        obtain ⟨ad20, hA21, hx22⟩ := SL_atn hR2 (0 : Int) (x8 : Int) hc19.1 hc19.2
        refine H_take hI (by kernel_rfl) (fun _ _ _ _ _ h => h) hS hF 2 (.pointer (some ((ad20 : Addr).add ((x8 : Int).toNat * 1)))) #[true, true, true, false, true, true, false, true, true, true, false, false, true, true, false, false, false] ([(36, .pointer (some ((ad20 : Addr).add ((x8 : Int).toNat * 1)))), (0, .slice A1 a0.length c1), (1, .slice A2 a1.length c2), (4, .bool false), (5, .slice A4 (([] : List Int) ++ a0).length c4), (6, .int .i64 x8), (34, .slice A2 a1.length c2), (35, .int .i64 x8), (39, .int .i64 ((([] : List Int) ++ a0).length : Int)), (41, .slice A2 a1.length c2), (43, .int .i64 (IntKind.i64.wrap (x8 + 1))), (47, .int .i64 ((([] : List Int) ++ a0).length : Int))]) rfl (by kernel_rfl) (by kernel_rfl) (by kernel_rfl) (y_indexAddr hS hA21 rfl rfl rfl Tryd.underlying22 (by kernel_rfl) hc19.1 hc19.2) rfl ?_; intro a_ hS
        obtain ⟨u24, hI25, hR26⟩ := hx22 0 _ rfl
        obtain rfl := hR26.val_inv
        rw [add_0] at hI25
        refine H_take hI (by kernel_rfl) (fun _ _ _ _ _ h => h) hS hF 3 (.int .i64 (a1.getD (x8 : Int).toNat 0)) #[true, true, true, true, true, true, false, true, true, true, false, false, true, true, false, false, false] ([(37, .int .i64 (a1.getD (x8 : Int).toNat 0)), (36, .pointer (some ((ad20 : Addr).add ((x8 : Int).toNat * 1)))), (0, .slice A1 a0.length c1), (1, .slice A2 a1.length c2), (4, .bool false), (5, .slice A4 (([] : List Int) ++ a0).length c4), (6, .int .i64 x8), (34, .slice A2 a1.length c2), (35, .int .i64 x8), (39, .int .i64 ((([] : List Int) ++ a0).length : Int)), (41, .slice A2 a1.length c2), (43, .int .i64 (IntKind.i64.wrap (x8 + 1))), (47, .int .i64 ((([] : List Int) ++ a0).length : Int))]) rfl (by kernel_rfl) (by kernel_rfl) (by kernel_rfl) (y_load1 hS rfl rfl Tryd.underlying3 rfl hI25) rfl ?_; intro a_ hS
        obtain ⟨hc27, H⟩ := chk_elim H
        obtain ⟨ad28, hA29, hx30⟩ := SL_atn hR2 (0 : Int) (IntKind.i64.wrap (x8 + 1) : Int) hc27.1 hc27.2
        refine H_take hI (by kernel_rfl) (fun _ _ _ _ _ h => h) hS hF 10 (.pointer (some ((ad28 : Addr).add ((IntKind.i64.wrap (x8 + 1) : Int).toNat * 1)))) #[true, true, true, true, true, true, false, true, true, true, true, false, true, true, false, false, false] ([(44, .pointer (some ((ad28 : Addr).add ((IntKind.i64.wrap (x8 + 1) : Int).toNat * 1)))), (37, .int .i64 (a1.getD (x8 : Int).toNat 0)), (36, .pointer (some ((ad20 : Addr).add ((x8 : Int).toNat * 1)))), (0, .slice A1 a0.length c1), (1, .slice A2 a1.length c2), (4, .bool false), (5, .slice A4 (([] : List Int) ++ a0).length c4), (6, .int .i64 x8), (34, .slice A2 a1.length c2), (35, .int .i64 x8), (39, .int .i64 ((([] : List Int) ++ a0).length : Int)), (41, .slice A2 a1.length c2), (43, .int .i64 (IntKind.i64.wrap (x8 + 1))), (47, .int .i64 ((([] : List Int) ++ a0).length : Int))]) rfl (by kernel_rfl) (by kernel_rfl) (by kernel_rfl) (y_indexAddr hS hA29 rfl rfl rfl Tryd.underlying22 (by kernel_rfl) hc27.1 hc27.2) rfl ?_; intro a_ hS
        obtain ⟨u32, hI33, hR34⟩ := hx30 0 _ rfl
        obtain rfl := hR34.val_inv
        rw [add_0] at hI33
        refine H_take hI (by kernel_rfl) (fun _ _ _ _ _ h => h) hS hF 11 (.int .i64 (a1.getD (IntKind.i64.wrap (x8 + 1) : Int).toNat 0)) #[true, true, true, true, true, true, false, true, true, true, true, true, true, true, false, false, false] ([(45, .int .i64 (a1.getD (IntKind.i64.wrap (x8 + 1) : Int).toNat 0)), (44, .pointer (some ((ad28 : Addr).add ((IntKind.i64.wrap (x8 + 1) : Int).toNat * 1)))), (37, .int .i64 (a1.getD (x8 : Int).toNat 0)), (36, .pointer (some ((ad20 : Addr).add ((x8 : Int).toNat * 1)))), (0, .slice A1 a0.length c1), (1, .slice A2 a1.length c2), (4, .bool false), (5, .slice A4 (([] : List Int) ++ a0).length c4), (6, .int .i64 x8), (34, .slice A2 a1.length c2), (35, .int .i64 x8), (39, .int .i64 ((([] : List Int) ++ a0).length : Int)), (41, .slice A2 a1.length c2), (43, .int .i64 (IntKind.i64.wrap (x8 + 1))), (47, .int .i64 ((([] : List Int) ++ a0).length : Int))]) rfl (by kernel_rfl) (by kernel_rfl) (by kernel_rfl) (y_load1 hS rfl rfl Tryd.underlying3 rfl hI33) rfl ?_; intro a_ hS
        obtain ⟨t35, ht36, H⟩ := lt_elim H; rw [← ht36] at hS
        obtain ⟨t37, hq38, H⟩ := bind_elim H
        refine H_op hS 6 #[true, true, true, true, true, true, true, true, true, true, true, true, true, true, false, false, false] rfl (by kernel_rfl) (by kernel_rfl) (by kernel_rfl) ?_
        refine wp_call hS [.int .i64 (a1.getD (x8 : Int).toNat 0), .int .i64 ((([] : List Int) ++ a0).length : Int)] rfl Tryd.func7 (by kernel_rfl) (by kernel_rfl) (by kernel_rfl) (exegetekeep_Within.calls (a1.getD (x8 : Int).toNat 0) ((([] : List Int) ++ a0).length : Int) hF hq38) ?_
        rintro e_ w_ ⟨rfl, hb⟩
        refine ⟨_, _, rfl, rfl, ?_⟩; intro a_ hS
        have hF := hF.below hb
        have hO4 := (hO4).below hb
        have hB := hB.trans (hb.mono hB.size)
        refine ⟨hF.of_ext hGS.ext, ?_⟩
        obtain ⟨t39, hq40, H⟩ := bind_elim H
        refine H_op hS 14 #[true, true, true, true, true, true, true, true, true, true, true, true, true, true, true, false, false] rfl (by kernel_rfl) (by kernel_rfl) (by kernel_rfl) ?_
        refine wp_call hS [.int .i64 t35, .int .i64 ((([] : List Int) ++ a0).length : Int)] rfl Tryd.func7 (by kernel_rfl) (by kernel_rfl) (by kernel_rfl) (exegetekeep_Within.calls t35 ((([] : List Int) ++ a0).length : Int) hF hq40) ?_
        rintro e_ w_ ⟨rfl, hb⟩
        refine ⟨_, _, rfl, rfl, ?_⟩; intro a_ hS
        have hF := hF.below hb
        have hO4 := (hO4).below hb
        have hB := hB.trans (hb.mono hB.size)
        refine ⟨hF.of_ext hGS.ext, ?_⟩
        refine H_pure hI (by kernel_rfl) (fun _ _ _ _ _ h => h) hS hF [15, 16] [0, 1, 4, 5, 6, 7, 8] #[true, true, true, true, true, true, true, true, true, true, true, true, true, true, true, false, false] #[true, true, true, true, true, true, true, true, true, true, true, true, true, true, true, true, true] [(0, .slice A1 a0.length c1), (1, .slice A2 a1.length c2), (4, .bool false), (5, .slice A4 (([] : List Int) ++ a0).length c4), (6, .int .i64 x8), (7, .int .i64 t37), (8, .int .i64 t39)] 0 (by kernel_rfl) (fun a_ hS => ?_)
        refine H_end (by kernel_rfl) ?_
        have hGS := Grow.of hF W.heap.size
        refine H_regionI hF (by kernel_rfl) 16 #[false, false, false, false, false, false, false, false, false, false, false, false, false, false, false, false] (by kernel_rfl) (by kernel_rfl) [(some 49, [5], []), (some 50, [7], []), (some 51, [5], []), (some 52, [8], []), (some 53, [5], []), (some 54, [8], []), (some 55, [53, 54], [4, 5]), (some 56, [55], [6]), (some 57, [5], []), (some 58, [7], []), (some 59, [57, 58], [8, 9]), (some 60, [59], [10]), (some 61, [49, 50], [0, 1, 0, 1, 4, 5, 6, 7, 11]), (none, [61, 56], [12, 7, 0, 1, 4, 5, 6, 7, 11]), (some 62, [51, 52], [2, 3, 0, 1, 2, 3, 4, 5, 6, 7, 8, 9, 10, 11, 12, 13]), (none, [62, 60], [14, 11, 13, 0, 1, 2, 3, 4, 5, 6, 7, 8, 9, 10, 11, 12, 13])] (by kernel_rfl) (fun hI => ?_)
        have hO4 := hO4.below (Below.refl _ _).drew
        have hF := hF.drew
        have hB := hB.drew
        refine H_pure hI (by kernel_rfl) (fun _ _ _ _ _ h => h) hS hF [0, 1, 2, 3, 4, 5, 8, 9] [0, 1, 4, 5, 6, 49, 50, 51, 52, 53, 54, 57, 58] #[false, false, false, false, false, false, false, false, false, false, false, false, false, false, false, false] #[true, true, true, true, true, true, false, false, true, true, false, false, false, false, false, false] [(0, .slice A1 a0.length c1), (1, .slice A2 a1.length c2), (4, .bool false), (5, .slice A4 (([] : List Int) ++ a0).length c4), (6, .int .i64 x8), (49, .slice A4 (([] : List Int) ++ a0).length c4), (50, .int .i64 t37), (51, .slice A4 (([] : List Int) ++ a0).length c4), (52, .int .i64 t39), (53, .slice A4 (([] : List Int) ++ a0).length c4), (54, .int .i64 t39), (57, .slice A4 (([] : List Int) ++ a0).length c4), (58, .int .i64 t37)] 8 (by kernel_rfl) (fun a_ hS => ?_)
        obtain ⟨hc41, H⟩ := chk_elim H
        obtain ⟨ad42, hA43⟩ := hO4.addr (t39 : Int) hc41.1 hc41.2
        refine H_take hI (by kernel_rfl) (fun _ _ _ _ _ h => h) hS hF 6 (.pointer (some ((ad42 : Addr).add ((t39 : Int).toNat * 1)))) #[true, true, true, true, true, true, true, false, true, true, false, false, false, false, false, false] ([(55, .pointer (some ((ad42 : Addr).add ((t39 : Int).toNat * 1)))), (0, .slice A1 a0.length c1), (1, .slice A2 a1.length c2), (4, .bool false), (5, .slice A4 (([] : List Int) ++ a0).length c4), (6, .int .i64 x8), (49, .slice A4 (([] : List Int) ++ a0).length c4), (50, .int .i64 t37), (51, .slice A4 (([] : List Int) ++ a0).length c4), (52, .int .i64 t39), (53, .slice A4 (([] : List Int) ++ a0).length c4), (54, .int .i64 t39), (57, .slice A4 (([] : List Int) ++ a0).length c4), (58, .int .i64 t37)]) rfl (by kernel_rfl) (by kernel_rfl) (by kernel_rfl) (y_indexAddr hS hA43 rfl rfl rfl Tryd.underlying22 (by kernel_rfl) hc41.1 hc41.2) rfl ?_; intro a_ hS
        obtain ⟨hc44, H⟩ := chk_elim H
        obtain ⟨ad45, hA46⟩ := hO4.addr (t37 : Int) hc44.1 hc44.2
        refine H_take hI (by kernel_rfl) (fun _ _ _ _ _ h => h) hS hF 10 (.pointer (some ((ad45 : Addr).add ((t37 : Int).toNat * 1)))) #[true, true, true, true, true, true, true, false, true, true, true, false, false, false, false, false] ([(59, .pointer (some ((ad45 : Addr).add ((t37 : Int).toNat * 1)))), (55, .pointer (some ((ad42 : Addr).add ((t39 : Int).toNat * 1)))), (0, .slice A1 a0.length c1), (1, .slice A2 a1.length c2), (4, .bool false), (5, .slice A4 (([] : List Int) ++ a0).length c4), (6, .int .i64 x8), (49, .slice A4 (([] : List Int) ++ a0).length c4), (50, .int .i64 t37), (51, .slice A4 (([] : List Int) ++ a0).length c4), (52, .int .i64 t39), (53, .slice A4 (([] : List Int) ++ a0).length c4), (54, .int .i64 t39), (57, .slice A4 (([] : List Int) ++ a0).length c4), (58, .int .i64 t37)]) rfl (by kernel_rfl) (by kernel_rfl) (by kernel_rfl) (y_indexAddr hS hA46 rfl rfl rfl Tryd.underlying22 (by kernel_rfl) hc44.1 hc44.2) rfl ?_; intro a_ hS
        have hx47 := hO4.get hA43 (0 : Int) (t39 : Int) hc41.1 hc41.2
        obtain ⟨u48, hI49, hR50⟩ := hx47 0 _ rfl
        obtain rfl := hR50.val_inv
        rw [add_0] at hI49
        have hx51 := hO4.get hA46 (0 : Int) (t37 : Int) hc44.1 hc44.2
        obtain ⟨u52, hI53, hR54⟩ := hx51 0 _ rfl
        obtain rfl := hR54.val_inv
        rw [add_0] at hI53
        refine H_two hS 7 11 (.int .i64 (x9.getD (t39 : Int).toNat 0)) (.int .i64 (x9.getD (t37 : Int).toNat 0)) #[true, true, true, true, true, true, true, true, true, true, true, true, false, false, false, false] rfl rfl (by kernel_rfl) (by kernel_rfl) (by kernel_rfl) (by kernel_rfl) (by kernel_rfl) hF rfl rfl rfl rfl rfl rfl rfl rfl rfl (fun a_ hS => (show Yld _ _ _ _ _ from y_load1 hS rfl rfl Tryd.underlying3 rfl hI49) _ (Own.addFits hF)) (fun a_ hS => (show Yld _ _ _ _ _ from y_load1 hS rfl rfl Tryd.underlying3 rfl hI53) _ (Own.addFits hF)) ?_; intro a_ hS
        obtain ⟨ad55, hA56⟩ := hO4.addr (t37 : Int) hc44.1 hc44.2
        refine H_take hI (by kernel_rfl) (fun _ _ _ _ _ h => h) hS hF 12 (.pointer (some ((ad55 : Addr).add ((t37 : Int).toNat * 1)))) #[true, true, true, true, true, true, true, true, true, true, true, true, true, false, false, false] ([(61, .pointer (some ((ad55 : Addr).add ((t37 : Int).toNat * 1)))), (56, .int .i64 (x9.getD (t39 : Int).toNat 0)), (60, .int .i64 (x9.getD (t37 : Int).toNat 0)), (59, .pointer (some ((ad45 : Addr).add ((t37 : Int).toNat * 1)))), (55, .pointer (some ((ad42 : Addr).add ((t39 : Int).toNat * 1)))), (0, .slice A1 a0.length c1), (1, .slice A2 a1.length c2), (4, .bool false), (5, .slice A4 (([] : List Int) ++ a0).length c4), (6, .int .i64 x8), (49, .slice A4 (([] : List Int) ++ a0).length c4), (50, .int .i64 t37), (51, .slice A4 (([] : List Int) ++ a0).length c4), (52, .int .i64 t39), (53, .slice A4 (([] : List Int) ++ a0).length c4), (54, .int .i64 t39), (57, .slice A4 (([] : List Int) ++ a0).length c4), (58, .int .i64 t37)]) rfl (by kernel_rfl) (by kernel_rfl) (by kernel_rfl) (y_indexAddr hS hA56 rfl rfl rfl Tryd.underlying22 (by kernel_rfl) hc44.1 hc44.2) rfl ?_; intro a_ hS
        refine H_op hS 13 #[true, true, true, true, true, true, true, true, true, true, true, true, true, true, false, false] rfl (by kernel_rfl) (by kernel_rfl) (by kernel_rfl) ?_
        refine wp_storeOwn hS rfl hO4 (t37 : Int) hc44.1 hc44.2 hA56 rfl rfl [.int .i64 (x9.getD (t39 : Int).toNat 0)] rfl (by kernel_rfl) (x9.getD (t39 : Int).toNat 0) ⟨.val _, trivial⟩ (fun _ => ⟨rfl, rfl⟩) rfl hF ?_
        intro w_ hO4' hg57 hF_ a_ hS
        have hB := below_row (v := .slice A4 (([] : List Int) ++ a0).length c4) hB hg57 hB.size hO4.lows
        have hO4 := hO4'
        have hF := hF_
        refine ⟨hF.of_ext hGS.ext, ?_⟩
        obtain ⟨ad58, hA59⟩ := hO4.addr (t39 : Int) hc41.1 hc41.2
        refine H_take hI (by kernel_rfl) (fun _ _ _ _ _ h => h) hS hF 14 (.pointer (some ((ad58 : Addr).add ((t39 : Int).toNat * 1)))) #[true, true, true, true, true, true, true, true, true, true, true, true, true, true, true, false] ([(62, .pointer (some ((ad58 : Addr).add ((t39 : Int).toNat * 1)))), (61, .pointer (some ((ad55 : Addr).add ((t37 : Int).toNat * 1)))), (56, .int .i64 (x9.getD (t39 : Int).toNat 0)), (60, .int .i64 (x9.getD (t37 : Int).toNat 0)), (59, .pointer (some ((ad45 : Addr).add ((t37 : Int).toNat * 1)))), (55, .pointer (some ((ad42 : Addr).add ((t39 : Int).toNat * 1)))), (0, .slice A1 a0.length c1), (1, .slice A2 a1.length c2), (4, .bool false), (5, .slice A4 (([] : List Int) ++ a0).length c4), (6, .int .i64 x8), (49, .slice A4 (([] : List Int) ++ a0).length c4), (50, .int .i64 t37), (51, .slice A4 (([] : List Int) ++ a0).length c4), (52, .int .i64 t39), (53, .slice A4 (([] : List Int) ++ a0).length c4), (54, .int .i64 t39), (57, .slice A4 (([] : List Int) ++ a0).length c4), (58, .int .i64 t37)]) rfl (by kernel_rfl) (by kernel_rfl) (by kernel_rfl) (y_indexAddr hS hA59 rfl rfl rfl Tryd.underlying22 (by kernel_rfl) hc41.1 hc41.2) rfl ?_; intro a_ hS
        refine H_op hS 15 #[true, true, true, true, true, true, true, true, true, true, true, true, true, true, true, true] rfl (by kernel_rfl) (by kernel_rfl) (by kernel_rfl) ?_
        refine wp_storeOwn hS rfl hO4 (t39 : Int) hc41.1 hc41.2 hA59 rfl rfl [.int .i64 (x9.getD (t37 : Int).toNat 0)] rfl (by kernel_rfl) (x9.getD (t37 : Int).toNat 0) ⟨.val _, trivial⟩ (fun _ => ⟨rfl, rfl⟩) rfl hF ?_
        intro w_ hO4' hg60 hF_ a_ hS
        have hB := below_row (v := .slice A4 (([] : List Int) ++ a0).length c4) hB hg60 hB.size hO4.lows
        have hO4 := hO4'
        have hF := hF_
        refine ⟨hF.of_ext hGS.ext, ?_⟩
        refine H_end (by kernel_rfl) ?_
        refine L_region [0, 1, 2] (by kernel_rfl) ?_
        refine L_pure hS [0, 1, 2] [] [0, 1, 4, 5, 6] [(0, .slice A1 a0.length c1), (1, .slice A2 a1.length c2), (4, .bool false), (5, .slice A4 (([] : List Int) ++ a0).length c4), (6, .int .i64 (IntKind.i64.wrap (x8 + 2)))] (by kernel_rfl) (fun a_ hS => ?_)
        refine L_end ?_
        exact ⟨k13, Nat.lt_succ_self _, (IntKind.i64.wrap (x8 + 2)), ((x9.set (t37 : Int).toNat (x9.getD (t39 : Int).toNat 0)).set (t39 : Int).toNat (x9.getD (t37 : Int).toNat 0)), hS.pick (l := [0, 1, 4, 5, 6]) (by kernel_rfl), hB, hF, hO4, H⟩
      · rw [if_neg (nt hb)] at H
        refine wp_exit ?_
        refine x_then ?_
        refine x_then ?_
        refine x_hit ?_
        subst hK12
        try dsimp only at H
        exact ⟨x9, hS.pick (l := [0, 4, 5]) (by kernel_rfl), hB, hF, hO4, H⟩
  clear H
  rintro a_ w_ ⟨x5, hS, hB, hF, hO4, H⟩
  subst hK6
  try dsimp only at H
  refine wp_seq ?_
  refine L_region [0, 1, 2] (by kernel_rfl) ?_
  refine L_pure hS [0] [1, 2] [4, 5, 63] [(4, .bool false), (5, .slice A4 (([] : List Int) ++ a0).length c4), (63, .slice A1 a0.length c1)] (by kernel_rfl) (fun a_ hS => ?_)
  obtain ⟨t61, hq62, H⟩ := bind_elim H
  refine L_op hS (i := 1) rfl (by kernel_rfl) ?_
  refine wp_call hS [.slice A1 a0.length c1] rfl Tryd.func8 (by kernel_rfl) (by kernel_rfl) (by kernel_rfl) (set_Of.calls a0 hF hR1 hq62) ?_
  rintro e_ w_ ⟨rfl, hb⟩
  refine ⟨_, _, rfl, rfl, ?_⟩; intro a_ hS
  have hF := hF.below hb
  have hO4 := (hO4).below hb
  have hB := hB.trans (hb.mono hB.size)
  refine L_pure hS [2] [] [4, 5, 9] [(4, .bool false), (5, .slice A4 (([] : List Int) ++ a0).length c4), (9, .int .u64 t61)] (by kernel_rfl) (fun a_ hS => ?_)
  refine L_end ?_
  refine wp_seq ?_
  refine L_region [0, 1, 2] (by kernel_rfl) ?_
  refine L_pure hS [0] [1, 2] [4, 5, 9, 65] [(4, .bool false), (5, .slice A4 (([] : List Int) ++ a0).length c4), (9, .int .u64 t61), (65, .int .u64 t61)] (by kernel_rfl) (fun a_ hS => ?_)
  obtain ⟨t63, hq64, H⟩ := bind_elim H
  refine L_op hS (i := 1) rfl (by kernel_rfl) ?_
  refine wp_call hS [.int .u64 t61] rfl Tryd.func9 (by kernel_rfl) (by kernel_rfl) (by kernel_rfl) (set_Set_List.calls F t61 hF hT hq64) ?_
  rintro e_ w_ ⟨v_, J65, rfl, hg66, hF_, hr_, hb⟩
  refine ⟨_, _, rfl, rfl, ?_⟩; intro a_ hS
  have hO67 := hr_.lower hB.size
  have hP68 := hO4.apart_of hr_ (Nat.le_refl _)
  have hO4 := (hO4.grow hg66 (Nat.le_refl _)).below hb
  have hT := hT.mono hg66.ext
  have hB := hB.trans (hb.mono hB.size)
  have hF := hF_
  obtain ⟨A67, c67, rfl, hl67, hm67⟩ := hO67.form
  refine L_pure hS [2] [] [4, 5, 9, 10] [(4, .bool false), (5, .slice A4 (([] : List Int) ++ a0).length c4), (9, .int .u64 t61), (10, .slice A67 t63.length c67)] (by kernel_rfl) (fun a_ hS => ?_)
  refine L_end ?_
  refine wp_seq ?_
  refine wp_seq ?_
  refine L_region [0, 1, 2] (by kernel_rfl) ?_
  refine L_pure hS [0, 1, 2] [] [4, 5, 9, 10, 67, 68, 69] [(4, .bool false), (5, .slice A4 (([] : List Int) ++ a0).length c4), (9, .int .u64 t61), (10, .slice A67 t63.length c67), (67, .slice A67 t63.length c67), (68, .int .i64 (t63.length : Int)), (69, .int .i64 0)] (by kernel_rfl) (fun a_ hS => ?_)
  refine L_end ?_
  obtain ⟨K70, hK70, H⟩ := jn_elim H
  try dsimp only at H
  refine c_cut (fun a_ w => ∃ (x69 : Bool), Sat 160 [] [(5, .slice A4 (([] : List Int) ++ a0).length c4), (9, .int .u64 t61), (10, .slice A67 t63.length c67), (4, .bool x69)] a_ ∧ Below W.heap.size W w ∧ Fits J65 w ∧ Own W.heap.size J65 w 3 1 (XI .i64) x5 (.slice A4 (([] : List Int) ++ a0).length c4) ∧ Own W.heap.size J65 w 3 1 (XI .i64) t63 (.slice A67 t63.length c67) ∧ K70 x69 = some r) ?_ ?_
  · skip
    refine wp_block ?_
    obtain ⟨K80, hK80, H⟩ : ∃ K_, K_ = _ ∧ exegetelaw02_SetLists.l1 t61 t63 K_ t63 0 false = some r := ⟨_, rfl, H⟩
    obtain ⟨_, _, _, _, hm78⟩ := hO67.form
    refine c_loop (G := Nat) (fun m_ a_ w => ∃ (j73 : Nat) (x72 : Bool), t63.length - j73 = m_ ∧ Sat 160 [] [(5, .slice A4 (([] : List Int) ++ a0).length c4), (9, .int .u64 t61), (10, .slice A67 t63.length c67), (67, .slice A67 t63.length c67), (68, .int .i64 (t63.length : Int)), (4, .bool x72), (69, .int .i64 (j73 : Int))] a_ ∧ Below W.heap.size W w ∧ Fits J65 w ∧ Own W.heap.size J65 w 3 1 (XI .i64) x5 (.slice A4 (([] : List Int) ++ a0).length c4) ∧ Own W.heap.size J65 w 3 1 (XI .i64) t63 (.slice A67 t63.length c67) ∧ exegetelaw02_SetLists.l1 t61 t63 K80 (t63.drop j73) j73 x72 = some r) (fun m_ => m_) (t63.length - 0) ⟨0, false, rfl, hS.pick (l := [5, 9, 10, 67, 68, 4, 69]) (by kernel_rfl), hB, hF, hO4, hO67, H⟩ ?_
    clear H
    intro m_ a_ w_ hI_
    obtain ⟨j73, x72, rfl, hS, hB, hF, hO4, hO67, H⟩ := hI_
    refine wp_seq ?_
    refine L_region [0] (by kernel_rfl) ?_
    refine L_pure hS [0] [] [5, 9, 10, 67, 68, 4, 69, 70] [(5, .slice A4 (([] : List Int) ++ a0).length c4), (9, .int .u64 t61), (10, .slice A67 t63.length c67), (67, .slice A67 t63.length c67), (68, .int .i64 (t63.length : Int)), (4, .bool x72), (69, .int .i64 (j73 : Int)), (70, .bool (decide ((j73 : Int) < (t63.length : Int))))] (by kernel_rfl) (fun a_ hS => ?_)
    refine L_end ?_
    refine wp_seq ?_
    by_cases hj77 : j73 < t63.length
    · obtain ⟨e74, hx76, hd_⟩ := drop_cons hj77
      rw [hd_, exegetelaw02_SetLists.l1] at H
      clear hd_
      rw [show decide ((j73 : Int) < (t63.length : Int)) = true from decide_eq_true (Int.ofNat_lt.2 hj77)] at hS
      refine c_true hS (c := .tmp 70) rfl ?_
      refine wp_skip ?_
      refine wp_seq ?_
      refine wp_block ?_
      refine wp_seq ?_
      refine L_region [0, 1, 2, 3, 4] (by kernel_rfl) ?_
      refine L_pure hS [0] [1, 2, 3, 4] [5, 9, 10, 67, 68, 4, 69, 71] [(5, .slice A4 (([] : List Int) ++ a0).length c4), (9, .int .u64 t61), (10, .slice A67 t63.length c67), (67, .slice A67 t63.length c67), (68, .int .i64 (t63.length : Int)), (4, .bool x72), (69, .int .i64 (j73 : Int)), (71, .int .i64 (j73 : Int))] (by kernel_rfl) (fun a_ hS => ?_)
      obtain ⟨ad83, hA84⟩ := hO67.addrn hx76
      refine L_yld hS 1 (.pointer (some ((ad83 : Addr).add (j73 * 1)))) rfl (by kernel_rfl) hF (y_indexAddr hS hA84 rfl rfl rfl Tryd.underlying22 (by kernel_rfl) (Int.natCast_nonneg _) (Int.ofNat_lt.2 hj77)) rfl ?_; intro a_ hS
      have hx85 := hO67.getn hA84 hx76
      obtain ⟨u86, hI87, hR88⟩ := hx85 0 _ rfl
      obtain rfl := hR88.val_inv
      rw [add_0] at hI87
      refine L_yld hS 2 (.int .i64 e74) rfl (by kernel_rfl) (Own.addFits hF) (y_load1 hS rfl rfl Tryd.underlying3 rfl hI87) rfl ?_; intro a_ hS
      refine L_pure hS [3, 4] [] [5, 9, 10, 67, 68, 4, 69, 11, 12] [(5, .slice A4 (([] : List Int) ++ a0).length c4), (9, .int .u64 t61), (10, .slice A67 t63.length c67), (67, .slice A67 t63.length c67), (68, .int .i64 (t63.length : Int)), (4, .bool x72), (69, .int .i64 (j73 : Int)), (11, .int .i64 (j73 : Int)), (12, .int .i64 e74)] (by kernel_rfl) (fun a_ hS => ?_)
      refine L_end ?_
      refine wp_seq ?_
      obtain ⟨K90, hK90, H⟩ := jn_elim H
      try dsimp only at H
      refine c_cut (fun a_ w => ∃ (x89 : Bool), Sat 160 [] [(5, .slice A4 (([] : List Int) ++ a0).length c4), (9, .int .u64 t61), (10, .slice A67 t63.length c67), (67, .slice A67 t63.length c67), (68, .int .i64 (t63.length : Int)), (4, .bool x72), (69, .int .i64 (j73 : Int)), (98, .bool x89)] a_ ∧ Below W.heap.size W w ∧ Fits J65 w ∧ Own W.heap.size J65 w 3 1 (XI .i64) x5 (.slice A4 (([] : List Int) ++ a0).length c4) ∧ Own W.heap.size J65 w 3 1 (XI .i64) t63 (.slice A67 t63.length c67) ∧ K90 x89 = some r) ?_ ?_
      · skip
        refine L_region [0, 1, 2, 3, 4, 5, 6, 7, 8, 9, 10, 11, 12, 13, 14, 15, 16, 17, 18, 19, 20, 21, 22, 23, 24] (by kernel_rfl) ?_
        refine L_pure hS [0, 1, 2] [3, 4, 5, 6, 7, 8, 9, 10, 11, 12, 13, 14, 15, 16, 17, 18, 19, 20, 21, 22, 23, 24] [5, 9, 10, 67, 68, 4, 69, 11, 12, 76] [(5, .slice A4 (([] : List Int) ++ a0).length c4), (9, .int .u64 t61), (10, .slice A67 t63.length c67), (67, .slice A67 t63.length c67), (68, .int .i64 (t63.length : Int)), (4, .bool x72), (69, .int .i64 (j73 : Int)), (11, .int .i64 (j73 : Int)), (12, .int .i64 e74), (76, .bool (decide (e74 < 0)))] (by kernel_rfl) (fun a_ hS => ?_)
        rcases Bool.eq_false_or_eq_true (decide (e74 < 0)) with hb | hb
        · rw [hb] at hS; rw [if_pos hb] at H
          refine L_pure hS [3, 4, 5, 6, 7, 8, 9, 10, 11, 12, 13, 14, 15, 16, 17, 18, 19, 20, 21, 22, 23, 24] [] [5, 9, 10, 67, 68, 4, 69, 98] [(5, .slice A4 (([] : List Int) ++ a0).length c4), (9, .int .u64 t61), (10, .slice A67 t63.length c67), (67, .slice A67 t63.length c67), (68, .int .i64 (t63.length : Int)), (4, .bool x72), (69, .int .i64 (j73 : Int)), (98, .bool true)] (by kernel_rfl) (fun a_ hS => ?_)
          refine L_end ?_
          exact ⟨true, hS.pick (l := [5, 9, 10, 67, 68, 4, 69, 98]) (by kernel_rfl), hB, hF, hO4, hO67, H⟩
        · rw [hb] at hS; rw [if_neg (nt hb)] at H
          refine L_pure hS [3, 4, 5, 6] [7, 8, 9, 10, 11, 12, 13, 14, 15, 16, 17, 18, 19, 20, 21, 22, 23, 24] [5, 9, 10, 67, 68, 4, 69, 11, 12, 80] [(5, .slice A4 (([] : List Int) ++ a0).length c4), (9, .int .u64 t61), (10, .slice A67 t63.length c67), (67, .slice A67 t63.length c67), (68, .int .i64 (t63.length : Int)), (4, .bool x72), (69, .int .i64 (j73 : Int)), (11, .int .i64 (j73 : Int)), (12, .int .i64 e74), (80, .bool (decide (e74 > 63)))] (by kernel_rfl) (fun a_ hS => ?_)
          rcases Bool.eq_false_or_eq_true (decide (e74 > 63)) with hb | hb
          · rw [hb] at hS; rw [if_pos hb] at H
            refine L_pure hS [7, 8, 9, 10, 11, 12, 13, 14, 15, 16, 17, 18, 19, 20, 21, 22, 23, 24] [] [5, 9, 10, 67, 68, 4, 69, 98] [(5, .slice A4 (([] : List Int) ++ a0).length c4), (9, .int .u64 t61), (10, .slice A67 t63.length c67), (67, .slice A67 t63.length c67), (68, .int .i64 (t63.length : Int)), (4, .bool x72), (69, .int .i64 (j73 : Int)), (98, .bool true)] (by kernel_rfl) (fun a_ hS => ?_)
            refine L_end ?_
            exact ⟨true, hS.pick (l := [5, 9, 10, 67, 68, 4, 69, 98]) (by kernel_rfl), hB, hF, hO4, hO67, H⟩
          · rw [hb] at hS; rw [if_neg (nt hb)] at H
            refine L_pure hS [7, 8, 9] [10, 11, 12, 13, 14, 15, 16, 17, 18, 19, 20, 21, 22, 23, 24] [5, 9, 10, 67, 68, 4, 69, 11, 12, 80, 83] [(5, .slice A4 (([] : List Int) ++ a0).length c4), (9, .int .u64 t61), (10, .slice A67 t63.length c67), (67, .slice A67 t63.length c67), (68, .int .i64 (t63.length : Int)), (4, .bool x72), (69, .int .i64 (j73 : Int)), (11, .int .i64 (j73 : Int)), (12, .int .i64 e74), (80, .bool false), (83, .bool (decide ((j73 : Int) > 0)))] (by kernel_rfl) (fun a_ hS => ?_)
            rcases Bool.eq_false_or_eq_true (decide ((j73 : Int) > 0)) with hb | hb
            · rw [hb] at hS; rw [if_pos hb] at H
              refine L_pure hS [10, 11, 12] [13, 14, 15, 16, 17, 18, 19, 20, 21, 22, 23, 24] [5, 9, 10, 67, 68, 4, 69, 12, 80, 83, 84, 86] [(5, .slice A4 (([] : List Int) ++ a0).length c4), (9, .int .u64 t61), (10, .slice A67 t63.length c67), (67, .slice A67 t63.length c67), (68, .int .i64 (t63.length : Int)), (4, .bool x72), (69, .int .i64 (j73 : Int)), (12, .int .i64 e74), (80, .bool false), (83, .bool true), (84, .slice A67 t63.length c67), (86, .int .i64 (IntKind.i64.wrap ((j73 : Int) - 1)))] (by kernel_rfl) (fun a_ hS => ?_)
              obtain ⟨hc92, H⟩ := chk_elim H
              obtain ⟨ad93, hA94⟩ := hO67.addr (IntKind.i64.wrap ((j73 : Int) - 1) : Int) hc92.1 hc92.2
              refine L_yld hS 13 (.pointer (some ((ad93 : Addr).add ((IntKind.i64.wrap ((j73 : Int) - 1) : Int).toNat * 1)))) rfl (by kernel_rfl) hF (y_indexAddr hS hA94 rfl rfl rfl Tryd.underlying22 (by kernel_rfl) hc92.1 hc92.2) rfl ?_; intro a_ hS
              have hx95 := hO67.get hA94 (0 : Int) (IntKind.i64.wrap ((j73 : Int) - 1) : Int) hc92.1 hc92.2
              obtain ⟨u96, hI97, hR98⟩ := hx95 0 _ rfl
              obtain rfl := hR98.val_inv
              rw [add_0] at hI97
              refine L_yld hS 14 (.int .i64 (t63.getD (IntKind.i64.wrap ((j73 : Int) - 1) : Int).toNat 0)) rfl (by kernel_rfl) (Own.addFits hF) (y_load1 hS rfl rfl Tryd.underlying3 rfl hI97) rfl ?_; intro a_ hS
              refine L_pure hS [15, 16, 17, 18, 19] [20, 21, 22, 23, 24] [5, 9, 10, 67, 68, 4, 69, 12, 93] [(5, .slice A4 (([] : List Int) ++ a0).length c4), (9, .int .u64 t61), (10, .slice A67 t63.length c67), (67, .slice A67 t63.length c67), (68, .int .i64 (t63.length : Int)), (4, .bool x72), (69, .int .i64 (j73 : Int)), (12, .int .i64 e74), (93, .bool (decide ((t63.getD (IntKind.i64.wrap ((j73 : Int) - 1) : Int).toNat 0) ≥ e74)))] (by kernel_rfl) (fun a_ hS => ?_)
              rcases Bool.eq_false_or_eq_true (decide ((t63.getD (IntKind.i64.wrap ((j73 : Int) - 1) : Int).toNat 0) ≥ e74)) with hb | hb
              · rw [hb] at hS; rw [if_pos hb] at H
                refine L_pure hS [20, 21, 22, 23, 24] [] [5, 9, 10, 67, 68, 4, 69, 98] [(5, .slice A4 (([] : List Int) ++ a0).length c4), (9, .int .u64 t61), (10, .slice A67 t63.length c67), (67, .slice A67 t63.length c67), (68, .int .i64 (t63.length : Int)), (4, .bool x72), (69, .int .i64 (j73 : Int)), (98, .bool true)] (by kernel_rfl) (fun a_ hS => ?_)
                refine L_end ?_
                exact ⟨true, hS.pick (l := [5, 9, 10, 67, 68, 4, 69, 98]) (by kernel_rfl), hB, hF, hO4, hO67, H⟩
              · rw [hb] at hS; rw [if_neg (nt hb)] at H
                refine L_pure hS [20, 21] [22, 23, 24] [5, 9, 10, 67, 68, 4, 69, 93, 94, 95] [(5, .slice A4 (([] : List Int) ++ a0).length c4), (9, .int .u64 t61), (10, .slice A67 t63.length c67), (67, .slice A67 t63.length c67), (68, .int .i64 (t63.length : Int)), (4, .bool x72), (69, .int .i64 (j73 : Int)), (93, .bool false), (94, .int .u64 t61), (95, .int .i64 e74)] (by kernel_rfl) (fun a_ hS => ?_)
                obtain ⟨t99, hq100, H⟩ := bind_elim H
                refine L_op hS (i := 22) rfl (by kernel_rfl) ?_
                refine wp_call hS [.int .u64 t61, .int .i64 e74] rfl Tryd.func10 (by kernel_rfl) (by kernel_rfl) (by kernel_rfl) (set_Set_Has.calls t61 e74 hF hq100) ?_
                rintro e_ w_ ⟨rfl, hb⟩
                refine ⟨_, _, rfl, rfl, ?_⟩; intro a_ hS
                have hF := hF.below hb
                have hO4 := (hO4).below hb
                have hO67 := (hO67).below hb
                have hB := hB.trans (hb.mono hB.size)
                refine L_pure hS [23, 24] [] [5, 9, 10, 67, 68, 4, 69, 98] [(5, .slice A4 (([] : List Int) ++ a0).length c4), (9, .int .u64 t61), (10, .slice A67 t63.length c67), (67, .slice A67 t63.length c67), (68, .int .i64 (t63.length : Int)), (4, .bool x72), (69, .int .i64 (j73 : Int)), (98, .bool (!t99))] (by kernel_rfl) (fun a_ hS => ?_)
                refine L_end ?_
                exact ⟨(!t99), hS.pick (l := [5, 9, 10, 67, 68, 4, 69, 98]) (by kernel_rfl), hB, hF, hO4, hO67, H⟩
            · rw [hb] at hS; rw [if_neg (nt hb)] at H
              refine L_pure hS [10, 11, 12, 13, 14, 15, 16, 17, 18, 19, 20, 21] [22, 23, 24] [5, 9, 10, 67, 68, 4, 69, 93, 94, 95] [(5, .slice A4 (([] : List Int) ++ a0).length c4), (9, .int .u64 t61), (10, .slice A67 t63.length c67), (67, .slice A67 t63.length c67), (68, .int .i64 (t63.length : Int)), (4, .bool x72), (69, .int .i64 (j73 : Int)), (93, .bool false), (94, .int .u64 t61), (95, .int .i64 e74)] (by kernel_rfl) (fun a_ hS => ?_)
              obtain ⟨t101, hq102, H⟩ := bind_elim H
              refine L_op hS (i := 22) rfl (by kernel_rfl) ?_
              refine wp_call hS [.int .u64 t61, .int .i64 e74] rfl Tryd.func10 (by kernel_rfl) (by kernel_rfl) (by kernel_rfl) (set_Set_Has.calls t61 e74 hF hq102) ?_
              rintro e_ w_ ⟨rfl, hb⟩
              refine ⟨_, _, rfl, rfl, ?_⟩; intro a_ hS
              have hF := hF.below hb
              have hO4 := (hO4).below hb
              have hO67 := (hO67).below hb
              have hB := hB.trans (hb.mono hB.size)
              refine L_pure hS [23, 24] [] [5, 9, 10, 67, 68, 4, 69, 98] [(5, .slice A4 (([] : List Int) ++ a0).length c4), (9, .int .u64 t61), (10, .slice A67 t63.length c67), (67, .slice A67 t63.length c67), (68, .int .i64 (t63.length : Int)), (4, .bool x72), (69, .int .i64 (j73 : Int)), (98, .bool (!t101))] (by kernel_rfl) (fun a_ hS => ?_)
              refine L_end ?_
              exact ⟨(!t101), hS.pick (l := [5, 9, 10, 67, 68, 4, 69, 98]) (by kernel_rfl), hB, hF, hO4, hO67, H⟩
      clear H
      rintro a_ w_ ⟨x89, hS, hB, hF, hO4, hO67, H⟩
      subst hK90
      try dsimp only at H
      refine c_cond hS (c := .tmp 98) rfl (fun hb => ?_) (fun hb => ?_)
      · rw [if_pos hb] at H
        refine wp_seq ?_
        refine L_region [0] (by kernel_rfl) ?_
        refine L_pure hS [0] [] [5, 9, 10, 67, 68, 4, 69] [(5, .slice A4 (([] : List Int) ++ a0).length c4), (9, .int .u64 t61), (10, .slice A67 t63.length c67), (67, .slice A67 t63.length c67), (68, .int .i64 (t63.length : Int)), (4, .bool false), (69, .int .i64 (j73 : Int))] (by kernel_rfl) (fun a_ hS => ?_)
        refine L_end ?_
        refine wp_ret ?_
        obtain rfl := Option.some.inj H
        refine bodyPost_ret (results_tmp rfl _ _ _) hS.defers ?_
        rw [hS.getD (t := 4) rfl]
        exact ⟨rfl, hB⟩
      · rw [if_neg (nt hb)] at H
        refine wp_skip ?_
        refine L_region [0, 1] (by kernel_rfl) ?_
        refine L_pure hS [0, 1] [] [5, 9, 10, 67, 68, 4, 69] [(5, .slice A4 (([] : List Int) ++ a0).length c4), (9, .int .u64 t61), (10, .slice A67 t63.length c67), (67, .slice A67 t63.length c67), (68, .int .i64 (t63.length : Int)), (4, .bool x72), (69, .int .i64 (IntKind.i64.wrap ((j73 : Int) + 1)))] (by kernel_rfl) (fun a_ hS => ?_)
        refine L_end ?_
        rw [wrap_succ hj77 hm78] at hS
        exact ⟨t63.length - (j73 + 1), by omega, j73 + 1, x72, rfl, hS.pick (l := [5, 9, 10, 67, 68, 4, 69]) (by kernel_rfl), hB, hF, hO4, hO67, H⟩
    · rw [drop_all hj77, exegetelaw02_SetLists.l1] at H
      rw [show decide ((j73 : Int) < (t63.length : Int)) = false from decide_eq_false (fun h_ => hj77 (Int.ofNat_lt.1 h_))] at hS
      refine c_false hS (c := .tmp 70) rfl ?_
      refine wp_exit ?_
      refine x_then ?_
      refine x_then ?_
      refine x_hit ?_
      subst hK80
      try dsimp only at H
      exact ⟨x72, hS.pick (l := [5, 9, 10, 4]) (by kernel_rfl), hB, hF, hO4, hO67, H⟩
  clear H
  rintro a_ w_ ⟨x69, hS, hB, hF, hO4, hO67, H⟩
  subst hK70
  try dsimp only at H
  refine wp_seq ?_
  refine wp_seq ?_
  refine L_region [0, 1, 2] (by kernel_rfl) ?_
  refine L_pure hS [0, 1, 2] [] [5, 9, 10, 4, 101, 102] [(5, .slice A4 (([] : List Int) ++ a0).length c4), (9, .int .u64 t61), (10, .slice A67 t63.length c67), (4, .bool x69), (101, .int .i64 (t63.length : Int)), (102, .int .i64 0)] (by kernel_rfl) (fun a_ hS => ?_)
  refine L_end ?_
  obtain ⟨K103, hK103, H⟩ := jn_elim H
  try dsimp only at H
  refine c_cut (fun a_ w => Sat 160 [] [(5, .slice A4 (([] : List Int) ++ a0).length c4), (9, .int .u64 t61), (4, .bool x69)] a_ ∧ Below W.heap.size W w ∧ Fits J65 w ∧ Own W.heap.size J65 w 3 1 (XI .i64) x5 (.slice A4 (([] : List Int) ++ a0).length c4) ∧ K103 = some r) ?_ ?_
  · skip
    refine wp_block ?_
    obtain ⟨K109, hK109, H⟩ : ∃ K_, K_ = _ ∧ exegetelaw02_SetLists.l2 t63 K_ F 0 t63 = some r := ⟨_, rfl, H⟩
    refine c_loop (G := Nat) (fun m_ a_ w => ∃ (x105 : Int) (x106 : List Int), Sat 160 [] [(5, .slice A4 (([] : List Int) ++ a0).length c4), (9, .int .u64 t61), (10, .slice A67 t63.length c67), (4, .bool x69), (101, .int .i64 (t63.length : Int)), (102, .int .i64 x105)] a_ ∧ Below W.heap.size W w ∧ Fits J65 w ∧ Own W.heap.size J65 w 3 1 (XI .i64) x106 (.slice A67 t63.length c67) ∧ Own W.heap.size J65 w 3 1 (XI .i64) x5 (.slice A4 (([] : List Int) ++ a0).length c4) ∧ exegetelaw02_SetLists.l2 t63 K109 m_ x105 x106 = some r) (fun m_ => m_) F ⟨0, t63, hS.pick (l := [5, 9, 10, 4, 101, 102]) (by kernel_rfl), hB, hF, hO67, hO4, H⟩ ?_
    clear H
    intro m_ a_ w_ hI_
    obtain ⟨x105, x106, hS, hB, hF, hO67, hO4, H⟩ := hI_
    cases m_ with
    | zero => exact absurd H (by simp [exegetelaw02_SetLists.l2])
    | succ k110 =>
      rw [exegetelaw02_SetLists.l2] at H
      refine wp_seq ?_
      refine L_region [0] (by kernel_rfl) ?_
      refine L_pure hS [0] [] [5, 9, 10, 4, 101, 102, 103] [(5, .slice A4 (([] : List Int) ++ a0).length c4), (9, .int .u64 t61), (10, .slice A67 t63.length c67), (4, .bool x69), (101, .int .i64 (t63.length : Int)), (102, .int .i64 x105), (103, .bool (decide (x105 < (t63.length : Int))))] (by kernel_rfl) (fun a_ hS => ?_)
      refine L_end ?_
      refine wp_seq ?_
      refine c_cond hS (c := .tmp 103) rfl (fun hb => ?_) (fun hb => ?_)
      · rw [if_pos hb] at H
        refine wp_skip ?_
        refine wp_seq ?_
        refine wp_block ?_
        refine wp_seq ?_
        refine L_region [0, 1] (by kernel_rfl) ?_
        refine L_pure hS [0, 1] [] [5, 9, 10, 4, 101, 102, 13] [(5, .slice A4 (([] : List Int) ++ a0).length c4), (9, .int .u64 t61), (10, .slice A67 t63.length c67), (4, .bool x69), (101, .int .i64 (t63.length : Int)), (102, .int .i64 x105), (13, .int .i64 x105)] (by kernel_rfl) (fun a_ hS => ?_)
        refine L_end ?_
        refine L_region [0, 1, 2, 3] (by kernel_rfl) ?_
        refine L_pure hS [0, 1] [2, 3] [5, 9, 10, 4, 101, 102, 105, 106] [(5, .slice A4 (([] : List Int) ++ a0).length c4), (9, .int .u64 t61), (10, .slice A67 t63.length c67), (4, .bool x69), (101, .int .i64 (t63.length : Int)), (102, .int .i64 x105), (105, .slice A67 t63.length c67), (106, .int .i64 x105)] (by kernel_rfl) (fun a_ hS => ?_)
        obtain ⟨hc113, H⟩ := chk_elim H
        obtain ⟨ad114, hA115⟩ := hO67.addr (x105 : Int) hc113.1 hc113.2
        refine L_yld hS 2 (.pointer (some ((ad114 : Addr).add ((x105 : Int).toNat * 1)))) rfl (by kernel_rfl) hF (y_indexAddr hS hA115 rfl rfl rfl Tryd.underlying22 (by kernel_rfl) hc113.1 hc113.2) rfl ?_; intro a_ hS
        refine L_op hS (i := 3) rfl (by kernel_rfl) ?_
        refine wp_storeOwn hS rfl hO67 (x105 : Int) hc113.1 hc113.2 hA115 rfl rfl [.int .i64 99] rfl (by kernel_rfl) 99 ⟨.val _, trivial⟩ (fun _ => ⟨rfl, rfl⟩) rfl hF ?_
        intro w_ hO67' hg116 hF_ a_ hS
        have hO4 := hO4.other hg116 (Apart.row hP68.symm)
        have hB := below_row (v := .slice A67 t63.length c67) hB hg116 hB.size hO67.lows
        have hO67 := hO67'
        have hF := hF_
        refine L_end ?_
        refine L_region [0, 1] (by kernel_rfl) ?_
        refine L_pure hS [0, 1] [] [5, 9, 10, 4, 101, 102] [(5, .slice A4 (([] : List Int) ++ a0).length c4), (9, .int .u64 t61), (10, .slice A67 t63.length c67), (4, .bool x69), (101, .int .i64 (t63.length : Int)), (102, .int .i64 (IntKind.i64.wrap (x105 + 1)))] (by kernel_rfl) (fun a_ hS => ?_)
        refine L_end ?_
        exact ⟨k110, Nat.lt_succ_self _, (IntKind.i64.wrap (x105 + 1)), (x106.set (x105 : Int).toNat 99), hS.pick (l := [5, 9, 10, 4, 101, 102]) (by kernel_rfl), hB, hF, hO67, hO4, H⟩
      · rw [if_neg (nt hb)] at H
        refine wp_exit ?_
        refine x_then ?_
        refine x_then ?_
        refine x_hit ?_
        subst hK109
        try dsimp only at H
        exact ⟨hS.pick (l := [5, 9, 4]) (by kernel_rfl), hB, hF, hO4, H⟩
  clear H
  rintro a_ w_ ⟨hS, hB, hF, hO4, H⟩
  subst hK103
  try dsimp only at H
  refine wp_seq ?_
  refine L_region [0, 1] (by kernel_rfl) ?_
  obtain ⟨t117, hq118, H⟩ := bind_elim H
  refine L_op hS (i := 0) rfl (by kernel_rfl) ?_
  refine wp_call hS [.slice none 0 0] rfl Tryd.func8 (by kernel_rfl) (by kernel_rfl) (by kernel_rfl) (set_Of.calls ([] : List Int) hF (.nil _ _) hq118) ?_
  rintro e_ w_ ⟨rfl, hb⟩
  refine ⟨_, _, rfl, rfl, ?_⟩; intro a_ hS
  have hF := hF.below hb
  have hO4 := (hO4).below hb
  have hB := hB.trans (hb.mono hB.size)
  refine L_pure hS [1] [] [5, 9, 4, 14] [(5, .slice A4 (([] : List Int) ++ a0).length c4), (9, .int .u64 t61), (4, .bool x69), (14, .int .u64 t117)] (by kernel_rfl) (fun a_ hS => ?_)
  refine L_end ?_
  refine wp_seq ?_
  refine wp_seq ?_
  refine L_region [0] (by kernel_rfl) ?_
  refine L_pure hS [0] [] [5, 9, 4, 14, 15] [(5, .slice A4 (([] : List Int) ++ a0).length c4), (9, .int .u64 t61), (4, .bool x69), (14, .int .u64 t117), (15, .int .i64 0)] (by kernel_rfl) (fun a_ hS => ?_)
  refine L_end ?_
  obtain ⟨K120, hK120, H⟩ := jn_elim H
  try dsimp only at H
  refine c_cut (fun a_ w => ∃ (x119 : Int), Sat 160 [] [(5, .slice A4 (([] : List Int) ++ a0).length c4), (9, .int .u64 t61), (4, .bool x69), (14, .int .u64 x119)] a_ ∧ Below W.heap.size W w ∧ Fits J65 w ∧ Own W.heap.size J65 w 3 1 (XI .i64) x5 (.slice A4 (([] : List Int) ++ a0).length c4) ∧ K120 x119 = some r) ?_ ?_
  · skip
    refine wp_block ?_
    obtain ⟨K126, hK126, H⟩ : ∃ K_, K_ = _ ∧ exegetelaw02_SetLists.l3 K_ F t117 0 = some r := ⟨_, rfl, H⟩
    refine c_loop (G := Nat) (fun m_ a_ w => ∃ (x122 : Int) (x123 : Int), Sat 160 [] [(5, .slice A4 (([] : List Int) ++ a0).length c4), (9, .int .u64 t61), (4, .bool x69), (14, .int .u64 x122), (15, .int .i64 x123)] a_ ∧ Below W.heap.size W w ∧ Fits J65 w ∧ Own W.heap.size J65 w 3 1 (XI .i64) x5 (.slice A4 (([] : List Int) ++ a0).length c4) ∧ exegetelaw02_SetLists.l3 K126 m_ x122 x123 = some r) (fun m_ => m_) F ⟨t117, 0, hS.pick (l := [5, 9, 4, 14, 15]) (by kernel_rfl), hB, hF, hO4, H⟩ ?_
    clear H
    intro m_ a_ w_ hI_
    obtain ⟨x122, x123, hS, hB, hF, hO4, H⟩ := hI_
    cases m_ with
    | zero => exact absurd H (by simp [exegetelaw02_SetLists.l3])
    | succ k127 =>
      rw [exegetelaw02_SetLists.l3] at H
      refine wp_seq ?_
      refine wp_seq ?_
      refine L_region [0, 1] (by kernel_rfl) ?_
      refine L_pure hS [0, 1] [] [5, 9, 4, 14, 15, 111] [(5, .slice A4 (([] : List Int) ++ a0).length c4), (9, .int .u64 t61), (4, .bool x69), (14, .int .u64 x122), (15, .int .i64 x123), (111, .bool (decide (x123 < 64)))] (by kernel_rfl) (fun a_ hS => ?_)
      refine L_end ?_
      refine c_cond hS (c := .tmp 111) rfl (fun hb => ?_) (fun hb => ?_)
      · rw [if_pos hb] at H
        refine wp_skip ?_
        refine wp_seq ?_
        refine wp_block ?_
        refine L_region [0, 1, 2, 3] (by kernel_rfl) ?_
        refine L_pure hS [0, 1] [2, 3] [5, 9, 4, 14, 15, 114, 115] [(5, .slice A4 (([] : List Int) ++ a0).length c4), (9, .int .u64 t61), (4, .bool x69), (14, .int .u64 x122), (15, .int .i64 x123), (114, .int .u64 x122), (115, .int .i64 x123)] (by kernel_rfl) (fun a_ hS => ?_)
        obtain ⟨t130, hq131, H⟩ := bind_elim H
        refine L_op hS (i := 2) rfl (by kernel_rfl) ?_
        refine wp_call hS [.int .u64 x122, .int .i64 x123] rfl Tryd.func11 (by kernel_rfl) (by kernel_rfl) (by kernel_rfl) (set_Set_With.calls x122 x123 hF hq131) ?_
        rintro e_ w_ ⟨rfl, hb⟩
        refine ⟨_, _, rfl, rfl, ?_⟩; intro a_ hS
        have hF := hF.below hb
        have hO4 := (hO4).below hb
        have hB := hB.trans (hb.mono hB.size)
        refine L_pure hS [3] [] [5, 9, 4, 14, 15] [(5, .slice A4 (([] : List Int) ++ a0).length c4), (9, .int .u64 t61), (4, .bool x69), (14, .int .u64 t130), (15, .int .i64 x123)] (by kernel_rfl) (fun a_ hS => ?_)
        refine L_end ?_
        refine L_region [0, 1, 2] (by kernel_rfl) ?_
        refine L_pure hS [0, 1, 2] [] [5, 9, 4, 14, 15] [(5, .slice A4 (([] : List Int) ++ a0).length c4), (9, .int .u64 t61), (4, .bool x69), (14, .int .u64 t130), (15, .int .i64 (IntKind.i64.wrap (x123 + 1)))] (by kernel_rfl) (fun a_ hS => ?_)
        refine L_end ?_
        exact ⟨k127, Nat.lt_succ_self _, t130, (IntKind.i64.wrap (x123 + 1)), hS.pick (l := [5, 9, 4, 14, 15]) (by kernel_rfl), hB, hF, hO4, H⟩
      · rw [if_neg (nt hb)] at H
        refine wp_exit ?_
        refine x_then ?_
        refine x_then ?_
        refine x_hit ?_
        subst hK126
        try dsimp only at H
        exact ⟨x122, hS.pick (l := [5, 9, 4, 14]) (by kernel_rfl), hB, hF, hO4, H⟩
  clear H
  rintro a_ w_ ⟨x119, hS, hB, hF, hO4, H⟩
  subst hK120
  try dsimp only at H
  refine wp_seq ?_
  refine L_region [0, 1, 2, 3, 4, 5, 6, 7, 8, 9, 10, 11, 12, 13, 14, 15, 16, 17, 18, 19, 20, 21, 22, 23, 24, 25, 26, 27, 28, 29, 30, 31, 32, 33, 34, 35, 36, 37, 38, 39, 40, 41, 42, 43] (by kernel_rfl) ?_
  refine L_pure hS [0] [1, 2, 3, 4, 5, 6, 7, 8, 9, 10, 11, 12, 13, 14, 15, 16, 17, 18, 19, 20, 21, 22, 23, 24, 25, 26, 27, 28, 29, 30, 31, 32, 33, 34, 35, 36, 37, 38, 39, 40, 41, 42, 43] [5, 9, 4, 14, 117] [(5, .slice A4 (([] : List Int) ++ a0).length c4), (9, .int .u64 t61), (4, .bool x69), (14, .int .u64 x119), (117, .slice A4 (([] : List Int) ++ a0).length c4)] (by kernel_rfl) (fun a_ hS => ?_)
  obtain ⟨t133, hq134, H⟩ := bind_elim H
  refine L_op hS (i := 1) rfl (by kernel_rfl) ?_
  refine wp_call hS [.slice A4 (([] : List Int) ++ a0).length c4] rfl Tryd.func8 (by kernel_rfl) (by kernel_rfl) (by kernel_rfl) (set_Of.calls x5 (Own.addFits hF) hO4.rep hq134) ?_
  rintro e_ w_ ⟨rfl, hb⟩
  refine ⟨_, _, rfl, rfl, ?_⟩; intro a_ hS
  have hF := hF.below hb
  have hO4 := (hO4).below hb
  have hB := hB.trans (hb.mono hB.size)
  refine L_pure hS [2, 3, 4] [5, 6, 7, 8, 9, 10, 11, 12, 13, 14, 15, 16, 17, 18, 19, 20, 21, 22, 23, 24, 25, 26, 27, 28, 29, 30, 31, 32, 33, 34, 35, 36, 37, 38, 39, 40, 41, 42, 43] [5, 9, 4, 14, 121] [(5, .slice A4 (([] : List Int) ++ a0).length c4), (9, .int .u64 t61), (4, .bool x69), (14, .int .u64 x119), (121, .bool (t133 == t61))] (by kernel_rfl) (fun a_ hS => ?_)
  rcases Bool.eq_false_or_eq_true (t133 == t61) with hb | hb
  · rw [hb] at hS; rw [if_pos hb] at H
    refine L_pure hS [5] [6, 7, 8, 9, 10, 11, 12, 13, 14, 15, 16, 17, 18, 19, 20, 21, 22, 23, 24, 25, 26, 27, 28, 29, 30, 31, 32, 33, 34, 35, 36, 37, 38, 39, 40, 41, 42, 43] [9, 4, 14, 121, 122] [(9, .int .u64 t61), (4, .bool x69), (14, .int .u64 x119), (121, .bool true), (122, .slice A4 (([] : List Int) ++ a0).length c4)] (by kernel_rfl) (fun a_ hS => ?_)
    refine L_op hS (i := 6) rfl (by kernel_rfl) ?_
    refine wp_lit (base := W.heap.size) (f := (XI .i64)) hS rfl [(0, .int .i64 64), (1, .int .i64 (-1)), (2, .int .i64 1099511627776)] (by kernel_rfl) (.int .i64 0) Tryd.underlying22 (by kernel_rfl) rfl rfl #[.int .i64 64, .int .i64 (-1), .int .i64 1099511627776] (by kernel_rfl) rfl rfl (fun _ => ⟨rfl, rfl⟩) hF hB.size ([64, (-1), 1099511627776] : List Int) rfl ⟨.val _, .val _, .val _, trivial⟩ (Nat.le_of_ble_eq_true rfl) ?_
    intro b135 w_ hO135 hbn_ hb a_ hS
    have hP136 : Apart (.slice A4 (([] : List Int) ++ a0).length c4) (.slice (some ⟨b135, 0, none⟩) (([64, (-1), 1099511627776] : List Int)).length 3) := hO4.apart_new hbn_
    have hF := hF.below hb
    have hO4 := (hO4).below hb
    have hB := hB.trans (hb.mono hB.size)
    obtain ⟨hc137, H⟩ := chk_elim H
    refine L_op hS (i := 7) rfl (by kernel_rfl) ?_
    refine wp_app hS (.tmp 122) (.tmp 123) 22 rfl 8 (.int .i64 0) Tryd.underlying22 (by kernel_rfl) rfl (by decide) rfl hO4 ([64, (-1), 1099511627776] : List Int) rfl (Src.own (fun _ => ⟨rfl, rfl⟩) hO135) hF (lim_bytes (by decide) hc137) (lim_63 (by decide) hc137) hB.size rfl rfl ?_
    intro v_ w_ hO138 hg138 hk138 hF_ a_ hS
    obtain ⟨A138, c138, rfl, hl138, hm138⟩ := hO138.form
    have hP139 := Apart.after (u := .slice (some ⟨b135, 0, none⟩) (([64, (-1), 1099511627776] : List Int)).length 3) hP136 hk138 hO135.sizes
    have hO135 := hO135.other hg138 (Apart.row hP136)
    have hB := below_row hB hg138 hB.size (fun g hg => (hO4.lt g hg).1)
    have hF := hF_
    obtain ⟨t141, hq142, H⟩ := bind_elim H
    refine L_op hS (i := 8) rfl (by kernel_rfl) ?_
    refine wp_call hS [.slice A138 (x5 ++ ([64, (-1), 1099511627776] : List Int)).length c138] rfl Tryd.func8 (by kernel_rfl) (by kernel_rfl) (by kernel_rfl) (set_Of.calls (x5 ++ ([64, (-1), 1099511627776] : List Int)) (Own.addFits hF) hO138.rep hq142) ?_
    rintro e_ w_ ⟨rfl, hb⟩
    refine ⟨_, _, rfl, rfl, ?_⟩; intro a_ hS
    have hF := hF.below hb
    have hO138 := (hO138).below hb
    have hO135 := (hO135).below hb
    have hB := hB.trans (hb.mono hB.size)
    refine L_pure hS [9, 10, 11, 12] [13, 14, 15, 16, 17, 18, 19, 20, 21, 22, 23, 24, 25, 26, 27, 28, 29, 30, 31, 32, 33, 34, 35, 36, 37, 38, 39, 40, 41, 42, 43] [9, 4, 14, 129] [(9, .int .u64 t61), (4, .bool x69), (14, .int .u64 x119), (129, .bool (t141 == t61))] (by kernel_rfl) (fun a_ hS => ?_)
    rcases Bool.eq_false_or_eq_true (t141 == t61) with hb | hb
    · rw [hb] at hS; rw [if_pos hb] at H
      refine L_pure hS [13] [14, 15, 16, 17, 18, 19, 20, 21, 22, 23, 24, 25, 26, 27, 28, 29, 30, 31, 32, 33, 34, 35, 36, 37, 38, 39, 40, 41, 42, 43] [9, 4, 14, 129, 130] [(9, .int .u64 t61), (4, .bool x69), (14, .int .u64 x119), (129, .bool true), (130, .int .u64 t61)] (by kernel_rfl) (fun a_ hS => ?_)
      obtain ⟨t143, hq144, H⟩ := bind_elim H
      refine L_op hS (i := 14) rfl (by kernel_rfl) ?_
      refine wp_call hS [.int .u64 t61] rfl Tryd.func9 (by kernel_rfl) (by kernel_rfl) (by kernel_rfl) (set_Set_List.calls F t61 hF hT hq144) ?_
      rintro e_ w_ ⟨v_, J145, rfl, hg146, hF_, hr_, hb⟩
      refine ⟨_, _, rfl, rfl, ?_⟩; intro a_ hS
      have hO147 := hr_.lower hB.size
      have hT := hT.mono hg146.ext
      have hB := hB.trans (hb.mono hB.size)
      have hF := hF_
      obtain ⟨A147, c147, rfl, hl147, hm147⟩ := hO147.form
      refine L_pure hS [15, 16] [17, 18, 19, 20, 21, 22, 23, 24, 25, 26, 27, 28, 29, 30, 31, 32, 33, 34, 35, 36, 37, 38, 39, 40, 41, 42, 43] [9, 4, 14, 129, 132, 133] [(9, .int .u64 t61), (4, .bool x69), (14, .int .u64 x119), (129, .bool true), (132, .int .i64 (t143.length : Int)), (133, .int .u64 t61)] (by kernel_rfl) (fun a_ hS => ?_)
      obtain ⟨t148, hq149, H⟩ := bind_elim H
      refine L_op hS (i := 17) rfl (by kernel_rfl) ?_
      refine wp_call hS [.int .u64 t61] rfl Tryd.func12 (by kernel_rfl) (by kernel_rfl) (by kernel_rfl) (set_Set_Count.calls t61 hF hq149) ?_
      rintro e_ w_ ⟨rfl, hb⟩
      refine ⟨_, _, rfl, rfl, ?_⟩; intro a_ hS
      have hF := hF.below hb
      have hB := hB.trans (hb.mono hB.size)
      refine L_pure hS [18, 19, 20] [21, 22, 23, 24, 25, 26, 27, 28, 29, 30, 31, 32, 33, 34, 35, 36, 37, 38, 39, 40, 41, 42, 43] [9, 4, 14, 137] [(9, .int .u64 t61), (4, .bool x69), (14, .int .u64 x119), (137, .bool ((t143.length : Int) == t148))] (by kernel_rfl) (fun a_ hS => ?_)
      rcases Bool.eq_false_or_eq_true ((t143.length : Int) == t148) with hb | hb
      · rw [hb] at hS; rw [if_pos hb] at H
        refine L_pure hS [21] [22, 23, 24, 25, 26, 27, 28, 29, 30, 31, 32, 33, 34, 35, 36, 37, 38, 39, 40, 41, 42, 43] [9, 4, 14, 137, 138] [(9, .int .u64 t61), (4, .bool x69), (14, .int .u64 x119), (137, .bool true), (138, .int .u64 x119)] (by kernel_rfl) (fun a_ hS => ?_)
        obtain ⟨t150, hq151, H⟩ := bind_elim H
        refine L_op hS (i := 22) rfl (by kernel_rfl) ?_
        refine wp_call hS [.int .u64 x119] rfl Tryd.func12 (by kernel_rfl) (by kernel_rfl) (by kernel_rfl) (set_Set_Count.calls x119 hF hq151) ?_
        rintro e_ w_ ⟨rfl, hb⟩
        refine ⟨_, _, rfl, rfl, ?_⟩; intro a_ hS
        have hF := hF.below hb
        have hB := hB.trans (hb.mono hB.size)
        refine L_pure hS [23, 24, 25] [26, 27, 28, 29, 30, 31, 32, 33, 34, 35, 36, 37, 38, 39, 40, 41, 42, 43] [9, 4, 14, 142] [(9, .int .u64 t61), (4, .bool x69), (14, .int .u64 x119), (142, .bool (t150 == 64))] (by kernel_rfl) (fun a_ hS => ?_)
        rcases Bool.eq_false_or_eq_true (t150 == 64) with hb | hb
        · rw [hb] at hS; rw [if_pos hb] at H
          refine L_pure hS [26, 27] [28, 29, 30, 31, 32, 33, 34, 35, 36, 37, 38, 39, 40, 41, 42, 43] [9, 4, 14, 142, 143, 144] [(9, .int .u64 t61), (4, .bool x69), (14, .int .u64 x119), (142, .bool true), (143, .int .u64 t61), (144, .int .u64 x119)] (by kernel_rfl) (fun a_ hS => ?_)
          obtain ⟨t152, hq153, H⟩ := bind_elim H
          refine L_op hS (i := 28) rfl (by kernel_rfl) ?_
          refine wp_call hS [.int .u64 t61, .int .u64 x119] rfl Tryd.func13 (by kernel_rfl) (by kernel_rfl) (by kernel_rfl) (set_Set_In.calls t61 x119 hF hq153) ?_
          rintro e_ w_ ⟨rfl, hb⟩
          refine ⟨_, _, rfl, rfl, ?_⟩; intro a_ hS
          have hF := hF.below hb
          have hB := hB.trans (hb.mono hB.size)
          refine L_pure hS [29, 30] [31, 32, 33, 34, 35, 36, 37, 38, 39, 40, 41, 42, 43] [9, 4, 14, 147] [(9, .int .u64 t61), (4, .bool x69), (14, .int .u64 x119), (147, .bool t152)] (by kernel_rfl) (fun a_ hS => ?_)
          rcases Bool.eq_false_or_eq_true t152 with hb | hb
          · rw [hb] at hS; rw [if_pos hb] at H
            refine L_pure hS [31, 32] [33, 34, 35, 36, 37, 38, 39, 40, 41, 42, 43] [9, 4, 147, 148, 149] [(9, .int .u64 t61), (4, .bool x69), (147, .bool true), (148, .int .u64 x119), (149, .int .u64 t61)] (by kernel_rfl) (fun a_ hS => ?_)
            obtain ⟨t154, hq155, H⟩ := bind_elim H
            refine L_op hS (i := 33) rfl (by kernel_rfl) ?_
            refine wp_call hS [.int .u64 x119, .int .u64 t61] rfl Tryd.func14 (by kernel_rfl) (by kernel_rfl) (by kernel_rfl) (set_Set_Less.calls x119 t61 hF hq155) ?_
            rintro e_ w_ ⟨rfl, hb⟩
            refine ⟨_, _, rfl, rfl, ?_⟩; intro a_ hS
            have hF := hF.below hb
            have hB := hB.trans (hb.mono hB.size)
            obtain ⟨t156, hq157, H⟩ := bind_elim H
            refine L_op hS (i := 34) rfl (by kernel_rfl) ?_
            refine wp_call hS [.int .u64 t154] rfl Tryd.func12 (by kernel_rfl) (by kernel_rfl) (by kernel_rfl) (set_Set_Count.calls t154 hF hq157) ?_
            rintro e_ w_ ⟨rfl, hb⟩
            refine ⟨_, _, rfl, rfl, ?_⟩; intro a_ hS
            have hF := hF.below hb
            have hB := hB.trans (hb.mono hB.size)
            refine L_pure hS [35] [36, 37, 38, 39, 40, 41, 42, 43] [151, 4, 147, 152] [(151, .int .i64 t156), (4, .bool x69), (147, .bool true), (152, .int .u64 t61)] (by kernel_rfl) (fun a_ hS => ?_)
            obtain ⟨t158, hq159, H⟩ := bind_elim H
            refine L_op hS (i := 36) rfl (by kernel_rfl) ?_
            refine wp_call hS [.int .u64 t61] rfl Tryd.func12 (by kernel_rfl) (by kernel_rfl) (by kernel_rfl) (set_Set_Count.calls t61 hF hq159) ?_
            rintro e_ w_ ⟨rfl, hb⟩
            refine ⟨_, _, rfl, rfl, ?_⟩; intro a_ hS
            have hF := hF.below hb
            have hB := hB.trans (hb.mono hB.size)
            refine L_pure hS [37, 38, 39, 40] [41, 42, 43] [4, 157] [(4, .bool x69), (157, .bool (t156 == (IntKind.i64.wrap (64 - t158))))] (by kernel_rfl) (fun a_ hS => ?_)
            rcases Bool.eq_false_or_eq_true (t156 == (IntKind.i64.wrap (64 - t158))) with hb | hb
            · rw [hb] at hS; rw [if_pos hb] at H
              obtain ⟨t160, hq161, H⟩ := bind_elim H
              refine L_op hS (i := 41) rfl (by kernel_rfl) ?_
              refine wp_call hS [] rfl Tryd.func15 (by kernel_rfl) (by kernel_rfl) (by kernel_rfl) (exegetelaw02_wakes.calls F hF hT hq161) ?_
              rintro e_ w_ ⟨rfl, hb⟩
              refine ⟨_, _, rfl, rfl, ?_⟩; intro a_ hS
              have hF := hF.below hb
              have hB := hB.trans (hb.mono hB.size)
              refine L_pure hS [42, 43] [] [4] [(4, .bool t160)] (by kernel_rfl) (fun a_ hS => ?_)
              refine L_end ?_
              refine wp_ret ?_
              obtain rfl := Option.some.inj H
              refine bodyPost_ret (results_tmp rfl _ _ _) hS.defers ?_
              rw [hS.getD (t := 4) rfl]
              exact ⟨rfl, hB⟩
            · rw [hb] at hS; rw [if_neg (nt hb)] at H
              refine L_pure hS [41, 42, 43] [] [4] [(4, .bool false)] (by kernel_rfl) (fun a_ hS => ?_)
              refine L_end ?_
              refine wp_ret ?_
              obtain rfl := Option.some.inj H
              refine bodyPost_ret (results_tmp rfl _ _ _) hS.defers ?_
              rw [hS.getD (t := 4) rfl]
              exact ⟨rfl, hB⟩
          · rw [hb] at hS; rw [if_neg (nt hb)] at H
            refine L_pure hS [31, 32, 33, 34, 35, 36, 37, 38, 39, 40, 41, 42, 43] [] [4] [(4, .bool false)] (by kernel_rfl) (fun a_ hS => ?_)
            refine L_end ?_
            refine wp_ret ?_
            obtain rfl := Option.some.inj H
            refine bodyPost_ret (results_tmp rfl _ _ _) hS.defers ?_
            rw [hS.getD (t := 4) rfl]
            exact ⟨rfl, hB⟩
        · rw [hb] at hS; rw [if_neg (nt hb)] at H
          refine L_pure hS [26, 27, 28, 29, 30, 31, 32, 33, 34, 35, 36, 37, 38, 39, 40, 41, 42, 43] [] [4] [(4, .bool false)] (by kernel_rfl) (fun a_ hS => ?_)
          refine L_end ?_
          refine wp_ret ?_
          obtain rfl := Option.some.inj H
          refine bodyPost_ret (results_tmp rfl _ _ _) hS.defers ?_
          rw [hS.getD (t := 4) rfl]
          exact ⟨rfl, hB⟩
      · rw [hb] at hS; rw [if_neg (nt hb)] at H
        refine L_pure hS [21, 22, 23, 24, 25, 26, 27, 28, 29, 30, 31, 32, 33, 34, 35, 36, 37, 38, 39, 40, 41, 42, 43] [] [4] [(4, .bool false)] (by kernel_rfl) (fun a_ hS => ?_)
        refine L_end ?_
        refine wp_ret ?_
        obtain rfl := Option.some.inj H
        refine bodyPost_ret (results_tmp rfl _ _ _) hS.defers ?_
        rw [hS.getD (t := 4) rfl]
        exact ⟨rfl, hB⟩
    · rw [hb] at hS; rw [if_neg (nt hb)] at H
      refine L_pure hS [13, 14, 15, 16, 17, 18, 19, 20, 21, 22, 23, 24, 25, 26, 27, 28, 29, 30, 31, 32, 33, 34, 35, 36, 37, 38, 39, 40, 41, 42, 43] [] [4] [(4, .bool false)] (by kernel_rfl) (fun a_ hS => ?_)
      refine L_end ?_
      refine wp_ret ?_
      obtain rfl := Option.some.inj H
      refine bodyPost_ret (results_tmp rfl _ _ _) hS.defers ?_
      rw [hS.getD (t := 4) rfl]
      exact ⟨rfl, hB⟩
  · rw [hb] at hS; rw [if_neg (nt hb)] at H
    refine L_pure hS [5, 6, 7, 8, 9, 10, 11, 12, 13, 14, 15, 16, 17, 18, 19, 20, 21, 22, 23, 24, 25, 26, 27, 28, 29, 30, 31, 32, 33, 34, 35, 36, 37, 38, 39, 40, 41, 42, 43] [] [4] [(4, .bool false)] (by kernel_rfl) (fun a_ hS => ?_)
    refine L_end ?_
    refine wp_ret ?_
    obtain rfl := Option.some.inj H
    refine bodyPost_ret (results_tmp rfl _ _ _) hS.defers ?_
    rw [hS.getD (t := 4) rfl]
    exact ⟨rfl, hB⟩

end Go.Proofs.YthcikoecegiifaaDoor.X
