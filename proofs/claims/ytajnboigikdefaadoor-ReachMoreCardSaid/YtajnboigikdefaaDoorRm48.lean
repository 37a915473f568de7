/- Texts that the proof of a law rests on, put together: part 48. -/
import Derived.Test.YtajnboigikdefaaDoorRm47
import Derived.Test.YtajnboigikdefaaDoorProg
namespace Go.Proofs.YtajnboigikdefaaDoor.D
open Go Go.EV Go.TL Go.Proofs
set_option linter.unusedVariables false
set_option linter.unusedSimpArgs false
set_option maxRecDepth 100000
def symS (t n r : Int) : Int := if r % (t + n) < t then r % (t + n) + 1 else 100 + r % (t + n) - t
noncomputable def put.L0  : LFace := ⟨[1, 2, 3, 6, 7, 8, 9], [.v (.int .i64), .v (.sl (.int .i64)), .box 28 [.row .str 9, .row .str 9, .row PR 53], .box 28 [.un, .un, .un], .box 53 [.v (.int .i64), .row (.int .i64) 3], .v (.int .i64), .v (.int .i64)], fun (left, row, g, u, p, t, i) => some (0 ≤ i ∧ i ≤ 3 ∧ t = g.1.length ∧ 1 ≤ t ∧ g.1.length ≤ 99 ∧ g.2.1.length ≤ 99 ∧ p.2.length ≤ i.toNat),
  [⟨.normal, [1, 3, 6, 7], [.v (.int .i64), .box 28 [.row .str 9, .row .str 9, .row PR 53], .box 28 [.un, .un, .un], .box 53 [.v (.int .i64), .row (.int .i64) 3]], fun (left, row, g, u, p, t, i) => (left, g, u, p.1, p.2 ++ ((row.take 3).drop i.toNat).map (symS g.1.length g.2.1.length)), fun (left, row, g, u, p, t, i) => none⟩]⟩
noncomputable def put.L0.mu  : dens put.L0.sh → Nat := fun (left, row, g, u, p, t, i) => (3 - i).toNat
noncomputable def put.L0.g  (left : Int) (row : List Int) (g : List ByteArray × List ByteArray × List (Int × List Int)) (u : Unit × Unit × Unit) (p : Int × List Int) (t : Int) (i : Int) : Prop := GoodLA Tryd.prog (cfOf [within]) [] 1000 57 0 put.L0 put.L0.mu (left, row, g, u, p, t, i)
noncomputable def put.L0.q1 (row : List Int) (g : List ByteArray × List ByteArray × List (Int × List Int)) (i : Int) : Prop := ((((True ∧ row.length ≤ (9223372036854775807 : Nat)) ∧ decide (i < (↑row.length : Int)) = true) ∧ decide (i < (3 : Int)) = true) ∧ (0 : Int) ≤ i ∧ i < (↑row.length : Int)) ∧ List.length g.2.1 ≤ (9223372036854775807 : Nat)
noncomputable def put.L0.q0 (row : List Int) (g : List ByteArray × List ByteArray × List (Int × List Int)) (t : Int) (i : Int) : Prop := (put.L0.q1 row g i) ∧ (0 : Int) < IntKind.i64.wrap (t + (↑(List.length g.2.1) : Int)) ∧ IntKind.i64.wrap (t + (↑(List.length g.2.1) : Int)) ≤ (9223372036854775807 : Int)
noncomputable def put.L0.T (left : Int) (row : List Int) (g : List ByteArray × List ByteArray × List (Int × List Int)) (u : Unit × Unit × Unit) (p : Int × List Int) (t : Int) (i : Int) : Prop := ((((True ∧ row.length ≤ (9223372036854775807 : Nat)) ∧ decide (i < (↑row.length : Int)) = true) ∧ decide (i < (3 : Int)) = true) ∧ ¬((0 : Int) ≤ i ∧ i < (↑row.length : Int)) → False) ∧ ((put.L0.q1 row g i) ∧ ¬((0 : Int) < IntKind.i64.wrap (t + (↑(List.length g.2.1) : Int)) ∧ IntKind.i64.wrap (t + (↑(List.length g.2.1) : Int)) ≤ (9223372036854775807 : Int)) → False) ∧ (((put.L0.q0 row g t i) ∧ decide (row.getD i.toNat (0 : Int) % IntKind.i64.wrap (t + (↑(List.length g.2.1) : Int)) < t) = true) ∧ (List.length p.2 + (1 : Nat)) * (8 : Nat) ≤ (140737488355328 : Nat) → ((0 : Int) ≤ IntKind.i64.wrap (i + (1 : Int)) ∧ IntKind.i64.wrap (i + (1 : Int)) ≤ (3 : Int) ∧ t = (↑(List.length g.1) : Int) ∧ (1 : Int) ≤ t ∧ List.length g.1 ≤ (99 : Nat) ∧ List.length g.2.1 ≤ (99 : Nat) ∧ (p.2 ++ [IntKind.i64.wrap (row.getD i.toNat (0 : Int) % IntKind.i64.wrap (t + (↑(List.length g.2.1) : Int)) + (1 : Int))]).length ≤ (IntKind.i64.wrap (i + (1 : Int))).toNat) ∧ put.L0.mu (left, row, g, ((), (), ()), (p.1, p.2 ++ [IntKind.i64.wrap (row.getD i.toNat (0 : Int) % IntKind.i64.wrap (t + (↑(List.length g.2.1) : Int)) + (1 : Int))]), t, IntKind.i64.wrap (i + (1 : Int))) < put.L0.mu (left, row, g, u, p, t, i) ∧ (True → True ∧ (left, g, ((), (), ()), p.1, p.2 ++ [IntKind.i64.wrap (row.getD i.toNat (0 : Int) % IntKind.i64.wrap (t + (↑(List.length g.2.1) : Int)) + (1 : Int))] ++ List.map (symS (↑(List.length g.1) : Int) (↑(List.length g.2.1) : Int)) (List.drop (IntKind.i64.wrap (i + (1 : Int))).toNat (List.take (3 : Nat) row))) = (left, g, u, p.1, p.2 ++ List.map (symS (↑(List.length g.1) : Int) (↑(List.length g.2.1) : Int)) (List.drop i.toNat (List.take (3 : Nat) row)))) ∧ True) ∧ (((put.L0.q0 row g t i) ∧ decide (row.getD i.toNat (0 : Int) % IntKind.i64.wrap (t + (↑(List.length g.2.1) : Int)) < t) = true) ∧ ¬(List.length p.2 + (1 : Nat)) * (8 : Nat) ≤ (140737488355328 : Nat) → False) ∧ (((put.L0.q0 row g t i) ∧ decide (row.getD i.toNat (0 : Int) % IntKind.i64.wrap (t + (↑(List.length g.2.1) : Int)) < t) = false) ∧ (List.length p.2 + (1 : Nat)) * (8 : Nat) ≤ (140737488355328 : Nat) → ((0 : Int) ≤ IntKind.i64.wrap (i + (1 : Int)) ∧ IntKind.i64.wrap (i + (1 : Int)) ≤ (3 : Int) ∧ t = (↑(List.length g.1) : Int) ∧ (1 : Int) ≤ t ∧ List.length g.1 ≤ (99 : Nat) ∧ List.length g.2.1 ≤ (99 : Nat) ∧ (p.2 ++ [IntKind.i64.wrap (IntKind.i64.wrap ((100 : Int) + row.getD i.toNat (0 : Int) % IntKind.i64.wrap (t + (↑(List.length g.2.1) : Int))) - t)]).length ≤ (IntKind.i64.wrap (i + (1 : Int))).toNat) ∧ put.L0.mu (left, row, g, ((), (), ()), (p.1, p.2 ++ [IntKind.i64.wrap (IntKind.i64.wrap ((100 : Int) + row.getD i.toNat (0 : Int) % IntKind.i64.wrap (t + (↑(List.length g.2.1) : Int))) - t)]), t, IntKind.i64.wrap (i + (1 : Int))) < put.L0.mu (left, row, g, u, p, t, i) ∧ (True → True ∧ (left, g, ((), (), ()), p.1, p.2 ++ [IntKind.i64.wrap (IntKind.i64.wrap ((100 : Int) + row.getD i.toNat (0 : Int) % IntKind.i64.wrap (t + (↑(List.length g.2.1) : Int))) - t)] ++ List.map (symS (↑(List.length g.1) : Int) (↑(List.length g.2.1) : Int)) (List.drop (IntKind.i64.wrap (i + (1 : Int))).toNat (List.take (3 : Nat) row))) = (left, g, u, p.1, p.2 ++ List.map (symS (↑(List.length g.1) : Int) (↑(List.length g.2.1) : Int)) (List.drop i.toNat (List.take (3 : Nat) row)))) ∧ True) ∧ (((put.L0.q0 row g t i) ∧ decide (row.getD i.toNat (0 : Int) % IntKind.i64.wrap (t + (↑(List.length g.2.1) : Int)) < t) = false) ∧ ¬(List.length p.2 + (1 : Nat)) * (8 : Nat) ≤ (140737488355328 : Nat) → False) ∧ (((True ∧ row.length ≤ (9223372036854775807 : Nat)) ∧ decide (i < (↑row.length : Int)) = true) ∧ decide (i < (3 : Int)) = false → True ∧ (left, g, ((), (), ()), p) = (left, g, u, p.1, p.2 ++ List.map (symS (↑(List.length g.1) : Int) (↑(List.length g.2.1) : Int)) (List.drop i.toNat (List.take (3 : Nat) row)))) ∧ ((True ∧ row.length ≤ (9223372036854775807 : Nat)) ∧ decide (i < (↑row.length : Int)) = false → True ∧ (left, g, ((), (), ()), p) = (left, g, u, p.1, p.2 ++ List.map (symS (↑(List.length g.1) : Int) (↑(List.length g.2.1) : Int)) (List.drop i.toNat (List.take (3 : Nat) row)))) ∧ (True)
theorem put.L0.eq  (left : Int) (row : List Int) (g : List ByteArray × List ByteArray × List (Int × List Int)) (u : Unit × Unit × Unit) (p : Int × List Int) (t : Int) (i : Int) : put.L0.g  left row g u p t i = put.L0.T  left row g u p t i := by kernel_rfl
theorem put.L0.ok  (left : Int) (row : List Int) (g : List ByteArray × List ByteArray × List (Int × List Int)) (u : Unit × Unit × Unit) (p : Int × List Int) (t : Int) (i : Int) (hx : 0 ≤ i ∧ i ≤ 3 ∧ t = g.1.length ∧ 1 ≤ t ∧ g.1.length ≤ 99 ∧ g.2.1.length ≤ 99 ∧ p.2.length ≤ i.toNat) : put.L0.T  left row g u p t i := by
  obtain ⟨h0, h1, rfl, h2, h3, h4, h5⟩ := hx
  have w1 : IntKind.i64.wrap (i + 1) = i + 1 := wrapI64 (by omega) (by omega)
  have w2 : IntKind.i64.wrap ((g.1.length : Int) + g.2.1.length) = (g.1.length : Int) + g.2.1.length := wrapI64 (by omega) (by omega)
  delta put.L0.T put.L0.q1 put.L0.q0
  simp only [w1, w2]
  have hr0 := Int.emod_nonneg (row.getD i.toNat 0) (show (g.1.length : Int) + g.2.1.length ≠ 0 by omega)
  have hr1 := Int.emod_lt_of_pos (row.getD i.toNat 0) (show 0 < (g.1.length : Int) + g.2.1.length by omega)
  have hS : symS g.1.length g.2.1.length (row.getD i.toNat 0) = if row.getD i.toNat 0 % ((g.1.length : Int) + g.2.1.length) < g.1.length then row.getD i.toNat 0 % ((g.1.length : Int) + g.2.1.length) + 1 else 100 + row.getD i.toNat 0 % ((g.1.length : Int) + g.2.1.length) - g.1.length := rfl
  have hD : i < 3 → i < (row.length : Int) → (row.take 3).drop i.toNat = row.getD i.toNat 0 :: (row.take 3).drop (i + 1).toNat := fun ha hb => by
    rw [drop_int 0 h0 (by simp; omega), take_getD (by omega)]
  generalize row.getD i.toNat 0 % ((g.1.length : Int) + g.2.1.length) = r at *
  rw [wrapI64 (x := r + 1) (by omega) (by omega), wrapI64 (x := 100 + r) (by omega) (by omega), wrapI64 (x := 100 + r - g.1.length) (by omega) (by omega)]
  generalize row.getD i.toNat 0 = x at *
  have hmu : ∀ q, put.L0.mu (left, row, g, u, q, (g.1.length : Int), i + 1) < put.L0.mu (left, row, g, u, p, (g.1.length : Int), i) ∨ 3 ≤ i := fun q => by simp only [put.L0.mu]; omega
  ((repeat' (first | exact trivial | apply And.intro)) <;> (intro hw; (try (simp only [true_and, and_true, decide_eq_true_eq, decide_eq_false_iff_not, beq_iff_eq, bne_iff_ne, beq_eq_false_iff_ne, bne_eq_false_iff_eq, ne_eq, Bool.not_eq_true, Bool.not_eq_false, not_true_eq_false, not_false_eq_true, Bool.not_eq_eq_eq_not, Bool.not_true, Bool.not_false, forall_const, imp_self, Bool.true_eq_false, Bool.false_eq_true, reduceCtorEq] at hw)); (try first | (exfalso; omega) | exact ⟨trivial, rfl⟩ | exact (hw hx).elim | exact (hw.2 hx).elim)))
  · rw [hD (by omega) (by omega), List.map_cons, hS, if_pos hw.1.2]
    refine ⟨⟨by omega, by omega, trivial, h2, h3, h4, by rw [List.length_append]; simp; omega⟩, (hmu _).resolve_right (by omega), fun _ => ⟨trivial, ?_⟩, trivial⟩
    rw [List.append_assoc]; rfl
  · rw [hD (by omega) (by omega), List.map_cons, hS, if_neg hw.1.2]
    refine ⟨⟨by omega, by omega, trivial, h2, h3, h4, by rw [List.length_append]; simp; omega⟩, (hmu _).resolve_right (by omega), fun _ => ⟨trivial, ?_⟩, trivial⟩
    rw [List.append_assoc]; rfl
  all_goals
    rw [List.drop_eq_nil_of_le (by simp; omega), List.map_nil, List.append_nil]
    exact ⟨trivial, rfl⟩
theorem put.L0.lp   : LpAt Tryd.prog 57 0 put.L0 := lp_evalH (l := []) (lf := 1000) (fun _ => cfOf_ok (fns_cons within.fn (fns_nil _))) (lps_nil _ _) (by kernel_rfl) _ (put.L0.mu ) (fun ⟨left, row, g, u, p, t, i⟩ hx => Hid.of (put.L0.eq  left row g u p t i) (put.L0.ok  left row g u p t i hx))
def hasS (left : Int) (r : List Int) : List (Int × List Int) → Bool
  | [] => false
  | q :: l => (decide (q.1 = left) && sameS q.2 r) || hasS left r l
noncomputable def put.L2  : LFace := ⟨[1, 3, 6, 7, 58, 59, 60], [.v (.int .i64), .box 28 [.row .str 9, .row .str 9, .row PR 53], .box 28 [.un, .un, .un], .box 53 [.v (.int .i64), .v (.sl (.int .i64))], .al 2, .v (.int .i64), .v (.int .i64)], fun (left, g, u, p, z, len, i) => some (len = g.2.2.length ∧ 0 ≤ i ∧ i ≤ g.2.2.length ∧ g.2.2.length ≤ 1000),
  [⟨.normal, [3, 6, 7], [.box 28 [.row .str 9, .row .str 9, .row PR 53], .box 28 [.un, .un, .un], .box 53 [.v (.int .i64), .v (.sl (.int .i64))]], fun (left, g, u, p, z, len, i) => (g, u, p), fun (left, g, u, p, z, len, i) => some (hasS left p.2 (g.2.2.drop i.toNat) = false)⟩,
   ⟨.ret, [3, 6, 7], [.box 28 [.un, .un, .un], .box 28 [.row .str 9, .row .str 9, .row PR 53], .box 53 [.un, .un]], fun (left, g, u, p, z, len, i) => (((), (), ()), g, (), ()), fun (left, g, u, p, z, len, i) => some (hasS left p.2 (g.2.2.drop i.toNat) = true)⟩]⟩
noncomputable def put.L2.mu  : dens put.L2.sh → Nat := fun (left, g, u, p, z, len, i) => (g.2.2.length - i).toNat
noncomputable def put.L2.g  (left : Int) (g : List ByteArray × List ByteArray × List (Int × List Int)) (u : Unit × Unit × Unit) (p : Int × List Int) (z : Unit) (len : Int) (i : Int) : Prop := GoodLA Tryd.prog (cfOf [sameRow]) [] 1000 57 2 put.L2 put.L2.mu (left, g, u, p, z, len, i)
noncomputable def put.L2.T (left : Int) (g : List ByteArray × List ByteArray × List (Int × List Int)) (u : Unit × Unit × Unit) (p : Int × List Int) (z : Unit) (len : Int) (i : Int) : Prop := (((((True ∧ decide (i < len) = true) ∧ (0 : Int) ≤ i ∧ i < (↑(List.length g.2.2) : Int)) ∧ i.toNat < List.length g.2.2) ∧ ((List.getD g.2.2 i.toNat ((0 : Int), [])).1 == left) = true) ∧ sameS (List.getD g.2.2 i.toNat ((0 : Int), [])).2 p.2 = true →
  hasS left p.2 (List.drop i.toNat g.2.2) = true ∧ (((), (), ()), g, (), ()) = (((), (), ()), g, (), ())) ∧ (((((True ∧ decide (i < len) = true) ∧ (0 : Int) ≤ i ∧ i < (↑(List.length g.2.2) : Int)) ∧ i.toNat < List.length g.2.2) ∧ ((List.getD g.2.2 i.toNat ((0 : Int), [])).1 == left) = true) ∧ sameS (List.getD g.2.2 i.toNat ((0 : Int), [])).2 p.2 = false →
  (len = (↑(List.length g.2.2) : Int) ∧ (0 : Int) ≤ IntKind.i64.wrap (i + (1 : Int)) ∧ IntKind.i64.wrap (i + (1 : Int)) ≤ (↑(List.length g.2.2) : Int) ∧ List.length g.2.2 ≤ (1000 : Nat)) ∧ put.L2.mu (left, g, ((), (), ()), p, (), len, IntKind.i64.wrap (i + (1 : Int))) < put.L2.mu (left, g, u, p, z, len, i) ∧ (hasS left p.2 (List.drop (IntKind.i64.wrap (i + (1 : Int))).toNat g.2.2) = false → hasS left p.2 (List.drop i.toNat g.2.2) = false ∧ (g, ((), (), ()), p) = (g, u, p)) ∧ (hasS left p.2 (List.drop (IntKind.i64.wrap (i + (1 : Int))).toNat g.2.2) = true → hasS left p.2 (List.drop i.toNat g.2.2) = true ∧ (((), (), ()), g, (), ()) = (((), (), ()), g, (), ())) ∧ True) ∧ ((((True ∧ decide (i < len) = true) ∧ (0 : Int) ≤ i ∧ i < (↑(List.length g.2.2) : Int)) ∧ i.toNat < List.length g.2.2) ∧ ((List.getD g.2.2 i.toNat ((0 : Int), [])).1 == left) = false →
  (len = (↑(List.length g.2.2) : Int) ∧ (0 : Int) ≤ IntKind.i64.wrap (i + (1 : Int)) ∧ IntKind.i64.wrap (i + (1 : Int)) ≤ (↑(List.length g.2.2) : Int) ∧ List.length g.2.2 ≤ (1000 : Nat)) ∧ put.L2.mu (left, g, ((), (), ()), p, (), len, IntKind.i64.wrap (i + (1 : Int))) < put.L2.mu (left, g, u, p, z, len, i) ∧ (hasS left p.2 (List.drop (IntKind.i64.wrap (i + (1 : Int))).toNat g.2.2) = false → hasS left p.2 (List.drop i.toNat g.2.2) = false ∧ (g, ((), (), ()), p) = (g, u, p)) ∧ (hasS left p.2 (List.drop (IntKind.i64.wrap (i + (1 : Int))).toNat g.2.2) = true → hasS left p.2 (List.drop i.toNat g.2.2) = true ∧ (((), (), ()), g, (), ()) = (((), (), ()), g, (), ())) ∧ True) ∧ (((True ∧ decide (i < len) = true) ∧ (0 : Int) ≤ i ∧ i < (↑(List.length g.2.2) : Int)) ∧ ¬i.toNat < List.length g.2.2 → False) ∧ ((True ∧ decide (i < len) = true) ∧ ¬((0 : Int) ≤ i ∧ i < (↑(List.length g.2.2) : Int)) → False) ∧ (True ∧ decide (i < len) = false → hasS left p.2 (List.drop i.toNat g.2.2) = false ∧ (g, ((), (), ()), p) = (g, u, p)) ∧ (True)
theorem put.L2.eq  (left : Int) (g : List ByteArray × List ByteArray × List (Int × List Int)) (u : Unit × Unit × Unit) (p : Int × List Int) (z : Unit) (len : Int) (i : Int) : put.L2.g  left g u p z len i = put.L2.T  left g u p z len i := by kernel_rfl
theorem put.L2.ok  (left : Int) (g : List ByteArray × List ByteArray × List (Int × List Int)) (u : Unit × Unit × Unit) (p : Int × List Int) (z : Unit) (len : Int) (i : Int) (hx : len = g.2.2.length ∧ 0 ≤ i ∧ i ≤ g.2.2.length ∧ g.2.2.length ≤ 1000) : put.L2.T  left g u p z len i := by
  obtain ⟨rfl, h0, h1, h2⟩ := hx
  rw [put.L2.T]
  have hD := fun h => drop_int (0, []) h0 (l := g.2.2) h
  ((repeat' (first | exact trivial | apply And.intro)) <;> (intro hw; (try (simp only [true_and, and_true, decide_eq_true_eq, decide_eq_false_iff_not, beq_iff_eq, bne_iff_ne, beq_eq_false_iff_ne, bne_eq_false_iff_eq, ne_eq, Bool.not_eq_true, Bool.not_eq_false, not_true_eq_false, not_false_eq_true, Bool.not_eq_eq_eq_not, Bool.not_true, Bool.not_false, forall_const, imp_self, Bool.true_eq_false, Bool.false_eq_true, reduceCtorEq] at hw)); (try first | (exfalso; omega) | exact ⟨trivial, rfl⟩ | exact (hw hx).elim | exact (hw.2 hx).elim)))
  · rw [hD (by omega), hasS, decide_eq_true hw.1.2, hw.2]
    exact ⟨rfl, rfl⟩
  · rw [wrapI64 (x := i + 1) (by omega) (by omega), hD (by omega), hasS, hw.2, Bool.and_false, Bool.false_or]
    exact ⟨⟨rfl, by omega, by omega, h2⟩, by simp only [put.L2.mu]; omega, fun h => ⟨h, rfl⟩, fun h => ⟨h, rfl⟩, trivial⟩
  · rw [wrapI64 (x := i + 1) (by omega) (by omega), hD (by omega), hasS, decide_eq_false hw.2, Bool.false_and, Bool.false_or]
    exact ⟨⟨rfl, by omega, by omega, h2⟩, by simp only [put.L2.mu]; omega, fun h => ⟨h, rfl⟩, fun h => ⟨h, rfl⟩, trivial⟩
  · rw [drop_int_end hw, hasS]
    exact ⟨rfl, rfl⟩
theorem put.L2.lp   : LpAt Tryd.prog 57 2 put.L2 := lp_evalH (l := []) (lf := 1000) (fun _ => cfOf_ok (fns_cons sameRow.fn (fns_nil _))) (lps_nil _ _) (by kernel_rfl) _ (put.L2.mu ) (fun ⟨left, g, u, p, z, len, i⟩ hx => Hid.of (put.L2.eq  left g u p z len i) (put.L2.ok  left g u p z len i hx))
def putS (g : Gr) (left : Int) (row : List Int) : Gr := if hasS left ((row.take 3).map (symS g.1.length g.2.1.length)) g.2.2 = true then g else (g.1, g.2.1, g.2.2 ++ [(left, (row.take 3).map (symS g.1.length g.2.1.length))])
noncomputable def put  : Face := ⟨57, [.st [.row .str 9, .row .str 9, .row PR 53], .v (.int .i64), .v (.sl (.int .i64))], fun (g, left, row) => some (1 ≤ g.1.length ∧ g.1.length ≤ 99 ∧ g.2.1.length ≤ 99 ∧ g.2.2.length ≤ 99),
  [⟨false, [.st [.row .str 9, .row .str 9, .row PR 53]], fun (g, left, row) => putS g left row, fun (g, left, row) => none⟩]⟩
noncomputable def put.g  (g : List ByteArray × List ByteArray × List (Int × List Int)) (left : Int) (row : List Int) : Prop := GoodFA Tryd.prog (cfOf []) [(0, put.L0), (2, put.L2)] 1000 put (g, left, row)
noncomputable def put.q0 (g : List ByteArray × List ByteArray × List (Int × List Int)) : Prop := ((True ∧ List.length g.1 ≤ (9223372036854775807 : Nat)) ∧ (0 : Int) ≤ (0 : Int) ∧ (0 : Int) ≤ (3 : Int) ∧ (↑(List.length g.1) : Int) = (↑(List.length g.1) : Int) ∧ (1 : Int) ≤ (↑(List.length g.1) : Int) ∧ List.length g.1 ≤ (99 : Nat) ∧ List.length g.2.1 ≤ (99 : Nat) ∧ (0 : Nat) ≤ Int.toNat (0 : Int)) ∧ List.length g.2.2 ≤ (9223372036854775807 : Nat)
noncomputable def put.q2 (g : List ByteArray × List ByteArray × List (Int × List Int)) : Prop := (put.q0 g) ∧ (↑(List.length g.2.2) : Int) = (↑(List.length g.2.2) : Int) ∧ (0 : Int) ≤ (0 : Int) ∧ (0 : Int) ≤ (↑(List.length g.2.2) : Int) ∧ List.length g.2.2 ≤ (1000 : Nat)
noncomputable def put.q1 (g : List ByteArray × List ByteArray × List (Int × List Int)) (left : Int) (row : List Int) : Prop := (put.q2 g) ∧ hasS left ([] ++ List.map (symS (↑(List.length g.1) : Int) (↑(List.length g.2.1) : Int)) (List.drop (Int.toNat (0 : Int)) (List.take (3 : Nat) row))) (List.drop (Int.toNat (0 : Int)) g.2.2) = false
noncomputable def put.T (g : List ByteArray × List ByteArray × List (Int × List Int)) (left : Int) (row : List Int) : Prop := ((True ∧ List.length g.1 ≤ (9223372036854775807 : Nat)) ∧ ¬((0 : Int) ≤ (0 : Int) ∧ (0 : Int) ≤ (3 : Int) ∧ (↑(List.length g.1) : Int) = (↑(List.length g.1) : Int) ∧ (1 : Int) ≤ (↑(List.length g.1) : Int) ∧ List.length g.1 ≤ (99 : Nat) ∧ List.length g.2.1 ≤ (99 : Nat) ∧ (0 : Nat) ≤ Int.toNat (0 : Int)) → False) ∧ ((put.q0 g) ∧ ¬((↑(List.length g.2.2) : Int) = (↑(List.length g.2.2) : Int) ∧ (0 : Int) ≤ (0 : Int) ∧ (0 : Int) ≤ (↑(List.length g.2.2) : Int) ∧ List.length g.2.2 ≤ (1000 : Nat)) → False) ∧ ((put.q1 g left row) ∧ (List.length g.2.2 + (1 : Nat)) * (32 : Nat) ≤ (140737488355328 : Nat) → True ∧ (g.1, g.2.1, g.2.2 ++ [(left, [] ++ List.map (symS (↑(List.length g.1) : Int) (↑(List.length g.2.1) : Int)) (List.drop (Int.toNat (0 : Int)) (List.take (3 : Nat) row)))]) = putS g left row) ∧ ((put.q1 g left row) ∧ ¬(List.length g.2.2 + (1 : Nat)) * (32 : Nat) ≤ (140737488355328 : Nat) → False) ∧ ((put.q2 g) ∧ hasS left ([] ++ List.map (symS (↑(List.length g.1) : Int) (↑(List.length g.2.1) : Int)) (List.drop (Int.toNat (0 : Int)) (List.take (3 : Nat) row))) (List.drop (Int.toNat (0 : Int)) g.2.2) = true → True ∧ g = putS g left row) ∧ (True)
theorem put.eq  (g : List ByteArray × List ByteArray × List (Int × List Int)) (left : Int) (row : List Int) : put.g  g left row = put.T  g left row := by kernel_rfl
theorem put.ok  (g : List ByteArray × List ByteArray × List (Int × List Int)) (left : Int) (row : List Int) (hx : 1 ≤ g.1.length ∧ g.1.length ≤ 99 ∧ g.2.1.length ≤ 99 ∧ g.2.2.length ≤ 99) : put.T  g left row := by
  delta put.T put.q0 put.q2 put.q1
  rw [putS]
  ((repeat' (first | exact trivial | apply And.intro)) <;> (intro hw; (try (simp only [true_and, and_true, decide_eq_true_eq, decide_eq_false_iff_not, beq_iff_eq, bne_iff_ne, beq_eq_false_iff_ne, bne_eq_false_iff_eq, ne_eq, Bool.not_eq_true, Bool.not_eq_false, not_true_eq_false, not_false_eq_true, Bool.not_eq_eq_eq_not, Bool.not_true, Bool.not_false, forall_const, imp_self, Bool.true_eq_false, Bool.false_eq_true, reduceCtorEq] at hw)); (try first | (exfalso; omega) | exact ⟨trivial, rfl⟩ | exact (hw hx).elim | exact (hw.2 hx).elim)))
  · simp only [List.nil_append, show Int.toNat 0 = 0 from rfl, List.drop_zero] at hw ⊢
    rw [hw.1.2, if_neg Bool.false_ne_true]
    exact ⟨trivial, rfl⟩
  · simp only [List.nil_append, show Int.toNat 0 = 0 from rfl, List.drop_zero] at hw ⊢
    rw [hw.2, if_pos rfl]
    exact ⟨trivial, rfl⟩
theorem put.fn   : FnOk Tryd.prog put := fn_evalH (l := [(0, put.L0), (2, put.L2)]) (lf := 1000) (fun _ => cfOf_ok (fns_nil _)) _ (lps_cons (put.L0.lp) (lps_cons (put.L2.lp) (lps_nil _ _))) (by kernel_rfl) (fun ⟨g, left, row⟩ hx => Hid.of (put.eq  g left row) (put.ok  g left row hx))
abbrev RAW : Ty := .pr (.int .i64) (.pr (.int .i64) (.pr (.int .i64) (.pr (.int .i64) (.pr (.sl (.sl (.int .i64))) .str))))
def puts1 : Nat → Int → Gr → Gr
  | 0, _, g => g
  | n + 1, i, g => puts1 n (i + 1) (putS g (100 + i) [i])
def leftS (i : Int) (r : List Int) : Int := if 0 < r.length then IntKind.i64.wrap (Int.tdiv (r.getD 0 0) 16) else i
def puts2 (n : Int) : Int → Gr → List (List Int) → Gr
  | _, g, [] => g
  | i, g, r :: l => puts2 n (i + 1) (putS g (100 + leftS i r % n) r) l
theorem putS_len (g : Gr) (l : Int) (r : List Int) : (putS g l r).1 = g.1 ∧ (putS g l r).2.1 = g.2.1 ∧ (putS g l r).2.2.length ≤ g.2.2.length + 1 := by
  unfold putS
  split
  · exact ⟨rfl, rfl, Nat.le_succ _⟩
  · exact ⟨rfl, rfl, by simp⟩
noncomputable def any.L0  : LFace := ⟨[1, 2, 3, 5, 6, 7], [.p RAW, .box 28 [.un, .un, .un], .clo 33 [], .v (.int .i64), .box 28 [.row .str 9, .row .str 9, .row PR 53], .v (.int .i64)], fun (r, u, z, n, g, i) => some (0 ≤ i ∧ i ≤ n ∧ n ≤ 9 ∧ 1 ≤ g.1.length ∧ g.1.length ≤ 99 ∧ g.2.1.length ≤ 99 ∧ g.2.2.length ≤ i.toNat),
  [⟨.normal, [1, 2, 3, 5, 6], [.p RAW, .box 28 [.un, .un, .un], .clo 33 [], .v (.int .i64), .box 28 [.row .str 9, .row .str 9, .row PR 53]], fun (r, u, z, n, g, i) => (r, u, z, n, puts1 (n - i).toNat i g), fun (r, u, z, n, g, i) => none⟩]⟩
noncomputable def any.L0.mu  : dens any.L0.sh → Nat := fun (r, u, z, n, g, i) => (n - i).toNat
noncomputable def any.L0.g  (r : Int × Int × Int × Int × List (List Int) × ByteArray) (u : Unit × Unit × Unit) (z : Unit) (n : Int) (g : List ByteArray × List ByteArray × List (Int × List Int)) (i : Int) : Prop := GoodLA Tryd.prog (cfOf [put]) [] 1000 14 0 any.L0 any.L0.mu (r, u, z, n, g, i)
noncomputable def any.L0.T (r : Int × Int × Int × Int × List (List Int) × ByteArray) (u : Unit × Unit × Unit) (z : Unit) (n : Int) (g : List ByteArray × List ByteArray × List (Int × List Int)) (i : Int) : Prop := ((True ∧ decide (i < n) = true) ∧ ¬((1 : Nat) ≤ List.length g.1 ∧ List.length g.1 ≤ (99 : Nat) ∧ List.length g.2.1 ≤ (99 : Nat) ∧ List.length g.2.2 ≤ (99 : Nat)) → False) ∧ ((True ∧ decide (i < n) = true) ∧ (1 : Nat) ≤ List.length g.1 ∧ List.length g.1 ≤ (99 : Nat) ∧ List.length g.2.1 ≤ (99 : Nat) ∧ List.length g.2.2 ≤ (99 : Nat) →
  ((0 : Int) ≤ IntKind.i64.wrap (i + (1 : Int)) ∧ IntKind.i64.wrap (i + (1 : Int)) ≤ n ∧ n ≤ (9 : Int) ∧ (1 : Nat) ≤ List.length (putS g (IntKind.i64.wrap ((100 : Int) + i)) [i]).1 ∧ List.length (putS g (IntKind.i64.wrap ((100 : Int) + i)) [i]).1 ≤ (99 : Nat) ∧ List.length (putS g (IntKind.i64.wrap ((100 : Int) + i)) [i]).2.1 ≤ (99 : Nat) ∧ List.length (putS g (IntKind.i64.wrap ((100 : Int) + i)) [i]).2.2 ≤ (IntKind.i64.wrap (i + (1 : Int))).toNat) ∧ any.L0.mu (r, ((), (), ()), (), n, putS g (IntKind.i64.wrap ((100 : Int) + i)) [i], IntKind.i64.wrap (i + (1 : Int))) < any.L0.mu (r, u, z, n, g, i) ∧ (True → True ∧ (r, ((), (), ()), (), n, puts1 (n - IntKind.i64.wrap (i + (1 : Int))).toNat (IntKind.i64.wrap (i + (1 : Int))) (putS g (IntKind.i64.wrap ((100 : Int) + i)) [i])) = (r, u, (), n, puts1 (n - i).toNat i g)) ∧ True) ∧ (True ∧ decide (i < n) = false → True ∧ (r, ((), (), ()), (), n, g) = (r, u, (), n, puts1 (n - i).toNat i g)) ∧ (True)
theorem any.L0.eq  (r : Int × Int × Int × Int × List (List Int) × ByteArray) (u : Unit × Unit × Unit) (z : Unit) (n : Int) (g : List ByteArray × List ByteArray × List (Int × List Int)) (i : Int) : any.L0.g  r u z n g i = any.L0.T  r u z n g i := by kernel_rfl
theorem any.L0.ok  (r : Int × Int × Int × Int × List (List Int) × ByteArray) (u : Unit × Unit × Unit) (z : Unit) (n : Int) (g : List ByteArray × List ByteArray × List (Int × List Int)) (i : Int) (hx : 0 ≤ i ∧ i ≤ n ∧ n ≤ 9 ∧ 1 ≤ g.1.length ∧ g.1.length ≤ 99 ∧ g.2.1.length ≤ 99 ∧ g.2.2.length ≤ i.toNat) : any.L0.T  r u z n g i := by
  obtain ⟨h0, h1, h2, h3, h4, h5, h6⟩ := hx
  rw [any.L0.T, wrapI64 (x := i + 1) (by omega) (by omega), wrapI64 (x := 100 + i) (by omega) (by omega)]
  obtain ⟨p1, p2, p3⟩ := putS_len g (100 + i) [i]
  ((repeat' (first | exact trivial | apply And.intro)) <;> (intro hw; (try (simp only [true_and, and_true, decide_eq_true_eq, decide_eq_false_iff_not, beq_iff_eq, bne_iff_ne, beq_eq_false_iff_ne, bne_eq_false_iff_eq, ne_eq, Bool.not_eq_true, Bool.not_eq_false, not_true_eq_false, not_false_eq_true, Bool.not_eq_eq_eq_not, Bool.not_true, Bool.not_false, forall_const, imp_self, Bool.true_eq_false, Bool.false_eq_true, reduceCtorEq] at hw)); (try first | (exfalso; omega) | exact ⟨trivial, rfl⟩ | exact (hw hx).elim | exact (hw.2 hx).elim)))
  · refine ⟨⟨by omega, by omega, h2, by rw [p1]; exact h3, by rw [p1]; exact h4, by rw [p2]; exact h5, by omega⟩, by simp only [any.L0.mu]; omega, fun _ => ⟨trivial, ?_⟩, trivial⟩
    rw [show (n - i).toNat = (n - (i + 1)).toNat + 1 by omega]
    rfl
  · rw [show (n - i).toNat = 0 by omega]
    exact ⟨trivial, rfl⟩
theorem any.L0.lp   : LpAt Tryd.prog 14 0 any.L0 := lp_evalH (l := []) (lf := 1000) (fun _ => cfOf_ok (fns_cons put.fn (fns_nil _))) (lps_nil _ _) (by kernel_rfl) _ (any.L0.mu ) (fun ⟨r, u, z, n, g, i⟩ hx => Hid.of (any.L0.eq  r u z n g i) (any.L0.ok  r u z n g i hx))
noncomputable def any.L2  : LFace := ⟨[1, 2, 3, 5, 6, 8], [.p RAW, .box 28 [.un, .un, .un], .clo 33 [], .v (.int .i64), .box 28 [.row .str 9, .row .str 9, .row PR 53], .v (.int .i64)], fun (r, u, z, n, g, i) => some (0 ≤ i ∧ i ≤ 5 ∧ 1 ≤ n ∧ n ≤ 9 ∧ 1 ≤ g.1.length ∧ g.1.length ≤ 99 ∧ g.2.1.length ≤ 99 ∧ g.2.2.length ≤ 20 + i.toNat),
  [⟨.normal, [2, 6], [.box 28 [.un, .un, .un], .box 28 [.row .str 9, .row .str 9, .row PR 53]], fun (r, u, z, n, g, i) => (u, puts2 n i g ((r.2.2.2.2.1.take 5).drop i.toNat)), fun (r, u, z, n, g, i) => none⟩]⟩
noncomputable def any.L2.mu  : dens any.L2.sh → Nat := fun (r, u, z, n, g, i) => (5 - i).toNat
noncomputable def any.L2.g  (r : Int × Int × Int × Int × List (List Int) × ByteArray) (u : Unit × Unit × Unit) (z : Unit) (n : Int) (g : List ByteArray × List ByteArray × List (Int × List Int)) (i : Int) : Prop := GoodLA Tryd.prog (cfOf [within, put]) [] 1000 14 2 any.L2 any.L2.mu (r, u, z, n, g, i)
noncomputable def any.L2.q3 (r : Int × Int × Int × Int × List (List Int) × ByteArray) (i : Int) : Prop := (True ∧ List.length r.2.2.2.2.1 ≤ (9223372036854775807 : Nat)) ∧ decide (i < (↑(List.length r.2.2.2.2.1) : Int)) = true
noncomputable def any.L2.q0 (r : Int × Int × Int × Int × List (List Int) × ByteArray) (i : Int) : Prop := (((any.L2.q3 r i) ∧ decide (i < (5 : Int)) = true) ∧ (0 : Int) ≤ i ∧ i < (↑(List.length r.2.2.2.2.1) : Int)) ∧ (List.getD r.2.2.2.2.1 i.toNat []).length ≤ (9223372036854775807 : Nat)
noncomputable def any.L2.q1 (r : Int × Int × Int × Int × List (List Int) × ByteArray) (i : Int) : Prop := (((any.L2.q0 r i) ∧ decide ((↑(List.getD r.2.2.2.2.1 i.toNat []).length : Int) > (0 : Int)) = true) ∧ (0 : Int) ≤ i ∧ i < (↑(List.length r.2.2.2.2.1) : Int)) ∧ (0 : Int) ≤ (0 : Int) ∧ (0 : Int) < (↑(List.getD r.2.2.2.2.1 i.toNat []).length : Int)
noncomputable def any.L2.q2 (r : Int × Int × Int × Int × List (List Int) × ByteArray) (i : Int) : Prop := ((any.L2.q0 r i) ∧ decide ((↑(List.getD r.2.2.2.2.1 i.toNat []).length : Int) > (0 : Int)) = false) ∧ (0 : Int) ≤ i ∧ i < (↑(List.length r.2.2.2.2.1) : Int)
noncomputable def any.L2.T (r : Int × Int × Int × Int × List (List Int) × ByteArray) (u : Unit × Unit × Unit) (z : Unit) (n : Int) (g : List ByteArray × List ByteArray × List (Int × List Int)) (i : Int) : Prop := ((any.L2.q1 r i) ∧ ¬((0 : Int) ≤ i ∧ i < (↑(List.length r.2.2.2.2.1) : Int)) → False) ∧ (((any.L2.q1 r i) ∧ (0 : Int) ≤ i ∧ i < (↑(List.length r.2.2.2.2.1) : Int)) ∧ ¬((0 : Int) < n ∧ n ≤ (9223372036854775807 : Int)) → False) ∧ ((((any.L2.q1 r i) ∧ (0 : Int) ≤ i ∧ i < (↑(List.length r.2.2.2.2.1) : Int)) ∧ (0 : Int) < n ∧ n ≤ (9223372036854775807 : Int)) ∧ ¬((1 : Nat) ≤ List.length g.1 ∧ List.length g.1 ≤ (99 : Nat) ∧ List.length g.2.1 ≤ (99 : Nat) ∧ List.length g.2.2 ≤ (99 : Nat)) → False) ∧ ((((any.L2.q1 r i) ∧ (0 : Int) ≤ i ∧ i < (↑(List.length r.2.2.2.2.1) : Int)) ∧ (0 : Int) < n ∧ n ≤ (9223372036854775807 : Int)) ∧ (1 : Nat) ≤ List.length g.1 ∧ List.length g.1 ≤ (99 : Nat) ∧ List.length g.2.1 ≤ (99 : Nat) ∧ List.length g.2.2 ≤ (99 : Nat) → ((0 : Int) ≤ IntKind.i64.wrap (i + (1 : Int)) ∧ IntKind.i64.wrap (i + (1 : Int)) ≤ (5 : Int) ∧ (1 : Int) ≤ n ∧ n ≤ (9 : Int) ∧ (1 : Nat) ≤ List.length (putS g (IntKind.i64.wrap ((100 : Int) + IntKind.i64.wrap (((List.getD r.2.2.2.2.1 i.toNat []).getD (Int.toNat (0 : Int)) (0 : Int)).tdiv (16 : Int)) % n)) (List.getD r.2.2.2.2.1 i.toNat [])).1 ∧ List.length (putS g (IntKind.i64.wrap ((100 : Int) + IntKind.i64.wrap (((List.getD r.2.2.2.2.1 i.toNat []).getD (Int.toNat (0 : Int)) (0 : Int)).tdiv (16 : Int)) % n)) (List.getD r.2.2.2.2.1 i.toNat [])).1 ≤ (99 : Nat) ∧ List.length (putS g (IntKind.i64.wrap ((100 : Int) + IntKind.i64.wrap (((List.getD r.2.2.2.2.1 i.toNat []).getD (Int.toNat (0 : Int)) (0 : Int)).tdiv (16 : Int)) % n)) (List.getD r.2.2.2.2.1 i.toNat [])).2.1 ≤ (99 : Nat) ∧ List.length (putS g (IntKind.i64.wrap ((100 : Int) + IntKind.i64.wrap (((List.getD r.2.2.2.2.1 i.toNat []).getD (Int.toNat (0 : Int)) (0 : Int)).tdiv (16 : Int)) % n)) (List.getD r.2.2.2.2.1 i.toNat [])).2.2 ≤ (20 : Nat) + (IntKind.i64.wrap (i + (1 : Int))).toNat) ∧ any.L2.mu (r, ((), (), ()), (), n, putS g (IntKind.i64.wrap ((100 : Int) + IntKind.i64.wrap (((List.getD r.2.2.2.2.1 i.toNat []).getD (Int.toNat (0 : Int)) (0 : Int)).tdiv (16 : Int)) % n)) (List.getD r.2.2.2.2.1 i.toNat []), IntKind.i64.wrap (i + (1 : Int))) < any.L2.mu (r, u, z, n, g, i) ∧ (True → True ∧ (((), (), ()), puts2 n (IntKind.i64.wrap (i + (1 : Int))) (putS g (IntKind.i64.wrap ((100 : Int) + IntKind.i64.wrap (((List.getD r.2.2.2.2.1 i.toNat []).getD (Int.toNat (0 : Int)) (0 : Int)).tdiv (16 : Int)) % n)) (List.getD r.2.2.2.2.1 i.toNat [])) (List.drop (IntKind.i64.wrap (i + (1 : Int))).toNat (List.take (5 : Nat) r.2.2.2.2.1))) = (u, puts2 n i g (List.drop i.toNat (List.take (5 : Nat) r.2.2.2.2.1)))) ∧ True) ∧ ((((any.L2.q0 r i) ∧ decide ((↑(List.getD r.2.2.2.2.1 i.toNat []).length : Int) > (0 : Int)) = true) ∧ (0 : Int) ≤ i ∧ i < (↑(List.length r.2.2.2.2.1) : Int)) ∧ ¬((0 : Int) ≤ (0 : Int) ∧ (0 : Int) < (↑(List.getD r.2.2.2.2.1 i.toNat []).length : Int)) → False) ∧ (((any.L2.q0 r i) ∧ decide ((↑(List.getD r.2.2.2.2.1 i.toNat []).length : Int) > (0 : Int)) = true) ∧ ¬((0 : Int) ≤ i ∧ i < (↑(List.length r.2.2.2.2.1) : Int)) → False) ∧ (((any.L2.q0 r i) ∧ decide ((↑(List.getD r.2.2.2.2.1 i.toNat []).length : Int) > (0 : Int)) = false) ∧ ¬((0 : Int) ≤ i ∧ i < (↑(List.length r.2.2.2.2.1) : Int)) → False) ∧ ((any.L2.q2 r i) ∧ ¬((0 : Int) < n ∧ n ≤ (9223372036854775807 : Int)) → False) ∧ (((any.L2.q2 r i) ∧ (0 : Int) < n ∧ n ≤ (9223372036854775807 : Int)) ∧ ¬((1 : Nat) ≤ List.length g.1 ∧ List.length g.1 ≤ (99 : Nat) ∧ List.length g.2.1 ≤ (99 : Nat) ∧ List.length g.2.2 ≤ (99 : Nat)) → False) ∧ (((any.L2.q2 r i) ∧ (0 : Int) < n ∧ n ≤ (9223372036854775807 : Int)) ∧ (1 : Nat) ≤ List.length g.1 ∧ List.length g.1 ≤ (99 : Nat) ∧ List.length g.2.1 ≤ (99 : Nat) ∧ List.length g.2.2 ≤ (99 : Nat) → ((0 : Int) ≤ IntKind.i64.wrap (i + (1 : Int)) ∧ IntKind.i64.wrap (i + (1 : Int)) ≤ (5 : Int) ∧ (1 : Int) ≤ n ∧ n ≤ (9 : Int) ∧ (1 : Nat) ≤ List.length (putS g (IntKind.i64.wrap ((100 : Int) + i % n)) (List.getD r.2.2.2.2.1 i.toNat [])).1 ∧ List.length (putS g (IntKind.i64.wrap ((100 : Int) + i % n)) (List.getD r.2.2.2.2.1 i.toNat [])).1 ≤ (99 : Nat) ∧ List.length (putS g (IntKind.i64.wrap ((100 : Int) + i % n)) (List.getD r.2.2.2.2.1 i.toNat [])).2.1 ≤ (99 : Nat) ∧ List.length (putS g (IntKind.i64.wrap ((100 : Int) + i % n)) (List.getD r.2.2.2.2.1 i.toNat [])).2.2 ≤ (20 : Nat) + (IntKind.i64.wrap (i + (1 : Int))).toNat) ∧ any.L2.mu (r, ((), (), ()), (), n, putS g (IntKind.i64.wrap ((100 : Int) + i % n)) (List.getD r.2.2.2.2.1 i.toNat []), IntKind.i64.wrap (i + (1 : Int))) < any.L2.mu (r, u, z, n, g, i) ∧ (True → True ∧ (((), (), ()), puts2 n (IntKind.i64.wrap (i + (1 : Int))) (putS g (IntKind.i64.wrap ((100 : Int) + i % n)) (List.getD r.2.2.2.2.1 i.toNat [])) (List.drop (IntKind.i64.wrap (i + (1 : Int))).toNat (List.take (5 : Nat) r.2.2.2.2.1))) = (u, puts2 n i g (List.drop i.toNat (List.take (5 : Nat) r.2.2.2.2.1)))) ∧ True) ∧ (((any.L2.q3 r i) ∧ decide (i < (5 : Int)) = true) ∧ ¬((0 : Int) ≤ i ∧ i < (↑(List.length r.2.2.2.2.1) : Int)) → False) ∧ ((any.L2.q3 r i) ∧ decide (i < (5 : Int)) = false → True ∧ (((), (), ()), g) = (u, puts2 n i g (List.drop i.toNat (List.take (5 : Nat) r.2.2.2.2.1)))) ∧ ((True ∧ List.length r.2.2.2.2.1 ≤ (9223372036854775807 : Nat)) ∧ decide (i < (↑(List.length r.2.2.2.2.1) : Int)) = false → True ∧ (((), (), ()), g) = (u, puts2 n i g (List.drop i.toNat (List.take (5 : Nat) r.2.2.2.2.1)))) ∧ (True)
theorem any.L2.eq  (r : Int × Int × Int × Int × List (List Int) × ByteArray) (u : Unit × Unit × Unit) (z : Unit) (n : Int) (g : List ByteArray × List ByteArray × List (Int × List Int)) (i : Int) : any.L2.g  r u z n g i = any.L2.T  r u z n g i := by kernel_rfl
theorem any.L2.ok  (r : Int × Int × Int × Int × List (List Int) × ByteArray) (u : Unit × Unit × Unit) (z : Unit) (n : Int) (g : List ByteArray × List ByteArray × List (Int × List Int)) (i : Int) (hx : 0 ≤ i ∧ i ≤ 5 ∧ 1 ≤ n ∧ n ≤ 9 ∧ 1 ≤ g.1.length ∧ g.1.length ≤ 99 ∧ g.2.1.length ≤ 99 ∧ g.2.2.length ≤ 20 + i.toNat) : any.L2.T  r u z n g i := by
  obtain ⟨h0, h1, hn, h2, h3, h4, h5, h6⟩ := hx
  delta any.L2.T any.L2.q3 any.L2.q0 any.L2.q1 any.L2.q2
  rw [wrapI64 (x := i + 1) (by omega) (by omega)]
  have hD : i < 5 → i < (r.2.2.2.2.1.length : Int) → (r.2.2.2.2.1.take 5).drop i.toNat = r.2.2.2.2.1.getD i.toNat [] :: (r.2.2.2.2.1.take 5).drop (i + 1).toNat := fun ha hb => by
    rw [drop_int [] h0 (by simp; omega), take_getD (by omega)]
  have hL : ∀ v : Int, IntKind.i64.wrap (100 + v % n) = 100 + v % n := fun v => by
    have := Int.emod_nonneg v (show n ≠ 0 by omega)
    have := Int.emod_lt_of_pos v (show 0 < n by omega)
    exact wrapI64 (by omega) (by omega)
  simp only [hL]
  have hP := fun l => putS_len g (100 + l % n) (r.2.2.2.2.1.getD i.toNat [])
  ((repeat' (first | exact trivial | apply And.intro)) <;> (intro hw; (try (simp only [true_and, and_true, decide_eq_true_eq, decide_eq_false_iff_not, beq_iff_eq, bne_iff_ne, beq_eq_false_iff_ne, bne_eq_false_iff_eq, ne_eq, Bool.not_eq_true, Bool.not_eq_false, not_true_eq_false, not_false_eq_true, Bool.not_eq_eq_eq_not, Bool.not_true, Bool.not_false, forall_const, imp_self, Bool.true_eq_false, Bool.false_eq_true, reduceCtorEq] at hw)); (try first | (exfalso; omega) | exact ⟨trivial, rfl⟩ | exact (hw hx).elim | exact (hw.2 hx).elim)))
  · obtain ⟨p1, p2, p3⟩ := hP (IntKind.i64.wrap (((r.2.2.2.2.1.getD i.toNat []).getD (Int.toNat 0) 0).tdiv 16))
    rw [hD (by omega) (by omega), puts2, leftS, if_pos (by omega)]
    refine ⟨⟨by omega, by omega, hn, h2, by rw [p1]; exact h3, by rw [p1]; exact h4, by rw [p2]; exact h5, by omega⟩, by simp only [any.L2.mu]; omega, fun _ => ⟨trivial, rfl⟩, trivial⟩
  · obtain ⟨p1, p2, p3⟩ := hP i
    rw [hD (by omega) (by omega), puts2, leftS, if_neg (by omega)]
    refine ⟨⟨by omega, by omega, hn, h2, by rw [p1]; exact h3, by rw [p1]; exact h4, by rw [p2]; exact h5, by omega⟩, by simp only [any.L2.mu]; omega, fun _ => ⟨trivial, rfl⟩, trivial⟩
  all_goals
    rw [List.drop_eq_nil_of_le (by simp; omega), puts2]
    exact ⟨trivial, rfl⟩
theorem any.L2.lp   : LpAt Tryd.prog 14 2 any.L2 := lp_evalH (l := []) (lf := 1000) (fun _ => cfOf_ok (fns_cons within.fn (fns_cons put.fn (fns_nil _)))) (lps_nil _ _) (by kernel_rfl) _ (any.L2.mu ) (fun ⟨r, u, z, n, g, i⟩ hx => Hid.of (any.L2.eq  r u z n g i) (any.L2.ok  r u z n g i hx))
def bA : ByteArray := ⟨#[97]⟩
def bB : ByteArray := ⟨#[98]⟩
def bC : ByteArray := ⟨#[99]⟩
def bS : ByteArray := ⟨#[83]⟩
def bUA : ByteArray := ⟨#[65]⟩
def bUB : ByteArray := ⟨#[66]⟩
abbrev Raw : Type := Int × Int × Int × Int × List (List Int) × ByteArray
def anyS (r : Raw) : Gr := puts2 (1 + r.2.2.1 % 3) 0 (puts1 (1 + r.2.2.1 % 3).toNat 0 ([bA, bB, bC].take (1 + r.2.1 % 3).toNat, [bS, bUA, bUB].take (1 + r.2.2.1 % 3).toNat, [])) (r.2.2.2.2.1.take 5)
noncomputable def any.R3  : LFace := ⟨[1, 2, 3, 4, 5], [.p RAW, .box 28 [.un, .un, .un], .clo 33 [], .v (.int .i64), .v (.int .i64)], fun (r, u, z, t, n) => some (0 ≤ t ∧ t ≤ 3 ∧ 0 ≤ n ∧ n ≤ 3),
  [⟨.normal, [1, 2, 3, 5, 6], [.p RAW, .box 28 [.un, .un, .un], .clo 33 [], .v (.int .i64), .box 28 [.v (.sl .str), .v (.sl .str), .row PR 53]], fun (r, u, z, t, n) => (r, u, z, n, [bA, bB, bC].take t.toNat, [bS, bUA, bUB].take n.toNat, []), fun (r, u, z, t, n) => none⟩]⟩
noncomputable def any.R3.g  (r : Int × Int × Int × Int × List (List Int) × ByteArray) (u : Unit × Unit × Unit) (z : Unit) (t : Int) (n : Int) : Prop := GoodPA Tryd.prog (cfOf []) [] 1000 14 1000003 any.R3 (r, u, z, t, n)
noncomputable def any.R3.q0 (r : Int × Int × Int × Int × List (List Int) × ByteArray) (u : Unit × Unit × Unit) (t : Int) (n : Int) : Prop := (True ∧ (0 : Int) ≤ (0 : Int) ∧ (0 : Int) ≤ t ∧ t ≤ (↑(3 : Nat) : Int)) ∧ (0 : Int) ≤ (0 : Int) ∧ (0 : Int) ≤ n ∧ n ≤ (↑(3 : Nat) : Int) → True ∧ (r, ((), (), ()), (), n, List.drop (Int.toNat (0 : Int)) (List.take t.toNat [ByteArray.mk #[(97 : UInt8)], ByteArray.mk #[(98 : UInt8)], ByteArray.mk #[(99 : UInt8)]]), List.drop (Int.toNat (0 : Int)) (List.take n.toNat [ByteArray.mk #[(83 : UInt8)], ByteArray.mk #[(65 : UInt8)], ByteArray.mk #[(66 : UInt8)]]), ([] : List (Int × List Int))) = (r, u, (), n, List.take t.toNat [bA, bB, bC], List.take n.toNat [bS, bUA, bUB], ([] : List (Int × List Int)))
noncomputable def any.R3.q1 (r : Int × Int × Int × Int × List (List Int) × ByteArray) (u : Unit × Unit × Unit) (t : Int) (n : Int) : Prop := (True ∧ (0 : Int) ≤ (0 : Int) ∧ (0 : Int) ≤ n ∧ n ≤ (↑(3 : Nat) : Int)) ∧ (0 : Int) ≤ (0 : Int) ∧ (0 : Int) ≤ t ∧ t ≤ (↑(3 : Nat) : Int) → True ∧ (r, ((), (), ()), (), n, List.drop (Int.toNat (0 : Int)) (List.take t.toNat [ByteArray.mk #[(97 : UInt8)], ByteArray.mk #[(98 : UInt8)], ByteArray.mk #[(99 : UInt8)]]), List.drop (Int.toNat (0 : Int)) (List.take n.toNat [ByteArray.mk #[(83 : UInt8)], ByteArray.mk #[(65 : UInt8)], ByteArray.mk #[(66 : UInt8)]]), ([] : List (Int × List Int))) = (r, u, (), n, List.take t.toNat [bA, bB, bC], List.take n.toNat [bS, bUA, bUB], ([] : List (Int × List Int)))
noncomputable def any.R3.q2 (t : Int) (n : Int) : Prop := (True ∧ (0 : Int) ≤ (0 : Int) ∧ (0 : Int) ≤ t ∧ t ≤ (↑(3 : Nat) : Int)) ∧ ¬((0 : Int) ≤ (0 : Int) ∧ (0 : Int) ≤ n ∧ n ≤ (↑(3 : Nat) : Int)) → False
noncomputable def any.R3.q3 (t : Int) (n : Int) : Prop := (True ∧ (0 : Int) ≤ (0 : Int) ∧ (0 : Int) ≤ n ∧ n ≤ (↑(3 : Nat) : Int)) ∧ ¬((0 : Int) ≤ (0 : Int) ∧ (0 : Int) ≤ t ∧ t ≤ (↑(3 : Nat) : Int)) → False
noncomputable def any.R3.q4 (t : Int) : Prop := True ∧ ¬((0 : Int) ≤ (0 : Int) ∧ (0 : Int) ≤ t ∧ t ≤ (↑(3 : Nat) : Int)) → False
noncomputable def any.R3.q5 (n : Int) : Prop := True ∧ ¬((0 : Int) ≤ (0 : Int) ∧ (0 : Int) ≤ n ∧ n ≤ (↑(3 : Nat) : Int)) → False
noncomputable def any.R3.T (r : Int × Int × Int × Int × List (List Int) × ByteArray) (u : Unit × Unit × Unit) (z : Unit) (t : Int) (n : Int) : Prop := (any.R3.q0 r u t n) ∧ (any.R3.q2 t n) ∧ (any.R3.q0 r u t n) ∧ (any.R3.q2 t n) ∧ (any.R3.q0 r u t n) ∧ (any.R3.q2 t n) ∧ (any.R3.q4 t) ∧ (any.R3.q0 r u t n) ∧ (any.R3.q2 t n) ∧ (any.R3.q0 r u t n) ∧ (any.R3.q2 t n) ∧ (any.R3.q4 t) ∧ (any.R3.q1 r u t n) ∧ (any.R3.q3 t n) ∧ (any.R3.q1 r u t n) ∧ (any.R3.q3 t n) ∧ (any.R3.q5 n) ∧ (any.R3.q0 r u t n) ∧ (any.R3.q2 t n) ∧ (any.R3.q4 t) ∧ (any.R3.q1 r u t n) ∧ (any.R3.q3 t n) ∧ (any.R3.q5 n) ∧ (any.R3.q0 r u t n) ∧ (any.R3.q2 t n) ∧ (any.R3.q4 t) ∧ (any.R3.q0 r u t n) ∧ (any.R3.q2 t n) ∧ (any.R3.q4 t) ∧ (any.R3.q1 r u t n) ∧ (any.R3.q3 t n) ∧ (any.R3.q5 n) ∧ (any.R3.q0 r u t n) ∧ (any.R3.q2 t n) ∧ (any.R3.q0 r u t n) ∧ (any.R3.q2 t n) ∧ (any.R3.q4 t) ∧ (any.R3.q1 r u t n) ∧ (any.R3.q3 t n) ∧ (any.R3.q1 r u t n) ∧ (any.R3.q3 t n) ∧ (any.R3.q5 n) ∧ (any.R3.q0 r u t n) ∧ (any.R3.q2 t n) ∧ (any.R3.q4 t) ∧ (any.R3.q1 r u t n) ∧ (any.R3.q3 t n) ∧ (any.R3.q5 n) ∧ (any.R3.q1 r u t n) ∧ (any.R3.q3 t n) ∧ (any.R3.q1 r u t n) ∧ (any.R3.q3 t n) ∧ (any.R3.q1 r u t n) ∧ (any.R3.q3 t n) ∧ (any.R3.q5 n) ∧ (any.R3.q0 r u t n) ∧ (any.R3.q2 t n) ∧ (any.R3.q4 t) ∧ (any.R3.q1 r u t n) ∧ (any.R3.q3 t n) ∧ (any.R3.q5 n) ∧ (any.R3.q1 r u t n) ∧ (any.R3.q3 t n) ∧ (any.R3.q5 n) ∧ (any.R3.q0 r u t n) ∧ (any.R3.q2 t n) ∧ (any.R3.q4 t) ∧ (any.R3.q0 r u t n) ∧ (any.R3.q2 t n) ∧ (any.R3.q4 t) ∧ (any.R3.q1 r u t n) ∧ (any.R3.q3 t n) ∧ (any.R3.q5 n) ∧ (any.R3.q0 r u t n) ∧ (any.R3.q2 t n) ∧ (any.R3.q4 t) ∧ (any.R3.q1 r u t n) ∧ (any.R3.q3 t n) ∧ (any.R3.q5 n) ∧ (any.R3.q1 r u t n) ∧ (any.R3.q3 t n) ∧ (any.R3.q5 n) ∧ (True)
theorem any.R3.eq  (r : Int × Int × Int × Int × List (List Int) × ByteArray) (u : Unit × Unit × Unit) (z : Unit) (t : Int) (n : Int) : any.R3.g  r u z t n = any.R3.T  r u z t n := by kernel_rfl
theorem any.R3.ok  (r : Int × Int × Int × Int × List (List Int) × ByteArray) (u : Unit × Unit × Unit) (z : Unit) (t : Int) (n : Int) (hx : 0 ≤ t ∧ t ≤ 3 ∧ 0 ≤ n ∧ n ≤ 3) : any.R3.T  r u z t n := by
  delta any.R3.T any.R3.q0 any.R3.q1 any.R3.q2 any.R3.q3 any.R3.q4 any.R3.q5
  obtain ⟨h1, h2, h3, h4⟩ := hx
  ((repeat' (first | exact trivial | apply And.intro)) <;> (intro hw; (try (simp only [true_and, and_true, decide_eq_true_eq, decide_eq_false_iff_not, beq_iff_eq, bne_iff_ne, beq_eq_false_iff_ne, bne_eq_false_iff_eq, ne_eq, Bool.not_eq_true, Bool.not_eq_false, not_true_eq_false, not_false_eq_true, Bool.not_eq_eq_eq_not, Bool.not_true, Bool.not_false, forall_const, imp_self, Bool.true_eq_false, Bool.false_eq_true, reduceCtorEq] at hw)); (try first | (exfalso; omega) | exact ⟨trivial, rfl⟩ | exact (hw hx).elim | exact (hw.2 hx).elim)))
theorem any.R3.lp   : LpAt Tryd.prog 14 1000003 any.R3 := pc_evalH (l := []) (lf := 1000) (fun _ => cfOf_ok (fns_nil _)) (lps_nil _ _) (by kernel_rfl) _ (fun ⟨r, u, z, t, n⟩ hx => Hid.of (any.R3.eq  r u z t n) (any.R3.ok  r u z t n hx))
theorem puts1_len : ∀ (n : Nat) (i : Int) (g : Gr), (puts1 n i g).1 = g.1 ∧ (puts1 n i g).2.1 = g.2.1 ∧ (puts1 n i g).2.2.length ≤ g.2.2.length + n
  | 0, _, g => ⟨rfl, rfl, Nat.le_refl _⟩
  | n + 1, i, g => by
    obtain ⟨h1, h2, h3⟩ := puts1_len n (i + 1) (putS g (100 + i) [i])
    obtain ⟨p1, p2, p3⟩ := putS_len g (100 + i) [i]
    exact ⟨h1.trans p1, h2.trans p2, by rw [puts1]; omega⟩
noncomputable def any  : Face := ⟨14, [.v RAW], fun r => none,
  [⟨false, [.st [.row .str 9, .row .str 9, .row PR 53]], fun r => anyS r, fun r => none⟩]⟩
noncomputable def any.g  (r : Int × Int × Int × Int × List (List Int) × ByteArray) : Prop := GoodFA Tryd.prog (cfOf [within]) [(1000003, any.R3), (0, any.L0), (2, any.L2)] 1000 any r
noncomputable def any.q3 : Prop := (True ∧ (0 : Int) < (3 : Int) ∧ (3 : Int) ≤ (9223372036854775807 : Int)) ∧ (0 : Int) < (3 : Int) ∧ (3 : Int) ≤ (9223372036854775807 : Int)
noncomputable def any.q0 (r : Int × Int × Int × Int × List (List Int) × ByteArray) : Prop := any.q3 ∧ (0 : Int) ≤ IntKind.i64.wrap ((1 : Int) + r.2.1 % (3 : Int)) ∧ IntKind.i64.wrap ((1 : Int) + r.2.1 % (3 : Int)) ≤ (3 : Int) ∧ (0 : Int) ≤ IntKind.i64.wrap ((1 : Int) + r.2.2.1 % (3 : Int)) ∧ IntKind.i64.wrap ((1 : Int) + r.2.2.1 % (3 : Int)) ≤ (3 : Int)
noncomputable def any.q4 (r : Int × Int × Int × Int × List (List Int) × ByteArray) : Prop := (any.q0 r) ∧ (List.take (IntKind.i64.wrap ((1 : Int) + r.2.1 % (3 : Int))).toNat [bA, bB, bC]).length * (16 : Nat) ≤ (140737488355328 : Nat)
noncomputable def any.q2 (r : Int × Int × Int × Int × List (List Int) × ByteArray) : Prop := (any.q4 r) ∧ (List.take (IntKind.i64.wrap ((1 : Int) + r.2.2.1 % (3 : Int))).toNat [bS, bUA, bUB]).length * (16 : Nat) ≤ (140737488355328 : Nat)
noncomputable def any.q1 (r : Int × Int × Int × Int × List (List Int) × ByteArray) : Prop := (any.q2 r) ∧ (0 : Int) ≤ (0 : Int) ∧ (0 : Int) ≤ IntKind.i64.wrap ((1 : Int) + r.2.2.1 % (3 : Int)) ∧ IntKind.i64.wrap ((1 : Int) + r.2.2.1 % (3 : Int)) ≤ (9 : Int) ∧ (1 : Nat) ≤ (List.take (IntKind.i64.wrap ((1 : Int) + r.2.1 % (3 : Int))).toNat [bA, bB, bC]).length ∧ (List.take (IntKind.i64.wrap ((1 : Int) + r.2.1 % (3 : Int))).toNat [bA, bB, bC]).length ≤ (99 : Nat) ∧ (List.take (IntKind.i64.wrap ((1 : Int) + r.2.2.1 % (3 : Int))).toNat [bS, bUA, bUB]).length ≤ (99 : Nat) ∧ (0 : Nat) ≤ Int.toNat (0 : Int)
noncomputable def any.T (r : Int × Int × Int × Int × List (List Int) × ByteArray) : Prop := (True ∧ ¬((0 : Int) < (3 : Int) ∧ (3 : Int) ≤ (9223372036854775807 : Int)) → False) ∧ ((True ∧ (0 : Int) < (3 : Int) ∧ (3 : Int) ≤ (9223372036854775807 : Int)) ∧ ¬((0 : Int) < (3 : Int) ∧ (3 : Int) ≤ (9223372036854775807 : Int)) → False) ∧ (any.q3 ∧ ¬((0 : Int) ≤ IntKind.i64.wrap ((1 : Int) + r.2.1 % (3 : Int)) ∧ IntKind.i64.wrap ((1 : Int) + r.2.1 % (3 : Int)) ≤ (3 : Int) ∧ (0 : Int) ≤ IntKind.i64.wrap ((1 : Int) + r.2.2.1 % (3 : Int)) ∧ IntKind.i64.wrap ((1 : Int) + r.2.2.1 % (3 : Int)) ≤ (3 : Int)) → False) ∧ ((any.q2 r) ∧ ¬((0 : Int) ≤ (0 : Int) ∧ (0 : Int) ≤ IntKind.i64.wrap ((1 : Int) + r.2.2.1 % (3 : Int)) ∧ IntKind.i64.wrap ((1 : Int) + r.2.2.1 % (3 : Int)) ≤ (9 : Int) ∧ (1 : Nat) ≤ (List.take (IntKind.i64.wrap ((1 : Int) + r.2.1 % (3 : Int))).toNat [bA, bB, bC]).length ∧ (List.take (IntKind.i64.wrap ((1 : Int) + r.2.1 % (3 : Int))).toNat [bA, bB, bC]).length ≤ (99 : Nat) ∧ (List.take (IntKind.i64.wrap ((1 : Int) + r.2.2.1 % (3 : Int))).toNat [bS, bUA, bUB]).length ≤ (99 : Nat) ∧ (0 : Nat) ≤ Int.toNat (0 : Int)) → False) ∧ ((any.q1 r) ∧ ¬((0 : Int) ≤ (0 : Int) ∧ (0 : Int) ≤ (5 : Int) ∧ (1 : Int) ≤ IntKind.i64.wrap ((1 : Int) + r.2.2.1 % (3 : Int)) ∧ IntKind.i64.wrap ((1 : Int) + r.2.2.1 % (3 : Int)) ≤ (9 : Int) ∧ (1 : Nat) ≤ List.length (puts1 (IntKind.i64.wrap ((1 : Int) + r.2.2.1 % (3 : Int)) - (0 : Int)).toNat (0 : Int) (List.take (IntKind.i64.wrap ((1 : Int) + r.2.1 % (3 : Int))).toNat [bA, bB, bC], List.take (IntKind.i64.wrap ((1 : Int) + r.2.2.1 % (3 : Int))).toNat [bS, bUA, bUB], ([] : List (Int × List Int)))).1 ∧ List.length (puts1 (IntKind.i64.wrap ((1 : Int) + r.2.2.1 % (3 : Int)) - (0 : Int)).toNat (0 : Int) (List.take (IntKind.i64.wrap ((1 : Int) + r.2.1 % (3 : Int))).toNat [bA, bB, bC], List.take (IntKind.i64.wrap ((1 : Int) + r.2.2.1 % (3 : Int))).toNat [bS, bUA, bUB], ([] : List (Int × List Int)))).1 ≤ (99 : Nat) ∧ List.length (puts1 (IntKind.i64.wrap ((1 : Int) + r.2.2.1 % (3 : Int)) - (0 : Int)).toNat (0 : Int) (List.take (IntKind.i64.wrap ((1 : Int) + r.2.1 % (3 : Int))).toNat [bA, bB, bC], List.take (IntKind.i64.wrap ((1 : Int) + r.2.2.1 % (3 : Int))).toNat [bS, bUA, bUB], ([] : List (Int × List Int)))).2.1 ≤ (99 : Nat) ∧ List.length (puts1 (IntKind.i64.wrap ((1 : Int) + r.2.2.1 % (3 : Int)) - (0 : Int)).toNat (0 : Int) (List.take (IntKind.i64.wrap ((1 : Int) + r.2.1 % (3 : Int))).toNat [bA, bB, bC], List.take (IntKind.i64.wrap ((1 : Int) + r.2.2.1 % (3 : Int))).toNat [bS, bUA, bUB], ([] : List (Int × List Int)))).2.2 ≤ (20 : Nat) + Int.toNat (0 : Int)) → False) ∧ ((any.q1 r) ∧ (0 : Int) ≤ (0 : Int) ∧ (0 : Int) ≤ (5 : Int) ∧ (1 : Int) ≤ IntKind.i64.wrap ((1 : Int) + r.2.2.1 % (3 : Int)) ∧ IntKind.i64.wrap ((1 : Int) + r.2.2.1 % (3 : Int)) ≤ (9 : Int) ∧ (1 : Nat) ≤ List.length (puts1 (IntKind.i64.wrap ((1 : Int) + r.2.2.1 % (3 : Int)) - (0 : Int)).toNat (0 : Int) (List.take (IntKind.i64.wrap ((1 : Int) + r.2.1 % (3 : Int))).toNat [bA, bB, bC], List.take (IntKind.i64.wrap ((1 : Int) + r.2.2.1 % (3 : Int))).toNat [bS, bUA, bUB], ([] : List (Int × List Int)))).1 ∧ List.length (puts1 (IntKind.i64.wrap ((1 : Int) + r.2.2.1 % (3 : Int)) - (0 : Int)).toNat (0 : Int) (List.take (IntKind.i64.wrap ((1 : Int) + r.2.1 % (3 : Int))).toNat [bA, bB, bC], List.take (IntKind.i64.wrap ((1 : Int) + r.2.2.1 % (3 : Int))).toNat [bS, bUA, bUB], ([] : List (Int × List Int)))).1 ≤ (99 : Nat) ∧ List.length (puts1 (IntKind.i64.wrap ((1 : Int) + r.2.2.1 % (3 : Int)) - (0 : Int)).toNat (0 : Int) (List.take (IntKind.i64.wrap ((1 : Int) + r.2.1 % (3 : Int))).toNat [bA, bB, bC], List.take (IntKind.i64.wrap ((1 : Int) + r.2.2.1 % (3 : Int))).toNat [bS, bUA, bUB], ([] : List (Int × List Int)))).2.1 ≤ (99 : Nat) ∧ List.length (puts1 (IntKind.i64.wrap ((1 : Int) + r.2.2.1 % (3 : Int)) - (0 : Int)).toNat (0 : Int) (List.take (IntKind.i64.wrap ((1 : Int) + r.2.1 % (3 : Int))).toNat [bA, bB, bC], List.take (IntKind.i64.wrap ((1 : Int) + r.2.2.1 % (3 : Int))).toNat [bS, bUA, bUB], ([] : List (Int × List Int)))).2.2 ≤ (20 : Nat) + Int.toNat (0 : Int) → True ∧ puts2 (IntKind.i64.wrap ((1 : Int) + r.2.2.1 % (3 : Int))) (0 : Int) (puts1 (IntKind.i64.wrap ((1 : Int) + r.2.2.1 % (3 : Int)) - (0 : Int)).toNat (0 : Int) (List.take (IntKind.i64.wrap ((1 : Int) + r.2.1 % (3 : Int))).toNat [bA, bB, bC], List.take (IntKind.i64.wrap ((1 : Int) + r.2.2.1 % (3 : Int))).toNat [bS, bUA, bUB], ([] : List (Int × List Int)))) (List.drop (Int.toNat (0 : Int)) (List.take (5 : Nat) r.2.2.2.2.1)) = anyS r) ∧ ((any.q4 r) ∧ ¬(List.take (IntKind.i64.wrap ((1 : Int) + r.2.2.1 % (3 : Int))).toNat [bS, bUA, bUB]).length * (16 : Nat) ≤ (140737488355328 : Nat) → False) ∧ ((any.q0 r) ∧ ¬(List.take (IntKind.i64.wrap ((1 : Int) + r.2.1 % (3 : Int))).toNat [bA, bB, bC]).length * (16 : Nat) ≤ (140737488355328 : Nat) → False) ∧ (True)
theorem any.eq  (r : Int × Int × Int × Int × List (List Int) × ByteArray) : any.g  r = any.T  r := by kernel_rfl
theorem any.ok  (r : Int × Int × Int × Int × List (List Int) × ByteArray) : any.T  r := by
  have e1 := Int.emod_nonneg r.2.1 (show (3 : Int) ≠ 0 by omega)
  have e2 := Int.emod_lt_of_pos r.2.1 (show (0 : Int) < 3 by omega)
  have e3 := Int.emod_nonneg r.2.2.1 (show (3 : Int) ≠ 0 by omega)
  have e4 := Int.emod_lt_of_pos r.2.2.1 (show (0 : Int) < 3 by omega)
  delta any.T any.q3 any.q0 any.q4 any.q2 any.q1
  rw [wrapI64 (x := 1 + r.2.1 % 3) (by omega) (by omega), wrapI64 (x := 1 + r.2.2.1 % 3) (by omega) (by omega)]
  simp only [Int.sub_zero, show Int.toNat 0 = 0 from rfl, List.drop_zero]
  rw [anyS]
  have hT : ([bA, bB, bC].take (1 + r.2.1 % 3).toNat).length = (1 + r.2.1 % 3).toNat := by rw [List.length_take]; show min _ 3 = _; omega
  have hN : ([bS, bUA, bUB].take (1 + r.2.2.1 % 3).toNat).length = (1 + r.2.2.1 % 3).toNat := by rw [List.length_take]; show min _ 3 = _; omega
  obtain ⟨p1, p2, p3⟩ := puts1_len (1 + r.2.2.1 % 3).toNat 0 ([bA, bB, bC].take (1 + r.2.1 % 3).toNat, [bS, bUA, bUB].take (1 + r.2.2.1 % 3).toNat, [])
  rw [p1, p2]
  generalize puts1 (1 + r.2.2.1 % 3).toNat 0 ([bA, bB, bC].take (1 + r.2.1 % 3).toNat, [bS, bUA, bUB].take (1 + r.2.2.1 % 3).toNat, []) = g at *
  simp only [hT, hN, List.length_nil] at *
  ((repeat' (first | exact trivial | apply And.intro)) <;> (intro hw; (try (simp only [true_and, and_true, decide_eq_true_eq, decide_eq_false_iff_not, beq_iff_eq, bne_iff_ne, beq_eq_false_iff_ne, bne_eq_false_iff_eq, ne_eq, Bool.not_eq_true, Bool.not_eq_false, not_true_eq_false, not_false_eq_true, Bool.not_eq_eq_eq_not, Bool.not_true, Bool.not_false, forall_const, imp_self, Bool.true_eq_false, Bool.false_eq_true, reduceCtorEq] at hw)); (try first | (exfalso; omega) | exact ⟨trivial, rfl⟩ | exact (hw hx).elim | exact (hw.2 hx).elim)))
  exact ⟨trivial, trivial⟩
theorem any.fn   : FnOk Tryd.prog any := fn_evalH (l := [(1000003, any.R3), (0, any.L0), (2, any.L2)]) (lf := 1000) (fun _ => cfOf_ok (fns_cons within.fn (fns_nil _))) _ (lps_cons (any.R3.lp) (lps_cons (any.L0.lp) (lps_cons (any.L2.lp) (lps_nil _ _)))) (by kernel_rfl) (fun r hx => Hid.of (any.eq  r) (any.ok  r))
end Go.Proofs.YtajnboigikdefaaDoor.D

namespace Go.Proofs.YtajnboigikdefaaDoor.D
open Go Go.EV Go.Proofs
set_option linter.unusedVariables false
set_option linter.unusedSimpArgs false
set_option maxRecDepth 100000
theorem hI_0 (n : Int) : hI 0 n = false := by
  unfold hI; rw [show Int.toNat 0 = 0 from rfl, Nat.zero_testBit, Bool.and_false]
theorem badS_mono {tm : Bool} {s t : Int} (h : subS s t) {n : Int} (hb : badS tm t n = true) : badS tm s n = true := by
  unfold badS at *
  split
  · rename_i hn; rw [if_pos hn] at hb; exact hb
  · rename_i hn
    rw [if_neg hn] at hb
    cases hs : hI s (n - 100) with
    | false => rfl
    | true => rw [h _ hs] at hb; cases hb
theorem allT_mono {tm : Bool} {s t : Int} (h : subS s t) {l : List Int} (ha : allT tm s l = true) : allT tm t l = true := by
  unfold allT at *
  rw [Bool.not_eq_true', List.any_eq_false] at *
  intro n hn hb
  exact ha n hn (badS_mono h hb)
def closed (tm : Bool) (l : List (Int × List Int)) (t : Int) : Prop := ∀ p ∈ l, allT tm t p.2 = true → hI t (p.1 - 100) = true
theorem round_least (tm : Bool) {t : Int} : ∀ (l : List (Int × List Int)) (s : Int), closed tm l t → subS s t → subS (roundS tm l s) t
  | [], s, _, h => h
  | p :: r, s, hc, h => by
    rw [roundS]
    apply round_least tm r _ (fun q hq => hc q (List.mem_cons_of_mem _ hq))
    split
    · rename_i hs
      unfold canS at hs
      rw [Bool.and_eq_true] at hs
      have h1 := hc p (List.mem_cons_self ..) (allT_mono h hs.2)
      intro n hn
      rw [hI_wI, Bool.or_eq_true, decide_eq_true_eq] at hn
      rcases hn with hn | hn
      · exact h n hn
      · rw [hn.1]; exact h1
    · exact h
theorem fixN_least (tm : Bool) {l : List (Int × List Int)} {t : Int} (hc : closed tm l t) : ∀ (k : Nat) (s : Int), subS s t → subS (fixN tm l k s) t
  | 0, s, h => h
  | k + 1, s, h => by
    rw [fixN]; split
    · exact fixN_least tm hc k _ (round_least tm l s hc h)
    · exact h
theorem fixN_closed (tm : Bool) {l : List (Int × List Int)} (hl : okL l) : ∀ (k : Nat) (s : Int), missing s < k → closed tm l (fixN tm l k s)
  | 0, s, h => by omega
  | k + 1, s, h => by
    rw [fixN]; split
    · rename_i hb
      have := round_less tm l s hl hb
      exact fixN_closed tm hl k _ (by omega)
    · rename_i hb
      obtain ⟨h1, h2⟩ := round_same tm l s (by simpa using hb)
      intro p hp ha
      have := h2 p hp
      unfold canS at this
      rw [ha, Bool.and_true, Bool.not_eq_false'] at this
      exact this
theorem fixN_sub (tm : Bool) (l : List (Int × List Int)) : ∀ (k : Nat) (s : Int), subS s (fixN tm l k s)
  | 0, s => fun n h => h
  | k + 1, s => by
    rw [fixN]; split
    · exact fun n h => fixN_sub tm l k _ n (sub_round tm l s n h)
    · exact fun n h => h
theorem fixS_closed (tm : Bool) {l : List (Int × List Int)} (hl : okL l) (s : Int) : closed tm l (fixS tm l s) := fixN_closed tm hl _ s (Nat.lt_succ_self _)
theorem fixS_least (tm : Bool) {l : List (Int × List Int)} {t : Int} (hc : closed tm l t) : subS (fixS tm l 0) t := fixN_least tm hc _ 0 (fun n h => by rw [hI_0] at h; cases h)
def comes (l : List (Int × List Int)) (t : Int) : Prop := ∀ p ∈ l, hI t (p.1 - 100) = true → ∀ n ∈ p.2, 100 ≤ n → hI t (n - 100) = true
theorem comeL_least {left t : Int} : ∀ (l : List Int) (s : Int), (hI t (left - 100) = true → ∀ n ∈ l, 100 ≤ n → hI t (n - 100) = true) → subS s t → subS (comeL left l s) t
  | [], s, _, h => h
  | m :: r, s, hc, h => by
    rw [comeL]
    apply comeL_least r _ (fun hh n hn => hc hh n (List.mem_cons_of_mem _ hn))
    split
    · rename_i hs
      rw [Bool.and_eq_true, decide_eq_true_eq] at hs
      have h1 := hc (h _ hs.1) m (List.mem_cons_self ..) hs.2
      intro n hn
      rw [hI_wI, Bool.or_eq_true, decide_eq_true_eq] at hn
      rcases hn with hn | hn
      · exact h n hn
      · rw [hn.1]; exact h1
    · exact h
theorem comeR_least {t : Int} : ∀ (l : List (Int × List Int)) (s : Int), comes l t → subS s t → subS (comeR l s) t
  | [], s, _, h => h
  | p :: r, s, hc, h => comeR_least r _ (fun q hq => hc q (List.mem_cons_of_mem _ hq)) (comeL_least p.2 s (hc p (List.mem_cons_self ..)) h)
theorem comeL_same {left : Int} : ∀ (l : List Int) (s t : Int), subS (comeL left l s) t → subS s t → (∀ n ∈ l, 100 ≤ n → n < 164 → hI s (left - 100) = true → hI t (n - 100) = true)
  | [], s, t, _, _ => fun n hn => by simp at hn
  | m :: r, s, t, h, hs => fun n hn h1 h3 h2 => by
    rw [comeL] at h
    rcases List.mem_cons.1 hn with e | hn
    · subst e
      rw [if_pos (by rw [h2, decide_eq_true h1]; rfl)] at h
      exact h _ (comeL_sub left r _ _ (by rw [hI_wI, decide_eq_true (show n - 100 = n - 100 ∧ 0 ≤ n - 100 ∧ n - 100 < 64 from ⟨rfl, by omega, by omega⟩), Bool.or_true]))
    · have hle : subS s (if (hI s (left - 100) && decide (100 ≤ m)) = true then wI s (m - 100) else s) := by
        split
        · exact sub_w _ _
        · exact fun n h => h
      exact comeL_same r _ t h (fun k hk => h k (comeL_sub left r _ k hk)) n hn h1 h3 (hle _ h2)
def smallR (l : List (Int × List Int)) : Prop := ∀ p ∈ l, ∀ n ∈ p.2, n < 164
theorem comeR_same : ∀ (l : List (Int × List Int)) (s t : Int), smallR l → subS (comeR l s) t → subS t s → comes l t
  | [], s, t, _, _, _ => fun p hp => by simp at hp
  | q :: r, s, t, hm, h, ht => fun p hp hl n hn h1 => by
    rw [comeR] at h
    have h2 : subS (comeL q.1 q.2 s) t := fun k hk => h k (comeR_sub r _ k hk)
    have h3 : subS s t := fun k hk => h2 k (comeL_sub q.1 q.2 s k hk)
    rcases List.mem_cons.1 hp with e | hp
    · subst e
      exact comeL_same p.2 s t h2 h3 n hn h1 (hm p (List.mem_cons_self ..) n hn) (ht _ hl)
    · exact comeR_same r (comeL q.1 q.2 s) t (fun p hp => hm p (List.mem_cons_of_mem _ hp)) h (fun k hk => comeL_sub q.1 q.2 s k (ht k hk)) p hp hl n hn h1
theorem comeN_closed {l : List (Int × List Int)} (hm : smallR l) : ∀ (k : Nat) (s : Int), okU s → missing s < k → comes l (comeN l k s)
  | 0, s, _, h => by omega
  | k + 1, s, hu, h => by
    rw [comeN]; split
    · rename_i e
      exact comeR_same l s s hm (by rw [e]; exact fun n h => h) (fun n h => h)
    · rename_i e
      have := missing_lt hu (comeR_ok l hu) (comeR_sub l s) (fun h => e h.symm)
      exact comeN_closed hm k _ (comeR_ok l hu) (by omega)
theorem comeN_sub (l : List (Int × List Int)) : ∀ (k : Nat) (s : Int), subS s (comeN l k s)
  | 0, s => fun n h => h
  | k + 1, s => by
    rw [comeN]; split
    · exact fun n h => h
    · exact fun n h => comeN_sub l k _ n (comeR_sub l s n h)
theorem comeN_least {l : List (Int × List Int)} {t : Int} (hc : comes l t) : ∀ (k : Nat) (s : Int), subS s t → subS (comeN l k s) t
  | 0, s, h => h
  | k + 1, s, h => by
    rw [comeN]; split
    · exact h
    · exact comeN_least hc k _ (comeR_least l s hc h)
theorem hI_ofI : ∀ (l : List Int) (s n : Int), hI (ofI l s) n = (hI s n || decide (n ∈ l ∧ 0 ≤ n ∧ n < 64))
  | [], s, n => by rw [ofI, decide_eq_false (fun h => by simp at h), Bool.or_false]
  | a :: r, s, n => by
    rw [ofI, hI_ofI r, hI_wI, Bool.or_assoc]
    congr 1
    rw [Bool.eq_iff_iff, Bool.or_eq_true, decide_eq_true_eq, decide_eq_true_eq, decide_eq_true_eq, List.mem_cons]
    constructor
    · rintro (⟨h1, h2⟩ | ⟨h1, h2⟩)
      · exact ⟨.inl h1, by omega⟩
      · exact ⟨.inr h1, h2⟩
    · rintro ⟨h1 | h1, h2⟩
      · exact .inl ⟨h1, by omega⟩
      · exact .inr ⟨h1, h2⟩
theorem lI_zero {s t : Int} (hs : okU s) (ht : okU t) : (lI s t = 0) ↔ subS s t := by
  have hb : ∀ i, (XW.lessN s.toNat t.toNat).testBit i = (s.toNat.testBit i && !t.toNat.testBit i) := fun i => XW.lessN_testBit _ _ i (okU_nat hs).2 (okU_nat ht).2
  unfold lI
  constructor
  · intro h n hn
    have h0 : XW.lessN s.toNat t.toNat = 0 := by omega
    have := hb n.toNat
    rw [h0, Nat.zero_testBit] at this
    unfold hI at hn ⊢
    rw [Bool.and_eq_true] at hn
    rw [hn.2, Bool.true_and] at this
    rw [hn.1, Bool.true_and]
    cases ht : t.toNat.testBit n.toNat with
    | true => rfl
    | false => rw [ht] at this; cases this
  · intro h
    have h0 : XW.lessN s.toNat t.toNat = 0 := by
      apply Nat.eq_of_testBit_eq
      intro i
      rw [hb, Nat.zero_testBit]
      cases hs1 : s.toNat.testBit i with
      | false => rfl
      | true =>
        have hi : i < 64 := by
          rcases Nat.lt_or_ge i 64 with h6 | h6
          · exact h6
          · rw [Nat.testBit_lt_two_pow] at hs1
            · cases hs1
            · exact Nat.lt_of_lt_of_le (okU_nat hs).2 (Nat.le_trans (by decide) (Nat.pow_le_pow_right (show 0 < 2 by decide) h6))
        have := h (i : Int)
        unfold hI at this
        rw [decide_eq_true (show (0 : Int) ≤ i ∧ (i : Int) < 64 by omega), Bool.true_and, Bool.true_and, Int.toNat_natCast] at this
        rw [this hs1]; rfl
    rw [h0]; rfl
theorem trimL_mem (s : Int) : ∀ (l : List (Int × List Int)) (k i : Int), i ∈ trimL s k l ↔ (k ≤ i ∧ i < k + l.length ∧ (hI s ((l.getD (i - k).toNat (0, [])).1 - 100) && allT true s (l.getD (i - k).toNat (0, [])).2) = true)
  | [], k, i => by
    simp only [trimL, List.length_nil]
    constructor
    · intro h; simp at h
    · rintro ⟨h1, h2, _⟩; omega
  | p :: r, k, i => by
    have ih := trimL_mem s r (k + 1) i
    have hg : k + 1 ≤ i → (p :: r).getD (i - k).toNat (0, []) = r.getD (i - (k + 1)).toNat (0, []) := fun h => by
      rw [show (i - k).toNat = (i - (k + 1)).toNat + 1 by omega, List.getD_cons_succ]
    have h0 : i = k → (p :: r).getD (i - k).toNat (0, []) = p := fun h => by
      rw [show (i - k).toNat = 0 by omega]; rfl
    rw [trimL]
    simp only [List.length_cons]
    split
    · rename_i hc
      rw [List.mem_cons, ih]
      constructor
      · rintro (h | ⟨h1, h2, h3⟩)
        · rw [h0 h]; exact ⟨by omega, by omega, hc⟩
        · rw [hg h1]; exact ⟨by omega, by omega, h3⟩
      · rintro ⟨h1, h2, h3⟩
        by_cases e : i = k
        · exact .inl e
        · right; rw [hg (by omega)] at h3; exact ⟨by omega, by omega, h3⟩
    · rename_i hc
      rw [ih]
      constructor
      · rintro ⟨h1, h2, h3⟩
        rw [hg h1]; exact ⟨by omega, by omega, h3⟩
      · rintro ⟨h1, h2, h3⟩
        by_cases e : i = k
        · rw [h0 e] at h3; exact absurd h3 hc
        · rw [hg (by omega)] at h3; exact ⟨by omega, by omega, h3⟩
end Go.Proofs.YtajnboigikdefaaDoor.D

namespace Go.Proofs.YtajnboigikdefaaDoor.D
open Go Go.EV Go.Proofs
set_option linter.unusedVariables false
set_option linter.unusedSimpArgs false
set_option maxRecDepth 100000
def memD (s : ByteArray) (l : List ByteArray) : Bool := l.any fun a => decide (s.data.toList = a.data.toList)
theorem memB_D (s : ByteArray) : ∀ l : List ByteArray, memB s l = memD s l
  | [] => rfl
  | a :: r => by
    rw [memB_cons, memB_D s r, memD, memD, List.any_cons]
    congr 1
    rw [toList_data, toList_data, Bool.eq_iff_iff, beq_iff_eq, decide_eq_true_eq]
def namesD (nt : Int) (all : List ByteArray) : Int → List ByteArray → Bool
  | _, [] => true
  | i, s :: r => nameL (bI s) && ((grB1 s == decide (nt ≤ i)) && (!(memD s (all.take i.toNat)) && namesD nt all (i + 1) r))
theorem namesL_D (nt : Int) (all : List ByteArray) : ∀ (l : List ByteArray) (i : Int), namesL nt all i l = namesD nt all i l
  | [], _ => rfl
  | s :: r, i => by rw [namesL, namesD, memB_D, namesL_D nt all r]
def tms (t : Nat) : List ByteArray := [bA, bB, bC].take t
def nns (n : Nat) : List ByteArray := [bS, bUA, bUB].take n
theorem names_any : ∀ t < 4, ∀ n < 4, namesD ((tms t).length : Int) (tms t ++ nns n) 0 (tms t ++ nns n) = true := by decide
theorem len_any : ∀ t < 4, (tms t).length = t ∧ (nns t).length = t := by decide
theorem size_any : ∀ t < 4, (∀ s ∈ tms t, s.size ≤ 4000000) ∧ (∀ s ∈ nns t, s.size ≤ 4000000) := by
  intro t ht
  refine ⟨fun s hs => ?_, fun s hs => ?_⟩
  · have := List.mem_of_mem_take hs
    simp only [List.mem_cons, List.not_mem_nil, or_false] at this
    rcases this with rfl | rfl | rfl <;> decide
  · have := List.mem_of_mem_take hs
    simp only [List.mem_cons, List.not_mem_nil, or_false] at this
    rcases this with rfl | rfl | rfl <;> decide
theorem alkS_iff {p q : Int × List Int} : alkS p q = true ↔ q = p := by
  unfold alkS
  rw [Bool.and_eq_true, decide_eq_true_eq, sameS_iff]
  exact ⟨fun h => Prod.ext h.1 h.2, fun h => by rw [h]; exact ⟨rfl, rfl⟩⟩
theorem prodL_iff (g : Gr) : ∀ (l pre : List (Int × List Int)), prodL g (pre ++ l) (pre.length : Int) l = true ↔ (∀ p ∈ l, nonS g p.1 = true ∧ p.2.length ≤ 6 ∧ ∀ s ∈ p.2, termS g s = true ∨ nonS g s = true) ∧ l.Nodup ∧ ∀ p ∈ l, p ∉ pre
  | [], pre => by simp [prodL]
  | q :: r, pre => by
    have ih := prodL_iff g r (pre ++ [q])
    rw [List.append_assoc, List.singleton_append, List.length_append, List.length_singleton] at ih
    rw [prodL, show ((pre.length : Int) + 1) = ((pre.length + 1 : Nat) : Int) by omega, Int.toNat_natCast, List.take_left]
    simp only [Bool.and_eq_true, decide_eq_true_eq, Bool.not_eq_true', ih]
    have h1 : (q.2.any (strange g) = false) ↔ ∀ s ∈ q.2, termS g s = true ∨ nonS g s = true := by
      rw [List.any_eq_false]
      constructor
      · intro h s hs
        have := h s hs
        unfold strange at this
        cases ht : termS g s with
        | true => exact .inl rfl
        | false => cases hn : nonS g s with
          | true => exact .inr rfl
          | false => rw [ht, hn] at this; exact absurd rfl this
      · intro h s hs hb
        unfold strange at hb
        rcases h s hs with e | e <;> rw [e] at hb <;> simp at hb
    have h2 : (pre.any (alkS q) = false) ↔ q ∉ pre := by
      rw [List.any_eq_false]
      constructor
      · intro h hm; exact h q hm (alkS_iff.2 rfl)
      · intro h x hx hb; rw [alkS_iff] at hb; exact h (hb ▸ hx)
    rw [h1, h2, List.nodup_cons]
    constructor
    · rintro ⟨a1, a2, a3, a4, b1, b2, b3⟩
      refine ⟨fun p hp => ?_, ⟨fun hm => ?_, b2⟩, fun p hp => ?_⟩
      · rcases List.mem_cons.1 hp with e | hp
        · rw [e]; exact ⟨a1, a2, a3⟩
        · exact b1 p hp
      · exact b3 q hm (List.mem_append_right _ (List.mem_singleton_self _))
      · rcases List.mem_cons.1 hp with e | hp
        · rw [e]; exact a4
        · exact fun hm => b3 p hp (List.mem_append_left _ hm)
    · rintro ⟨c1, ⟨c2, c3⟩, c4⟩
      have d := c1 q (List.mem_cons_self ..)
      refine ⟨d.1, d.2.1, d.2.2, c4 q (List.mem_cons_self ..), fun p hp => c1 p (List.mem_cons_of_mem _ hp), c3, fun p hp hm => ?_⟩
      rcases List.mem_append.1 hm with hm | hm
      · exact c4 p (List.mem_cons_of_mem _ hp) hm
      · rw [List.mem_singleton] at hm; subst hm; exact c2 hp
theorem prodsS_iff (g : Gr) : prodsS g = true ↔ (∀ p ∈ g.2.2, nonS g p.1 = true ∧ p.2.length ≤ 6 ∧ ∀ s ∈ p.2, termS g s = true ∨ nonS g s = true) ∧ g.2.2.Nodup := by
  have := prodL_iff g g.2.2 []
  rw [List.nil_append] at this
  rw [prodsS, show (0 : Int) = (([] : List (Int × List Int)).length : Int) from rfl, this]
  constructor
  · rintro ⟨h1, h2, _⟩; exact ⟨h1, h2⟩
  · rintro ⟨h1, h2⟩; exact ⟨h1, h2, fun p _ hm => by simp at hm⟩
theorem leftsL_iff (ps : List (Int × List Int)) : ∀ (k : Nat) (i : Int), leftsL ps k i = true ↔ ∀ j : Nat, j < k → ∃ p ∈ ps, p.1 = 100 + (i + j)
  | 0, i => by simp [leftsL]
  | k + 1, i => by
    rw [leftsL, Bool.and_eq_true, leftsL_iff ps k (i + 1), List.any_eq_true]
    constructor
    · rintro ⟨⟨p, hp, h1⟩, h2⟩ j hj
      cases j with
      | zero => exact ⟨p, hp, by unfold leftIs at h1; rw [decide_eq_true_eq] at h1; rw [h1]; omega⟩
      | succ j => obtain ⟨q, hq, e⟩ := h2 j (by omega); exact ⟨q, hq, by rw [e]; omega⟩
    · intro h
      refine ⟨?_, fun j hj => ?_⟩
      · obtain ⟨p, hp, e⟩ := h 0 (by omega)
        exact ⟨p, hp, by unfold leftIs; rw [decide_eq_true_eq, e]; omega⟩
      · obtain ⟨p, hp, e⟩ := h (j + 1) (by omega)
        exact ⟨p, hp, by rw [e]; omega⟩
theorem hasS_iff (left : Int) (r : List Int) : ∀ l : List (Int × List Int), hasS left r l = true ↔ (left, r) ∈ l
  | [] => by simp [hasS]
  | q :: l => by
    rw [hasS, Bool.or_eq_true, Bool.and_eq_true, decide_eq_true_eq, sameS_iff, hasS_iff left r l, List.mem_cons]
    constructor
    · rintro (⟨h1, h2⟩ | h)
      · exact .inl (Prod.ext h1.symm h2.symm)
      · exact .inr h
    · rintro (h | h)
      · exact .inl (by rw [← h]; exact ⟨rfl, rfl⟩)
      · exact .inr h
structure Dr (t n m : Nat) (g : Gr) : Prop where
  tm : g.1 = tms t
  nn : g.2.1 = nns n
  ps : ∀ p ∈ g.2.2, nonS g p.1 = true ∧ p.2.length ≤ 3 ∧ ∀ s ∈ p.2, termS g s = true ∨ nonS g s = true
  nd : g.2.2.Nodup
  le : g.2.2.length ≤ m
theorem symS_ok {g : Gr} {t n : Nat} (h1 : g.1.length = t) (h2 : g.2.1.length = n) (ht : 1 ≤ t) (ht2 : t ≤ 9) (r : Int) : termS g (symS g.1.length g.2.1.length r) = true ∨ nonS g (symS g.1.length g.2.1.length r) = true := by
  have e1 := Int.emod_nonneg r (show (g.1.length : Int) + g.2.1.length ≠ 0 by omega)
  have e2 := Int.emod_lt_of_pos r (show 0 < (g.1.length : Int) + g.2.1.length by omega)
  rw [termS_iff, nonS_iff]
  unfold symS
  split <;> omega
theorem putS_dr {t n m : Nat} {g : Gr} (h : Dr t n m g) (ht : 1 ≤ t) (ht3 : t < 4) (hn3 : n < 4) {left : Int} (hl : 100 ≤ left) (hl2 : left < 100 + (n : Int)) (row : List Int) : Dr t n (m + 1) (putS g left row) ∧ (∀ p ∈ g.2.2, p ∈ (putS g left row).2.2) ∧ ∃ p ∈ (putS g left row).2.2, p.1 = left := by
  have l1 : g.1.length = t := by rw [h.tm]; exact (len_any t ht3).1
  have l2 : g.2.1.length = n := by rw [h.nn]; exact (len_any n hn3).2
  unfold putS
  split
  · rename_i hc
    exact ⟨⟨h.tm, h.nn, h.ps, h.nd, Nat.le_succ_of_le h.le⟩, fun p hp => hp, _, (hasS_iff _ _ _).1 hc, rfl⟩
  · rename_i hc
    rw [hasS_iff] at hc
    refine ⟨⟨h.tm, h.nn, fun p hp => ?_, ?_, by rw [List.length_append, List.length_singleton]; have := h.le; omega⟩, fun p hp => List.mem_append_left _ hp, _, List.mem_append_right _ (List.mem_singleton_self _), rfl⟩
    · rcases List.mem_append.1 hp with hp | hp
      · exact h.ps p hp
      · rw [List.mem_singleton.1 hp]
        refine ⟨nonS_iff.2 ⟨hl, by show left < 100 + (g.2.1.length : Int); rw [l2]; exact hl2⟩, by show (List.map _ _).length ≤ 3; rw [List.length_map]; exact List.length_take_le _ _, fun s hs => ?_⟩
        obtain ⟨r, _, e⟩ := List.mem_map.1 hs
        rw [← e]
        exact symS_ok l1 l2 ht (by omega) r
    · rw [List.nodup_append]
      refine ⟨h.nd, by simp, fun a ha b hb => ?_⟩
      rw [List.mem_singleton] at hb
      subst hb
      intro e; subst e; exact hc ha
theorem puts1_dr {t n : Nat} (ht : 1 ≤ t) (ht3 : t < 4) (hn3 : n < 4) : ∀ (k : Nat) (m : Nat) (i : Int) (g : Gr), 0 ≤ i → i + k ≤ n → Dr t n m g → Dr t n (m + k) (puts1 k i g) ∧ (∀ p ∈ g.2.2, p ∈ (puts1 k i g).2.2) ∧ ∀ j : Nat, j < k → ∃ p ∈ (puts1 k i g).2.2, p.1 = 100 + (i + j)
  | 0, m, i, g, _, _, h => ⟨h, fun p hp => hp, fun j hj => by omega⟩
  | k + 1, m, i, g, h0, h1, h => by
    obtain ⟨a1, a2, p, a3, a4⟩ := putS_dr h ht ht3 hn3 (left := 100 + i) (by omega) (by omega) [i]
    obtain ⟨b1, b2, b3⟩ := puts1_dr ht ht3 hn3 k (m + 1) (i + 1) (putS g (100 + i) [i]) (by omega) (by omega) a1
    rw [puts1]
    refine ⟨by rw [show m + (k + 1) = m + 1 + k by omega]; exact b1, fun p hp => b2 p (a2 p hp), fun j hj => ?_⟩
    cases j with
    | zero => exact ⟨p, b2 p a3, by rw [a4]; omega⟩
    | succ j => obtain ⟨q, hq, e⟩ := b3 j (by omega); exact ⟨q, hq, by rw [e]; omega⟩
theorem puts2_dr {t n : Nat} (ht : 1 ≤ t) (ht3 : t < 4) (hn : 1 ≤ n) (hn3 : n < 4) : ∀ (l : List (List Int)) (m : Nat) (i : Int) (g : Gr), Dr t n m g → Dr t n (m + l.length) (puts2 (n : Int) i g l) ∧ (∀ p ∈ g.2.2, p ∈ (puts2 (n : Int) i g l).2.2)
  | [], m, i, g, h => ⟨h, fun p hp => hp⟩
  | r :: l, m, i, g, h => by
    have e1 := Int.emod_nonneg (leftS i r) (show (n : Int) ≠ 0 by omega)
    have e2 := Int.emod_lt_of_pos (leftS i r) (show 0 < (n : Int) by omega)
    obtain ⟨a1, a2, _⟩ := putS_dr h ht ht3 hn3 (left := 100 + leftS i r % n) (by omega) (by omega) r
    obtain ⟨b1, b2⟩ := puts2_dr ht ht3 hn hn3 l (m + 1) (i + 1) _ a1
    rw [puts2, List.length_cons]
    exact ⟨by rw [show m + (l.length + 1) = m + 1 + l.length by omega]; exact b1, fun p hp => b2 p (a2 p hp)⟩
theorem anyS_dr (r : Raw) : ∃ t n : Nat, 1 ≤ t ∧ t < 4 ∧ 1 ≤ n ∧ n < 4 ∧ Dr t n 8 (anyS r) ∧ ∀ j : Nat, j < n → ∃ p ∈ (anyS r).2.2, p.1 = 100 + (0 + (j : Int)) := by
  have e1 := Int.emod_nonneg r.2.1 (show (3 : Int) ≠ 0 by omega)
  have e2 := Int.emod_lt_of_pos r.2.1 (show (0 : Int) < 3 by omega)
  have e3 := Int.emod_nonneg r.2.2.1 (show (3 : Int) ≠ 0 by omega)
  have e4 := Int.emod_lt_of_pos r.2.2.1 (show (0 : Int) < 3 by omega)
  refine ⟨(1 + r.2.1 % 3).toNat, (1 + r.2.2.1 % 3).toNat, by omega, by omega, by omega, by omega, ?_⟩
  have hn : 1 + r.2.2.1 % 3 = (((1 + r.2.2.1 % 3).toNat : Nat) : Int) := by omega
  have h0 : Dr (1 + r.2.1 % 3).toNat (1 + r.2.2.1 % 3).toNat 0 (tms (1 + r.2.1 % 3).toNat, nns (1 + r.2.2.1 % 3).toNat, []) := ⟨rfl, rfl, fun p hp => by simp at hp, by simp, Nat.le_refl _⟩
  obtain ⟨a1, a2, a3⟩ := puts1_dr (t := (1 + r.2.1 % 3).toNat) (n := (1 + r.2.2.1 % 3).toNat) (by omega) (by omega) (by omega) (1 + r.2.2.1 % 3).toNat 0 0 _ (Int.le_refl _) (by omega) h0
  obtain ⟨b1, b2⟩ := puts2_dr (t := (1 + r.2.1 % 3).toNat) (n := (1 + r.2.2.1 % 3).toNat) (by omega) (by omega) (by omega) (by omega) (r.2.2.2.2.1.take 5) _ 0 _ a1
  rw [← hn] at b1 b2
  have hl : (r.2.2.2.2.1.take 5).length ≤ 5 := List.length_take_le _ _
  refine ⟨⟨b1.tm, b1.nn, b1.ps, b1.nd, Nat.le_trans b1.le (by omega)⟩, fun j hj => ?_⟩
  obtain ⟨p, hp, e⟩ := a3 j hj
  exact ⟨p, b2 p hp, e⟩
theorem dr_chk {t n : Nat} {g : Gr} (ht : 1 ≤ t) (ht3 : t < 4) (hn : 1 ≤ n) (hn3 : n < 4) (h : Dr t n 24 g) (hl : ∀ j : Nat, j < n → ∃ p ∈ g.2.2, p.1 = 100 + (0 + (j : Int))) : checkB g = true ∧ okG g := by
  have l1 : g.1.length = t := by rw [h.tm]; exact (len_any t ht3).1
  have l2 : g.2.1.length = n := by rw [h.nn]; exact (len_any n hn3).2
  have hp : 1 ≤ g.2.2.length := by
    obtain ⟨p, hp, _⟩ := hl 0 (by omega)
    exact List.length_pos_iff.2 (List.ne_nil_of_mem hp)
  have hle := h.le
  refine ⟨?_, ⟨by omega, by omega⟩, by rw [h.tm]; exact (size_any t ht3).1, by rw [h.nn]; exact (size_any n hn3).2, fun p hp => ?_⟩
  · simp only [checkB, cntB, Bool.and_eq_true, decide_eq_true_eq]
    refine ⟨⟨by omega, by omega⟩, ⟨by omega, by omega⟩, ⟨by omega, by omega⟩, ?_, ?_, ?_⟩
    · rw [namesS, namesL_D, h.tm, h.nn]; exact names_any t ht3 n hn3
    · rw [prodsS_iff]
      exact ⟨fun p hp => ⟨(h.ps p hp).1, Nat.le_trans (h.ps p hp).2.1 (by decide), (h.ps p hp).2.2⟩, h.nd⟩
    · rw [leftsL_iff, l2]; exact hl
  · obtain ⟨h1, h2, h3⟩ := h.ps p hp
    rw [nonS_iff] at h1
    refine ⟨by omega, fun s hs => ?_⟩
    rcases h3 s hs with e | e
    · rw [termS_iff] at e; omega
    · rw [nonS_iff] at e; omega
theorem any_chk (r : Raw) : checkB (anyS r) = true ∧ okG (anyS r) := by
  obtain ⟨t, n, h1, h2, h3, h4, h5, h6⟩ := anyS_dr r
  exact dr_chk h1 h2 h3 h4 ⟨h5.tm, h5.nn, h5.ps, h5.nd, Nat.le_trans h5.le (by decide)⟩ h6
end Go.Proofs.YtajnboigikdefaaDoor.D
