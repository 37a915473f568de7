/- Texts that the proof of a law rests on, put together: part 51. -/
import Derived.Test.YtajnboigikdefaaDoorFr50
import Derived.Test.YtajnboigikdefaaDoorProg
namespace Go.Proofs.YtajnboigikdefaaDoor.D
open Go Go.EV Go.Proofs
set_option linter.unusedVariables false
set_option linter.unusedSimpArgs false
set_option maxRecDepth 100000
noncomputable def wakes06 : Face := ⟨37, [], fun _ => none, [⟨false, [.v .bool], fun _ => true, fun _ => none⟩]⟩
theorem wakes06.fn : FnOk Tryd.prog wakes06 := fn_at fun s _ => hok_at E.hWakes060_ok wakes06 () _ [⟨.bool, true⟩] (List.mem_singleton_self _) (by kernel_rfl) (by kernel_rfl) (by kernel_rfl) (by kernel_rfl) (by kernel_rfl) (by kernel_rfl) (by kernel_rfl) (by kernel_rfl) (outIs_of rfl rfl (dec_cons (by kernel_rfl) (dec_nil _))) (by kernel_rfl)
def symOf (t n x : Int) : Int := if x.tmod 29 = 28 then x else symS t n x
noncomputable def syL  : LFace := ⟨[1, 2, 3, 7, 8, 9], [.v (.sl (.int .i64)), .v (.int .i64), .p GR, .row (.int .i64) 3, .v (.int .i64), .v (.int .i64)], fun (l, most, g, o, k, i) => some (k = g.1.length ∧ 0 ≤ i ∧ i ≤ most ∧ most ≤ 99 ∧ 1 ≤ g.1.length ∧ g.1.length ≤ 99 ∧ g.2.1.length ≤ 99 ∧ o.length ≤ i.toNat),
  [⟨.normal, [7], [.row (.int .i64) 3], fun (l, most, g, o, k, i) => o ++ ((l.take most.toNat).drop i.toNat).map (symOf g.1.length g.2.1.length), fun (l, most, g, o, k, i) => none⟩]⟩
noncomputable def syL.mu  : dens syL.sh → Nat := fun (l, most, g, o, k, i) => (most - i).toNat
noncomputable def syL.g  (l : List Int) (most : Int) (g : List ByteArray × List ByteArray × List (Int × List Int)) (o : List Int) (k : Int) (i : Int) : Prop := GoodLA Tryd.prog (cfOf [within]) [] 1000 39 0 syL syL.mu (l, most, g, o, k, i)
noncomputable def syL.q3 (l : List Int) (i : Int) : Prop := (True ∧ l.length ≤ (9223372036854775807 : Nat)) ∧ decide (i < (↑l.length : Int)) = true
noncomputable def syL.q0 (l : List Int) (most : Int) (g : List ByteArray × List ByteArray × List (Int × List Int)) (k : Int) (i : Int) : Prop := ((((syL.q3 l i) ∧ decide (i < most) = true) ∧ (0 : Int) ≤ i ∧ i < (↑l.length : Int)) ∧ List.length g.2.1 ≤ (9223372036854775807 : Nat)) ∧ (0 : Int) < IntKind.i64.wrap (k + (↑(List.length g.2.1) : Int)) ∧ IntKind.i64.wrap (k + (↑(List.length g.2.1) : Int)) ≤ (9223372036854775807 : Int)
noncomputable def syL.q1 (l : List Int) (most : Int) (g : List ByteArray × List ByteArray × List (Int × List Int)) (k : Int) (i : Int) : Prop := ((syL.q0 l most g k i) ∧ (0 : Int) ≤ i ∧ i < (↑l.length : Int)) ∧ ((l.getD i.toNat (0 : Int)).tmod (29 : Int) == (28 : Int)) = false
noncomputable def syL.q2 (l : List Int) (most : Int) (g : List ByteArray × List ByteArray × List (Int × List Int)) (k : Int) (i : Int) : Prop := ((syL.q0 l most g k i) ∧ (0 : Int) ≤ i ∧ i < (↑l.length : Int)) ∧ ((l.getD i.toNat (0 : Int)).tmod (29 : Int) == (28 : Int)) = true
noncomputable def syL.T (l : List Int) (most : Int) (g : List ByteArray × List ByteArray × List (Int × List Int)) (o : List Int) (k : Int) (i : Int) : Prop := (((syL.q3 l i) ∧ decide (i < most) = true) ∧ ¬((0 : Int) ≤ i ∧ i < (↑l.length : Int)) → False) ∧ (((((syL.q3 l i) ∧ decide (i < most) = true) ∧ (0 : Int) ≤ i ∧ i < (↑l.length : Int)) ∧ List.length g.2.1 ≤ (9223372036854775807 : Nat)) ∧ ¬((0 : Int) < IntKind.i64.wrap (k + (↑(List.length g.2.1) : Int)) ∧ IntKind.i64.wrap (k + (↑(List.length g.2.1) : Int)) ≤ (9223372036854775807 : Int)) → False) ∧ (((syL.q2 l most g k i) ∧ (0 : Int) ≤ i ∧ i < (↑l.length : Int)) ∧ (o.length + (1 : Nat)) * (8 : Nat) ≤ (140737488355328 : Nat) → (k = (↑(List.length g.1) : Int) ∧ (0 : Int) ≤ IntKind.i64.wrap (i + (1 : Int)) ∧ IntKind.i64.wrap (i + (1 : Int)) ≤ most ∧ most ≤ (99 : Int) ∧ (1 : Nat) ≤ List.length g.1 ∧ List.length g.1 ≤ (99 : Nat) ∧ List.length g.2.1 ≤ (99 : Nat) ∧ (o ++ [l.getD i.toNat (0 : Int)]).length ≤ (IntKind.i64.wrap (i + (1 : Int))).toNat) ∧ syL.mu (l, most, g, o ++ [l.getD i.toNat (0 : Int)], k, IntKind.i64.wrap (i + (1 : Int))) < syL.mu (l, most, g, o, k, i) ∧ (True → True ∧ o ++ [l.getD i.toNat (0 : Int)] ++ List.map (symOf (↑(List.length g.1) : Int) (↑(List.length g.2.1) : Int)) (List.drop (IntKind.i64.wrap (i + (1 : Int))).toNat (List.take most.toNat l)) = o ++ List.map (symOf (↑(List.length g.1) : Int) (↑(List.length g.2.1) : Int)) (List.drop i.toNat (List.take most.toNat l))) ∧ True) ∧ (((syL.q2 l most g k i) ∧ (0 : Int) ≤ i ∧ i < (↑l.length : Int)) ∧ ¬(o.length + (1 : Nat)) * (8 : Nat) ≤ (140737488355328 : Nat) → False) ∧ ((syL.q2 l most g k i) ∧ ¬((0 : Int) ≤ i ∧ i < (↑l.length : Int)) → False) ∧ (((syL.q1 l most g k i) ∧ decide (l.getD i.toNat (0 : Int) % IntKind.i64.wrap (k + (↑(List.length g.2.1) : Int)) < k) = true) ∧ (o.length + (1 : Nat)) * (8 : Nat) ≤ (140737488355328 : Nat) → (k = (↑(List.length g.1) : Int) ∧ (0 : Int) ≤ IntKind.i64.wrap (i + (1 : Int)) ∧ IntKind.i64.wrap (i + (1 : Int)) ≤ most ∧ most ≤ (99 : Int) ∧ (1 : Nat) ≤ List.length g.1 ∧ List.length g.1 ≤ (99 : Nat) ∧ List.length g.2.1 ≤ (99 : Nat) ∧ (o ++ [IntKind.i64.wrap (l.getD i.toNat (0 : Int) % IntKind.i64.wrap (k + (↑(List.length g.2.1) : Int)) + (1 : Int))]).length ≤ (IntKind.i64.wrap (i + (1 : Int))).toNat) ∧ syL.mu (l, most, g, o ++ [IntKind.i64.wrap (l.getD i.toNat (0 : Int) % IntKind.i64.wrap (k + (↑(List.length g.2.1) : Int)) + (1 : Int))], k, IntKind.i64.wrap (i + (1 : Int))) < syL.mu (l, most, g, o, k, i) ∧ (True → True ∧ o ++ [IntKind.i64.wrap (l.getD i.toNat (0 : Int) % IntKind.i64.wrap (k + (↑(List.length g.2.1) : Int)) + (1 : Int))] ++ List.map (symOf (↑(List.length g.1) : Int) (↑(List.length g.2.1) : Int)) (List.drop (IntKind.i64.wrap (i + (1 : Int))).toNat (List.take most.toNat l)) = o ++ List.map (symOf (↑(List.length g.1) : Int) (↑(List.length g.2.1) : Int)) (List.drop i.toNat (List.take most.toNat l))) ∧ True) ∧ (((syL.q1 l most g k i) ∧ decide (l.getD i.toNat (0 : Int) % IntKind.i64.wrap (k + (↑(List.length g.2.1) : Int)) < k) = true) ∧ ¬(o.length + (1 : Nat)) * (8 : Nat) ≤ (140737488355328 : Nat) → False) ∧ (((syL.q1 l most g k i) ∧ decide (l.getD i.toNat (0 : Int) % IntKind.i64.wrap (k + (↑(List.length g.2.1) : Int)) < k) = false) ∧ (o.length + (1 : Nat)) * (8 : Nat) ≤ (140737488355328 : Nat) → (k = (↑(List.length g.1) : Int) ∧ (0 : Int) ≤ IntKind.i64.wrap (i + (1 : Int)) ∧ IntKind.i64.wrap (i + (1 : Int)) ≤ most ∧ most ≤ (99 : Int) ∧ (1 : Nat) ≤ List.length g.1 ∧ List.length g.1 ≤ (99 : Nat) ∧ List.length g.2.1 ≤ (99 : Nat) ∧ (o ++ [IntKind.i64.wrap (IntKind.i64.wrap ((100 : Int) + l.getD i.toNat (0 : Int) % IntKind.i64.wrap (k + (↑(List.length g.2.1) : Int))) - k)]).length ≤ (IntKind.i64.wrap (i + (1 : Int))).toNat) ∧ syL.mu (l, most, g, o ++ [IntKind.i64.wrap (IntKind.i64.wrap ((100 : Int) + l.getD i.toNat (0 : Int) % IntKind.i64.wrap (k + (↑(List.length g.2.1) : Int))) - k)], k, IntKind.i64.wrap (i + (1 : Int))) < syL.mu (l, most, g, o, k, i) ∧ (True → True ∧ o ++ [IntKind.i64.wrap (IntKind.i64.wrap ((100 : Int) + l.getD i.toNat (0 : Int) % IntKind.i64.wrap (k + (↑(List.length g.2.1) : Int))) - k)] ++ List.map (symOf (↑(List.length g.1) : Int) (↑(List.length g.2.1) : Int)) (List.drop (IntKind.i64.wrap (i + (1 : Int))).toNat (List.take most.toNat l)) = o ++ List.map (symOf (↑(List.length g.1) : Int) (↑(List.length g.2.1) : Int)) (List.drop i.toNat (List.take most.toNat l))) ∧ True) ∧ (((syL.q1 l most g k i) ∧ decide (l.getD i.toNat (0 : Int) % IntKind.i64.wrap (k + (↑(List.length g.2.1) : Int)) < k) = false) ∧ ¬(o.length + (1 : Nat)) * (8 : Nat) ≤ (140737488355328 : Nat) → False) ∧ ((syL.q0 l most g k i) ∧ ¬((0 : Int) ≤ i ∧ i < (↑l.length : Int)) → False) ∧ ((syL.q3 l i) ∧ decide (i < most) = false → True ∧ o = o ++ List.map (symOf (↑(List.length g.1) : Int) (↑(List.length g.2.1) : Int)) (List.drop i.toNat (List.take most.toNat l))) ∧ ((True ∧ l.length ≤ (9223372036854775807 : Nat)) ∧ decide (i < (↑l.length : Int)) = false → True ∧ o = o ++ List.map (symOf (↑(List.length g.1) : Int) (↑(List.length g.2.1) : Int)) (List.drop i.toNat (List.take most.toNat l))) ∧ (True)
theorem syL.eq  (l : List Int) (most : Int) (g : List ByteArray × List ByteArray × List (Int × List Int)) (o : List Int) (k : Int) (i : Int) : syL.g  l most g o k i = syL.T  l most g o k i := by kernel_rfl
theorem syL.ok  (l : List Int) (most : Int) (g : List ByteArray × List ByteArray × List (Int × List Int)) (o : List Int) (k : Int) (i : Int) (hx : k = g.1.length ∧ 0 ≤ i ∧ i ≤ most ∧ most ≤ 99 ∧ 1 ≤ g.1.length ∧ g.1.length ≤ 99 ∧ g.2.1.length ≤ 99 ∧ o.length ≤ i.toNat) : syL.T  l most g o k i := by
  obtain ⟨rfl, h0, h1, h9, h2, h3, h4, h5⟩ := hx
  have w1 : IntKind.i64.wrap (i + 1) = i + 1 := wrapI64 (by omega) (by omega)
  have w2 : IntKind.i64.wrap ((g.1.length : Int) + g.2.1.length) = (g.1.length : Int) + g.2.1.length := wrapI64 (by omega) (by omega)
  delta syL.T syL.q3 syL.q0 syL.q1 syL.q2
  simp only [w1, w2]
  have hr0 := Int.emod_nonneg (l.getD i.toNat 0) (show (g.1.length : Int) + g.2.1.length ≠ 0 by omega)
  have hr1 := Int.emod_lt_of_pos (l.getD i.toNat 0) (show 0 < (g.1.length : Int) + g.2.1.length by omega)
  have hS : symOf g.1.length g.2.1.length (l.getD i.toNat 0) = if (l.getD i.toNat 0).tmod 29 = 28 then l.getD i.toNat 0 else if l.getD i.toNat 0 % ((g.1.length : Int) + g.2.1.length) < g.1.length then l.getD i.toNat 0 % ((g.1.length : Int) + g.2.1.length) + 1 else 100 + l.getD i.toNat 0 % ((g.1.length : Int) + g.2.1.length) - g.1.length := rfl
  have hD : i < most → i < (l.length : Int) → (l.take most.toNat).drop i.toNat = l.getD i.toNat 0 :: (l.take most.toNat).drop (i + 1).toNat := fun ha hb => by
    rw [drop_int 0 h0 (by rw [List.length_take]; omega), take_getD (by omega)]
  generalize l.getD i.toNat 0 % ((g.1.length : Int) + g.2.1.length) = r at *
  rw [wrapI64 (x := r + 1) (by omega) (by omega), wrapI64 (x := 100 + r) (by omega) (by omega), wrapI64 (x := 100 + r - g.1.length) (by omega) (by omega)]
  generalize l.getD i.toNat 0 = x at *
  have hmu : ∀ q, syL.mu (l, most, g, q, (g.1.length : Int), i + 1) < syL.mu (l, most, g, o, (g.1.length : Int), i) ∨ most ≤ i := fun q => by simp only [syL.mu]; omega
  by_cases hi : i < most ∧ i < (l.length : Int)
  · rw [hD hi.1 hi.2, List.map_cons, hS]
    by_cases hx : x.tmod 29 = 28
    · rw [if_pos hx]
      ((repeat' (first | exact trivial | apply And.intro)) <;> (intro hw; (try (simp only [true_and, and_true, decide_eq_true_eq, decide_eq_false_iff_not, beq_iff_eq, bne_iff_ne, beq_eq_false_iff_ne, bne_eq_false_iff_eq, ne_eq, Bool.not_eq_true, Bool.not_eq_false, not_true_eq_false, not_false_eq_true, Bool.not_eq_eq_eq_not, Bool.not_true, Bool.not_false, forall_const, imp_self, Bool.true_eq_false, Bool.false_eq_true, reduceCtorEq] at hw)); (try first | (exfalso; omega) | exact ⟨trivial, rfl⟩ | exact (hw hx).elim | exact (hw.2 hx).elim)))
      all_goals first
        | (exfalso; omega)
        | (refine ⟨⟨trivial, by omega, by omega, h9, h2, h3, h4, by rw [List.length_append]; simp; omega⟩, (hmu _).resolve_right (by omega), fun _ => ⟨trivial, ?_⟩, trivial⟩; rw [List.append_assoc]; rfl)
        | trace_state
    · rw [if_neg hx]
      by_cases hy : r < (g.1.length : Int)
      · rw [if_pos hy]
        ((repeat' (first | exact trivial | apply And.intro)) <;> (intro hw; (try (simp only [true_and, and_true, decide_eq_true_eq, decide_eq_false_iff_not, beq_iff_eq, bne_iff_ne, beq_eq_false_iff_ne, bne_eq_false_iff_eq, ne_eq, Bool.not_eq_true, Bool.not_eq_false, not_true_eq_false, not_false_eq_true, Bool.not_eq_eq_eq_not, Bool.not_true, Bool.not_false, forall_const, imp_self, Bool.true_eq_false, Bool.false_eq_true, reduceCtorEq] at hw)); (try first | (exfalso; omega) | exact ⟨trivial, rfl⟩ | exact (hw hx).elim | exact (hw.2 hx).elim)))
        all_goals first
          | (exfalso; omega)
          | (refine ⟨⟨trivial, by omega, by omega, h9, h2, h3, h4, by rw [List.length_append]; simp; omega⟩, (hmu _).resolve_right (by omega), fun _ => ⟨trivial, ?_⟩, trivial⟩; rw [List.append_assoc]; rfl)
          | trace_state
      · rw [if_neg hy]
        ((repeat' (first | exact trivial | apply And.intro)) <;> (intro hw; (try (simp only [true_and, and_true, decide_eq_true_eq, decide_eq_false_iff_not, beq_iff_eq, bne_iff_ne, beq_eq_false_iff_ne, bne_eq_false_iff_eq, ne_eq, Bool.not_eq_true, Bool.not_eq_false, not_true_eq_false, not_false_eq_true, Bool.not_eq_eq_eq_not, Bool.not_true, Bool.not_false, forall_const, imp_self, Bool.true_eq_false, Bool.false_eq_true, reduceCtorEq] at hw)); (try first | (exfalso; omega) | exact ⟨trivial, rfl⟩ | exact (hw hx).elim | exact (hw.2 hx).elim)))
        all_goals first
          | (exfalso; omega)
          | (refine ⟨⟨trivial, by omega, by omega, h9, h2, h3, h4, by rw [List.length_append]; simp; omega⟩, (hmu _).resolve_right (by omega), fun _ => ⟨trivial, ?_⟩, trivial⟩; rw [List.append_assoc]; rfl)
          | trace_state
  · rw [show (l.take most.toNat).drop i.toNat = [] from List.drop_eq_nil_of_le (by rw [List.length_take]; omega), List.map_nil, List.append_nil]
    ((repeat' (first | exact trivial | apply And.intro)) <;> (intro hw; (try (simp only [true_and, and_true, decide_eq_true_eq, decide_eq_false_iff_not, beq_iff_eq, bne_iff_ne, beq_eq_false_iff_ne, bne_eq_false_iff_eq, ne_eq, Bool.not_eq_true, Bool.not_eq_false, not_true_eq_false, not_false_eq_true, Bool.not_eq_eq_eq_not, Bool.not_true, Bool.not_false, forall_const, imp_self, Bool.true_eq_false, Bool.false_eq_true, reduceCtorEq] at hw)); (try first | (exfalso; omega) | exact ⟨trivial, rfl⟩ | exact (hw hx).elim | exact (hw.2 hx).elim)))
    all_goals first
      | (exfalso; omega)
      | exact ⟨trivial, rfl⟩
      | trace_state
theorem syL.lp   : LpAt Tryd.prog 39 0 syL := lp_evalH (l := []) (lf := 1000) (fun _ => cfOf_ok (fns_cons within.fn (fns_nil _))) (lps_nil _ _) (by kernel_rfl) _ (syL.mu ) (fun ⟨l, most, g, o, k, i⟩ hx => Hid.of (syL.eq  l most g o k i) (syL.ok  l most g o k i hx))
def symsS (g : Gr) (l : List Int) (most : Int) : List Int := (l.take most.toNat).map (symOf g.1.length g.2.1.length)
def syP (g : Gr) (most : Int) : Prop := 0 ≤ most ∧ most ≤ 99 ∧ 1 ≤ g.1.length ∧ g.1.length ≤ 99 ∧ g.2.1.length ≤ 99
noncomputable def symsF  : Face := ⟨39, [.v GR, .v (.sl (.int .i64)), .v (.int .i64)], fun (g, l, most) => some (syP g most),
  [⟨false, [.v (.sl (.int .i64))], fun (g, l, most) => symsS g l most, fun (g, l, most) => none⟩]⟩
noncomputable def symsF.g  (g : List ByteArray × List ByteArray × List (Int × List Int)) (l : List Int) (most : Int) : Prop := GoodFA Tryd.prog (cfOf []) [(0, syL)] 1000 symsF (g, l, most)
noncomputable def symsF.T (g : List ByteArray × List ByteArray × List (Int × List Int)) (l : List Int) (most : Int) : Prop := ((True ∧ List.length g.1 ≤ (9223372036854775807 : Nat)) ∧ ¬((↑(List.length g.1) : Int) = (↑(List.length g.1) : Int) ∧ (0 : Int) ≤ (0 : Int) ∧ (0 : Int) ≤ most ∧ most ≤ (99 : Int) ∧ (1 : Nat) ≤ List.length g.1 ∧ List.length g.1 ≤ (99 : Nat) ∧ List.length g.2.1 ≤ (99 : Nat) ∧ (0 : Nat) ≤ Int.toNat (0 : Int)) → False) ∧ ((True ∧ List.length g.1 ≤ (9223372036854775807 : Nat)) ∧ (↑(List.length g.1) : Int) = (↑(List.length g.1) : Int) ∧ (0 : Int) ≤ (0 : Int) ∧ (0 : Int) ≤ most ∧ most ≤ (99 : Int) ∧ (1 : Nat) ≤ List.length g.1 ∧ List.length g.1 ≤ (99 : Nat) ∧ List.length g.2.1 ≤ (99 : Nat) ∧ (0 : Nat) ≤ Int.toNat (0 : Int) → True ∧ [] ++ List.map (symOf (↑(List.length g.1) : Int) (↑(List.length g.2.1) : Int)) (List.drop (Int.toNat (0 : Int)) (List.take most.toNat l)) = symsS g l most) ∧ (True)
theorem symsF.eq  (g : List ByteArray × List ByteArray × List (Int × List Int)) (l : List Int) (most : Int) : symsF.g  g l most = symsF.T  g l most := by kernel_rfl
theorem symsF.ok  (g : List ByteArray × List ByteArray × List (Int × List Int)) (l : List Int) (most : Int) (hx : syP g most) : symsF.T  g l most := by
  obtain ⟨p1, p2, p3, p4, p5⟩ := hx
  rw [symsF.T]
  simp only [List.nil_append, show Int.toNat 0 = 0 from rfl, List.drop_zero]
  ((repeat' (first | exact trivial | apply And.intro)) <;> (intro hw; (try (simp only [true_and, and_true, decide_eq_true_eq, decide_eq_false_iff_not, beq_iff_eq, bne_iff_ne, beq_eq_false_iff_ne, bne_eq_false_iff_eq, ne_eq, Bool.not_eq_true, Bool.not_eq_false, not_true_eq_false, not_false_eq_true, Bool.not_eq_eq_eq_not, Bool.not_true, Bool.not_false, forall_const, imp_self, Bool.true_eq_false, Bool.false_eq_true, reduceCtorEq] at hw)); (try first | (exfalso; omega) | exact ⟨trivial, rfl⟩ | exact (hw hx).elim | exact (hw.2 hx).elim)))
  all_goals first
    | (exfalso; omega)
    | exact ⟨trivial, rfl⟩
    | exact ⟨trivial, trivial⟩
    | trace_state
theorem symsF.fn   : FnOk Tryd.prog symsF := fn_evalH (l := [(0, syL)]) (lf := 1000) (fun _ => cfOf_ok (fns_nil _)) _ (lps_cons (syL.lp) (lps_nil _ _)) (by kernel_rfl) (fun ⟨g, l, most⟩ hx => Hid.of (symsF.eq  g l most) (symsF.ok  g l most hx))
theorem symsS_okR {g : Gr} (h1 : 1 ≤ g.1.length) (h2 : g.1.length ≤ 9) (h3 : g.2.1.length ≤ 99) {l : List Int} (h : okR l) (most : Int) : okR (symsS g l most) := fun s hs => by
  obtain ⟨x, hx, e⟩ := List.mem_map.1 hs
  rw [← e, symOf]
  split
  · exact h x (List.mem_of_mem_take hx)
  · rcases symS_ok (g := g) rfl rfl h1 h2 x with e | e
    · rw [termS_iff] at e; omega
    · rw [nonS_iff] at e; omega
def fH (t : Tab) : List Int → Int → Bool
  | [], n => decide (n = 0)
  | m :: r, n => (hI (oneS t m) n && !(decide (n = 0))) || (hI (oneS t m) 0 && fH t r n)
theorem hI_ofL {t : Tab} (ht : okTab t) {al : List Int} (hw : wordsS t al = true) (n : Int) : ∀ (l : List Int) (o : Int), okU o → (∀ m ∈ l, oneS t m ≠ 0) → hI (ofL t al l o) n = (hI o n || fH t l n)
  | [], o, ho, _ => by rw [ofL, hI_jI, hI_end, fH]
  | m :: r, o, ho, hl => by
    have h1 := hl m (List.mem_cons_self ..)
    have hu := okU_one ht m
    have ih := hI_ofL ht hw n r (jI o (lI (oneS t m) endS)) (okU_j ho (okU_l hu)) (fun q hq => hl q (List.mem_cons_of_mem _ hq))
    rw [ofL, if_neg h1, fH]
    by_cases h2 : hI (oneS t m) 0 = true
    · rw [if_pos h2, ih, hI_jI, hI_lI hu okU_end, hI_end, h2, Bool.true_and, Bool.or_assoc]
    · rw [Bool.not_eq_true] at h2
      rw [h2, if_neg Bool.false_ne_true, if_pos hw, hI_jI, hI_lI hu okU_end, hI_end, Bool.false_and, Bool.or_false]
theorem words_of {t : Tab} {l : List Int} (h : ∀ m ∈ l, oneS t m ≠ 0) : wordsS t l = true := by
  rw [wordsS, List.all_eq_true]
  exact fun m hm => decide_eq_true (h m hm)
theorem hI_ofS {t : Tab} (ht : okTab t) {l : List Int} (h : ∀ m ∈ l, oneS t m ≠ 0) (n : Int) : hI (ofS t l) n = fH t l n := by
  rw [ofS, hI_ofL ht (words_of h) n l 0 okU_0 h, hI_0, Bool.false_or]
theorem ofS_split {t : Tab} (ht : okTab t) {m : Int} {r : List Int} (h : ∀ q ∈ m :: r, oneS t q ≠ 0) : ofS t (m :: r) = if hI (ofS t [m]) 0 = true then jI (lI (ofS t [m]) endS) (ofS t r) else ofS t [m] := by
  have h1 : ∀ q ∈ [m], oneS t q ≠ 0 := fun q hq => by rw [List.mem_singleton.1 hq]; exact h m (List.mem_cons_self ..)
  have h2 : ∀ q ∈ r, oneS t q ≠ 0 := fun q hq => h q (List.mem_cons_of_mem _ hq)
  have u1 := okU_ofS ht [m]
  have e0 : hI (ofS t [m]) 0 = hI (oneS t m) 0 := by
    rw [hI_ofS ht h1, fH, fH]; simp
  by_cases hc : hI (oneS t m) 0 = true
  · rw [e0, if_pos hc]
    apply hI_ext (okU_ofS ht _) (okU_j (okU_l u1) (okU_ofS ht _))
    intro n
    rw [hI_ofS ht h, hI_jI, hI_lI u1 okU_end, hI_ofS ht h1, hI_ofS ht h2, hI_end, fH, fH, fH, hc]
    cases hI (oneS t m) n <;> cases decide (n = 0) <;> cases fH t r n <;> rfl
  · rw [e0, if_neg hc]
    rw [Bool.not_eq_true] at hc
    apply hI_ext (okU_ofS ht _) u1
    intro n
    rw [hI_ofS ht h, hI_ofS ht h1, fH, fH, fH, hc]
    simp
theorem ofS_nil (t : Tab) : ofS t [] = endS := by rw [ofS, ofL]; decide
theorem ahead_nil (t : Tab) {a : Int} (h0 : 0 ≤ a) (h1 : a ≤ t.2) : aheadS t [] a = ofI [a] 0 := by
  rw [aheadS, ofS_nil, if_pos (by rw [hI_end]; decide), if_pos ⟨h0, h1⟩, show lI endS endS = 0 by decide]; rfl
theorem ofS_one {t : Tab} {m : Int} (h : ofS t [m] ≠ 0) : oneS t m ≠ 0 := fun e => h (by rw [ofS, ofL, if_pos e])
def selB (g : Gr) (t : Tab) (y : Int) : Bool := isS g y && decide (ofS t [y] ≠ 0)
def frP (l : List Int) (n i : Int) (g : Gr) (t : Tab) (o : List Int) : Prop := n = l.length ∧ 0 ≤ i ∧ i ≤ n ∧ l.length ≤ 99 ∧ gSmall g ∧ okTab t ∧ okR l ∧ o.length ≤ i.toNat
noncomputable def frL  : LFace := ⟨[2, 7, 8, 10, 36, 37, 38], [.v (.int .i64), .p GR, .p TAB, .row (.int .i64) 3, .v (.sl (.int .i64)), .v (.int .i64), .v (.int .i64)], fun (a, g, t, o, l, n, i) => some (frP l n i g t o),
  [⟨.normal, [2, 7, 8, 10], [.v (.int .i64), .p GR, .p TAB, .row (.int .i64) 3], fun (a, g, t, o, l, n, i) => (a, g, t, o ++ (l.drop i.toNat).filter (selB g t)), fun (a, g, t, o, l, n, i) => none⟩]⟩
noncomputable def frL.mu  : dens frL.sh → Nat := fun (a, g, t, o, l, n, i) => (n - i).toNat
noncomputable def frL.g  (a : Int) (g : List ByteArray × List ByteArray × List (Int × List Int)) (t : List Int × Int) (o : List Int) (l : List Int) (n : Int) (i : Int) : Prop := GoodLA Tryd.prog (cfOf [isF, ofF, setOf]) [] 1000 9 0 frL frL.mu (a, g, t, o, l, n, i)
noncomputable def frL.q0 (g : List ByteArray × List ByteArray × List (Int × List Int)) (l : List Int) (n : Int) (i : Int) : Prop := (((True ∧ decide (i < n) = true) ∧ (0 : Int) ≤ i ∧ i < (↑l.length : Int)) ∧ gSmall g) ∧ isS g (l.getD i.toNat (0 : Int)) = true
noncomputable def frL.T (a : Int) (g : List ByteArray × List ByteArray × List (Int × List Int)) (t : List Int × Int) (o : List Int) (l : List Int) (n : Int) (i : Int) : Prop := (((True ∧ decide (i < n) = true) ∧ (0 : Int) ≤ i ∧ i < (↑l.length : Int)) ∧ ¬gSmall g → False) ∧ ((frL.q0 g l n i) ∧ ¬(okTab t ∧ okR [l.getD i.toNat (0 : Int)]) → False) ∧ ((((frL.q0 g l n i) ∧ okTab t ∧ okR [l.getD i.toNat (0 : Int)]) ∧ (ofS t [l.getD i.toNat (0 : Int)] != ofI [] (0 : Int)) = true) ∧ (o.length + (1 : Nat)) * (8 : Nat) ≤ (140737488355328 : Nat) → frP l n (IntKind.i64.wrap (i + (1 : Int))) g t (o ++ [l.getD i.toNat (0 : Int)]) ∧ frL.mu (a, g, t, o ++ [l.getD i.toNat (0 : Int)], l, n, IntKind.i64.wrap (i + (1 : Int))) < frL.mu (a, g, t, o, l, n, i) ∧ (True → True ∧ (a, g, t, o ++ [l.getD i.toNat (0 : Int)] ++ List.filter (selB g t) (List.drop (IntKind.i64.wrap (i + (1 : Int))).toNat l)) = (a, g, t, o ++ List.filter (selB g t) (List.drop i.toNat l))) ∧ True) ∧ ((((frL.q0 g l n i) ∧ okTab t ∧ okR [l.getD i.toNat (0 : Int)]) ∧ (ofS t [l.getD i.toNat (0 : Int)] != ofI [] (0 : Int)) = true) ∧ ¬(o.length + (1 : Nat)) * (8 : Nat) ≤ (140737488355328 : Nat) → False) ∧ (((frL.q0 g l n i) ∧ okTab t ∧ okR [l.getD i.toNat (0 : Int)]) ∧ (ofS t [l.getD i.toNat (0 : Int)] != ofI [] (0 : Int)) = false → frP l n (IntKind.i64.wrap (i + (1 : Int))) g t o ∧ frL.mu (a, g, t, o, l, n, IntKind.i64.wrap (i + (1 : Int))) < frL.mu (a, g, t, o, l, n, i) ∧ (True → True ∧ (a, g, t, o ++ List.filter (selB g t) (List.drop (IntKind.i64.wrap (i + (1 : Int))).toNat l)) = (a, g, t, o ++ List.filter (selB g t) (List.drop i.toNat l))) ∧ True) ∧ ((((True ∧ decide (i < n) = true) ∧ (0 : Int) ≤ i ∧ i < (↑l.length : Int)) ∧ gSmall g) ∧ isS g (l.getD i.toNat (0 : Int)) = false → frP l n (IntKind.i64.wrap (i + (1 : Int))) g t o ∧ frL.mu (a, g, t, o, l, n, IntKind.i64.wrap (i + (1 : Int))) < frL.mu (a, g, t, o, l, n, i) ∧ (True → True ∧ (a, g, t, o ++ List.filter (selB g t) (List.drop (IntKind.i64.wrap (i + (1 : Int))).toNat l)) = (a, g, t, o ++ List.filter (selB g t) (List.drop i.toNat l))) ∧ True) ∧ ((True ∧ decide (i < n) = true) ∧ ¬((0 : Int) ≤ i ∧ i < (↑l.length : Int)) → False) ∧ (True ∧ decide (i < n) = false → True ∧ (a, g, t, o) = (a, g, t, o ++ List.filter (selB g t) (List.drop i.toNat l))) ∧ (True)
theorem frL.eq  (a : Int) (g : List ByteArray × List ByteArray × List (Int × List Int)) (t : List Int × Int) (o : List Int) (l : List Int) (n : Int) (i : Int) : frL.g  a g t o l n i = frL.T  a g t o l n i := by kernel_rfl
theorem frL.ok  (a : Int) (g : List ByteArray × List ByteArray × List (Int × List Int)) (t : List Int × Int) (o : List Int) (l : List Int) (n : Int) (i : Int) (hx : frP l n i g t o) : frL.T  a g t o l n i := by
  obtain ⟨rfl, h0, h1, h2, h3, h4, h5, h6⟩ := hx
  delta frL.T frL.q0
  by_cases hi : i < (l.length : Int)
  · have hm := h5 _ (getD_mem (x := 0) (show i.toNat < l.length by omega))
    rw [drop_int 0 h0 hi, List.filter_cons, selB]
    rw [wrapI64 (x := i + 1) (by omega) (by omega)]
    generalize l.getD i.toNat 0 = x at *
    have hx : okR [x] := fun s hs => by rw [List.mem_singleton.1 hs]; exact hm
    have hne : (ofS t [x] != ofI [] 0) = decide (ofS t [x] ≠ 0) := by
      rw [Bool.eq_iff_iff, bne_iff_ne, decide_eq_true_eq]; rfl
    rw [hne]
    generalize decide (ofS t [x] ≠ 0) = dd at *
    generalize isS g x = cc at *
    ((repeat' (first | exact trivial | apply And.intro)) <;> (intro hw; (try (simp only [true_and, and_true, decide_eq_true_eq, decide_eq_false_iff_not, beq_iff_eq, bne_iff_ne, beq_eq_false_iff_ne, bne_eq_false_iff_eq, ne_eq, Bool.not_eq_true, Bool.not_eq_false, not_true_eq_false, not_false_eq_true, Bool.not_eq_eq_eq_not, Bool.not_true, Bool.not_false, forall_const, imp_self, Bool.true_eq_false, Bool.false_eq_true, reduceCtorEq] at hw)); (try first | (exfalso; omega) | exact ⟨trivial, rfl⟩ | exact (hw hx).elim | exact (hw.2 hx).elim)))
    all_goals first
      | (exfalso; omega)
      | exact (hw.2 h3).elim
      | exact (hw.2 ⟨h4, hx⟩).elim
      | (refine ⟨⟨rfl, by omega, by omega, h2, h3, h4, h5, by first | omega | (rw [List.length_append, List.length_singleton]; omega)⟩, by simp only [frL.mu]; omega, fun _ => ⟨trivial, ?_⟩, trivial⟩; clear hne hx h5 h4 h3; cases cc <;> cases dd <;> simp_all; done)
      | trace_state
  · rw [drop_int_end hi, List.filter_nil, List.append_nil]
    ((repeat' (first | exact trivial | apply And.intro)) <;> (intro hw; (try (simp only [true_and, and_true, decide_eq_true_eq, decide_eq_false_iff_not, beq_iff_eq, bne_iff_ne, beq_eq_false_iff_ne, bne_eq_false_iff_eq, ne_eq, Bool.not_eq_true, Bool.not_eq_false, not_true_eq_false, not_false_eq_true, Bool.not_eq_eq_eq_not, Bool.not_true, Bool.not_false, forall_const, imp_self, Bool.true_eq_false, Bool.false_eq_true, reduceCtorEq] at hw)); (try first | (exfalso; omega) | exact ⟨trivial, rfl⟩ | exact (hw hx).elim | exact (hw.2 hx).elim)))
    all_goals first
      | (exfalso; omega)
      | exact ⟨trivial, rfl⟩
      | trace_state
theorem frL.lp   : LpAt Tryd.prog 9 0 frL := lp_evalH (l := []) (lf := 1000) (fun _ => cfOf_ok (fns_cons isF.fn (fns_cons ofF.fn (fns_cons setOf.fn (fns_nil _))))) (lps_nil _ _) (by kernel_rfl) _ (frL.mu ) (fun ⟨a, g, t, o, l, n, i⟩ hx => Hid.of (frL.eq  a g t o l n i) (frL.ok  a g t o l n i hx))
noncomputable def frR17  : LFace := ⟨[2, 8, 10, 13], [.v (.int .i64), .p TAB, .v (.sl (.int .i64)), .v (.int .u64)], fun (a, t, s, w) => some (okTab t ∧ okR s ∧ okU w ∧ 1 ≤ s.length),
  [⟨.normal, [2, 8, 10, 13], [.v (.int .i64), .p TAB, .v (.sl (.int .i64)), .v (.int .u64)], fun (a, t, s, w) => (a, t, s, jI (lI w endS) (ofS t (s.drop 1))), fun (a, t, s, w) => none⟩]⟩
noncomputable def frR17.g  (a : Int) (t : List Int × Int) (s : List Int) (w : Int) : Prop := GoodPA Tryd.prog (cfOf [setOf, setLess, ofF, setJoin]) [] 1000 9 1000017 frR17 (a, t, s, w)
noncomputable def frR17.q0 (s : List Int) : Prop := True ∧ (0 : Int) ≤ (1 : Int) ∧ (1 : Int) ≤ (↑s.length : Int) ∧ (↑s.length : Int) ≤ (↑s.length : Int)
noncomputable def frR17.q1 (t : List Int × Int) (s : List Int) (w : Int) : Prop := ((frR17.q0 s) ∧ okU w ∧ okU (ofI [(0 : Int)] (0 : Int))) ∧ okTab t ∧ okR (List.drop (Int.toNat (1 : Int)) (List.take (↑s.length : Int).toNat s))
noncomputable def frR17.T (a : Int) (t : List Int × Int) (s : List Int) (w : Int) : Prop := (True ∧ ¬((0 : Int) ≤ (1 : Int) ∧ (1 : Int) ≤ (↑s.length : Int) ∧ (↑s.length : Int) ≤ (↑s.length : Int)) → False) ∧ ((frR17.q0 s) ∧ ¬(okU w ∧ okU (ofI [(0 : Int)] (0 : Int))) → False) ∧ (((frR17.q0 s) ∧ okU w ∧ okU (ofI [(0 : Int)] (0 : Int))) ∧ ¬(okTab t ∧ okR (List.drop (Int.toNat (1 : Int)) (List.take (↑s.length : Int).toNat s))) → False) ∧ ((frR17.q1 t s w) ∧ ¬(okU (lI w (ofI [(0 : Int)] (0 : Int))) ∧ okU (ofS t (List.drop (Int.toNat (1 : Int)) (List.take (↑s.length : Int).toNat s)))) → False) ∧ ((frR17.q1 t s w) ∧ okU (lI w (ofI [(0 : Int)] (0 : Int))) ∧ okU (ofS t (List.drop (Int.toNat (1 : Int)) (List.take (↑s.length : Int).toNat s))) → True ∧ (a, t, s, jI (lI w (ofI [(0 : Int)] (0 : Int))) (ofS t (List.drop (Int.toNat (1 : Int)) (List.take (↑s.length : Int).toNat s)))) = (a, t, s, jI (lI w endS) (ofS t (List.drop (1 : Nat) s)))) ∧ (True)
theorem frR17.eq  (a : Int) (t : List Int × Int) (s : List Int) (w : Int) : frR17.g  a t s w = frR17.T  a t s w := by kernel_rfl
theorem frR17.ok  (a : Int) (t : List Int × Int) (s : List Int) (w : Int) (hx : okTab t ∧ okR s ∧ okU w ∧ 1 ≤ s.length) : frR17.T  a t s w := by
  obtain ⟨h1, h2, h3, h4⟩ := hx
  delta frR17.T frR17.q0 frR17.q1
  have he := okU_end
  have h5 : okR (s.drop 1) := fun x hx => h2 x (List.mem_of_mem_drop hx)
  have h6 := okU_ofS h1 (s.drop 1)
  have h7 := okU_l (t := endS) h3
  have h8 : List.drop (Int.toNat 1) (List.take (Int.toNat (s.length : Int)) s) = s.drop 1 := by rw [Int.toNat_natCast, List.take_length]; rfl
  simp only [h8, show ofI [0] 0 = endS from rfl]
  ((repeat' (first | exact trivial | apply And.intro)) <;> (intro hw; (try (simp only [true_and, and_true, decide_eq_true_eq, decide_eq_false_iff_not, beq_iff_eq, bne_iff_ne, beq_eq_false_iff_ne, bne_eq_false_iff_eq, ne_eq, Bool.not_eq_true, Bool.not_eq_false, not_true_eq_false, not_false_eq_true, Bool.not_eq_eq_eq_not, Bool.not_true, Bool.not_false, forall_const, imp_self, Bool.true_eq_false, Bool.false_eq_true, reduceCtorEq] at hw)); (try first | (exfalso; omega) | exact ⟨trivial, rfl⟩ | exact (hw hx).elim | exact (hw.2 hx).elim)))
  all_goals first
    | (exfalso; omega)
    | exact (hw.2 ⟨h1, h5⟩).elim
    | exact (hw ⟨h1, h5⟩).elim
    | exact (hw.2 ⟨h3, he⟩).elim
    | exact (hw ⟨h3, he⟩).elim
    | exact (hw.2 ⟨h7, h6⟩).elim
    | exact ⟨trivial, rfl⟩
    | exact ⟨trivial, trivial⟩
    | trace_state
theorem frR17.lp   : LpAt Tryd.prog 9 1000017 frR17 := pc_evalH (l := []) (lf := 1000) (fun _ => cfOf_ok (fns_cons setOf.fn (fns_cons setLess.fn (fns_cons ofF.fn (fns_cons setJoin.fn (fns_nil _)))))) (lps_nil _ _) (by kernel_rfl) _ (fun ⟨a, t, s, w⟩ hx => Hid.of (frR17.eq  a t s w) (frR17.ok  a t s w hx))
def selW (r : Raw) (l : List Int) : List Int := [] ++ List.filter (selB (anyS r) (newS (anyS r))) (List.drop (Int.toNat 0) (symsS (anyS r) l 4))
theorem trim_06 {g : Gr} (hc : checkB g = true) (h : ¬ (trimS g).2 = 0) : (trimS g).2 = 6 := by
  rw [trimS, if_pos hc] at h ⊢
  split
  · rename_i h1; rw [if_pos h1] at h; exact absurd rfl h
  · rfl
theorem newS_ok {g : Gr} (hc : checkB g = true) (ho : okG g) : okTab (newS g) ∧ (newS g).1.length = g.2.1.length := by
  obtain ⟨p1, p2⟩ := trim_pl hc ho
  have ht := okTab_0 ho.1.1 ho.1.2
  have hpl : okPl g (List.replicate g.2.1.length (0 : Int)).length (trimS g).1 := by rw [List.length_replicate]; exact p1
  have := newN_ok (g := g) (tm := (g.1.length : Int)) (ks := (trimS g).1) (sumM (List.replicate g.2.1.length 0) + 1) _ hpl ht
  rw [List.length_replicate] at this
  exact this
noncomputable def firstRows  : Face := ⟨9, [.v RAW, .v (.sl (.int .i64)), .v (.int .i64)], fun (r, l, a) => some (okR l),
  [⟨false, [.v .bool], fun (r, l, a) => true, fun (r, l, a) => none⟩]⟩
noncomputable def firstRows.g  (r : Int × Int × Int × Int × List (List Int) × ByteArray) (l : List Int) (a : Int) : Prop := GoodFA Tryd.prog (cfOf [any, newFc, symsF, within, ofF, aheadF, setOf, setHas, setLess, setJoin, setWith, wakes06]) [(0, frL), (1000017, frR17)] 1000 firstRows (r, l, a)
noncomputable def firstRows.q4 (r : Int × Int × Int × Int × List (List Int) × ByteArray) (l : List Int) : Int := ofS (newS (anyS r)) [(selW r l).getD (Int.toNat (0 : Int)) (0 : Int)]
noncomputable def firstRows.q15 (r : Int × Int × Int × Int × List (List Int) × ByteArray) (l : List Int) : Prop := ((((True ∧ okG (anyS r)) ∧ (trimS (anyS r)).2 = (0 : Int)) ∧ ((0 : Int) != (0 : Int)) = false) ∧ syP (anyS r) (4 : Int)) ∧ (symsS (anyS r) l (4 : Int)).length ≤ (9223372036854775807 : Nat)
noncomputable def firstRows.q9 (r : Int × Int × Int × Int × List (List Int) × ByteArray) (l : List Int) : Prop := ((firstRows.q15 r l) ∧ frP (symsS (anyS r) l (4 : Int)) (↑(symsS (anyS r) l (4 : Int)).length : Int) (0 : Int) (anyS r) (newS (anyS r)) []) ∧ List.length (anyS r).1 ≤ (9223372036854775807 : Nat)
noncomputable def firstRows.q1 (r : Int × Int × Int × Int × List (List Int) × ByteArray) (l : List Int) : Prop := ((firstRows.q9 r l) ∧ (0 : Int) < IntKind.i64.wrap ((↑(List.length (anyS r).1) : Int) + (1 : Int)) ∧ IntKind.i64.wrap ((↑(List.length (anyS r).1) : Int) + (1 : Int)) ≤ (9223372036854775807 : Int)) ∧ (selW r l).length ≤ (9223372036854775807 : Nat)
noncomputable def firstRows.q7 (r : Int × Int × Int × Int × List (List Int) × ByteArray) (l : List Int) : Prop := ((firstRows.q1 r l) ∧ ((↑(selW r l).length : Int) == (0 : Int)) = false) ∧ (0 : Int) ≤ (0 : Int) ∧ (0 : Int) < (↑(selW r l).length : Int)
noncomputable def firstRows.q0 (r : Int × Int × Int × Int × List (List Int) × ByteArray) (l : List Int) : Prop := (((firstRows.q7 r l) ∧ Int.toNat (0 : Int) < (selW r l).length) ∧ okTab (newS (anyS r)) ∧ okR [(selW r l).getD (Int.toNat (0 : Int)) (0 : Int)]) ∧ okU (firstRows.q4 r l)
noncomputable def firstRows.q12 (r : Int × Int × Int × Int × List (List Int) × ByteArray) (l : List Int) : Prop := ((firstRows.q0 r l) ∧ hI (firstRows.q4 r l) (0 : Int) = true) ∧ okTab (newS (anyS r)) ∧ okR (selW r l) ∧ okU (firstRows.q4 r l) ∧ (1 : Nat) ≤ (selW r l).length
noncomputable def firstRows.q2 (r : Int × Int × Int × Int × List (List Int) × ByteArray) (l : List Int) : Prop := ((firstRows.q12 r l) ∧ okTab (newS (anyS r)) ∧ okR (selW r l)) ∧ okU (ofS (newS (anyS r)) (selW r l))
noncomputable def firstRows.q3 (r : Int × Int × Int × Int × List (List Int) × ByteArray) (l : List Int) : Prop := (((firstRows.q0 r l) ∧ hI (firstRows.q4 r l) (0 : Int) = false) ∧ okTab (newS (anyS r)) ∧ okR (selW r l)) ∧ okU (ofS (newS (anyS r)) (selW r l))
noncomputable def firstRows.q13 (r : Int × Int × Int × Int × List (List Int) × ByteArray) (l : List Int) : Prop := ((firstRows.q2 r l) ∧ hI (ofS (newS (anyS r)) (selW r l)) (0 : Int) = true) ∧ okU (ofS (newS (anyS r)) (selW r l)) ∧ okU (ofI [(0 : Int)] (0 : Int))
noncomputable def firstRows.q5 (r : Int × Int × Int × Int × List (List Int) × ByteArray) (l : List Int) : Prop := ((firstRows.q13 r l) ∧ okU (lI (ofS (newS (anyS r)) (selW r l)) (ofI [(0 : Int)] (0 : Int)))) ∧ (ofS (newS (anyS r)) (selW r l) == jI (lI (firstRows.q4 r l) endS) (ofS (newS (anyS r)) (List.drop (1 : Nat) (selW r l)))) = true
noncomputable def firstRows.q14 (r : Int × Int × Int × Int × List (List Int) × ByteArray) (l : List Int) : Prop := ((firstRows.q3 r l) ∧ hI (ofS (newS (anyS r)) (selW r l)) (0 : Int) = true) ∧ okU (ofS (newS (anyS r)) (selW r l)) ∧ okU (ofI [(0 : Int)] (0 : Int))
noncomputable def firstRows.q6 (r : Int × Int × Int × Int × List (List Int) × ByteArray) (l : List Int) : Prop := ((firstRows.q14 r l) ∧ okU (lI (ofS (newS (anyS r)) (selW r l)) (ofI [(0 : Int)] (0 : Int)))) ∧ (ofS (newS (anyS r)) (selW r l) == ofS (newS (anyS r)) [(selW r l).getD (Int.toNat (0 : Int)) (0 : Int)]) = true
noncomputable def firstRows.q8 (r : Int × Int × Int × Int × List (List Int) × ByteArray) (l : List Int) : Prop := ((firstRows.q2 r l) ∧ hI (ofS (newS (anyS r)) (selW r l)) (0 : Int) = false) ∧ (ofS (newS (anyS r)) (selW r l) == jI (lI (firstRows.q4 r l) endS) (ofS (newS (anyS r)) (List.drop (1 : Nat) (selW r l)))) = true
noncomputable def firstRows.q10 (r : Int × Int × Int × Int × List (List Int) × ByteArray) (l : List Int) : Prop := ((firstRows.q3 r l) ∧ hI (ofS (newS (anyS r)) (selW r l)) (0 : Int) = false) ∧ (ofS (newS (anyS r)) (selW r l) == ofS (newS (anyS r)) [(selW r l).getD (Int.toNat (0 : Int)) (0 : Int)]) = true
noncomputable def firstRows.q11 (r : Int × Int × Int × Int × List (List Int) × ByteArray) (l : List Int) : Prop := (((firstRows.q1 r l) ∧ ((↑(selW r l).length : Int) == (0 : Int)) = true) ∧ okTab (newS (anyS r)) ∧ okR []) ∧ (ofS (newS (anyS r)) [] == ofI [(0 : Int)] (0 : Int)) = true
noncomputable def firstRows.T (r : Int × Int × Int × Int × List (List Int) × ByteArray) (l : List Int) (a : Int) : Prop := (True ∧ ¬okG (anyS r) → False) ∧ ((((True ∧ okG (anyS r)) ∧ ¬(trimS (anyS r)).2 = (0 : Int)) ∧ ((trimS (anyS r)).2 != (0 : Int)) = true) ∧ ((trimS (anyS r)).2 == (6 : Int)) = true → True ∧ true = true) ∧ ((((True ∧ okG (anyS r)) ∧ ¬(trimS (anyS r)).2 = (0 : Int)) ∧ ((trimS (anyS r)).2 != (0 : Int)) = true) ∧ ((trimS (anyS r)).2 == (6 : Int)) = false → True ∧ false = true) ∧ ((((True ∧ okG (anyS r)) ∧ ¬(trimS (anyS r)).2 = (0 : Int)) ∧ ((trimS (anyS r)).2 != (0 : Int)) = false) ∧ ((trimS (anyS r)).2 == (6 : Int)) = true → True ∧ true = true) ∧ ((((True ∧ okG (anyS r)) ∧ ¬(trimS (anyS r)).2 = (0 : Int)) ∧ ((trimS (anyS r)).2 != (0 : Int)) = false) ∧ ((trimS (anyS r)).2 == (6 : Int)) = false → True ∧ false = true) ∧ ((((True ∧ okG (anyS r)) ∧ (trimS (anyS r)).2 = (0 : Int)) ∧ ((0 : Int) != (0 : Int)) = true) ∧ ((0 : Int) == (6 : Int)) = true → True ∧ true = true) ∧ ((((True ∧ okG (anyS r)) ∧ (trimS (anyS r)).2 = (0 : Int)) ∧ ((0 : Int) != (0 : Int)) = true) ∧ ((0 : Int) == (6 : Int)) = false → True ∧ false = true) ∧ ((((True ∧ okG (anyS r)) ∧ (trimS (anyS r)).2 = (0 : Int)) ∧ ((0 : Int) != (0 : Int)) = false) ∧ ¬syP (anyS r) (4 : Int) → False) ∧ ((firstRows.q15 r l) ∧ ¬frP (symsS (anyS r) l (4 : Int)) (↑(symsS (anyS r) l (4 : Int)).length : Int) (0 : Int) (anyS r) (newS (anyS r)) [] → False) ∧ ((firstRows.q9 r l) ∧ ¬((0 : Int) < IntKind.i64.wrap ((↑(List.length (anyS r).1) : Int) + (1 : Int)) ∧ IntKind.i64.wrap ((↑(List.length (anyS r).1) : Int) + (1 : Int)) ≤ (9223372036854775807 : Int)) → False) ∧ (((firstRows.q1 r l) ∧ ((↑(selW r l).length : Int) == (0 : Int)) = true) ∧ ¬(okTab (newS (anyS r)) ∧ okR []) → False) ∧ ((firstRows.q11 r l) ∧ ¬(okTab (newS (anyS r)) ∧ okR []) → False) ∧ (((firstRows.q11 r l) ∧ okTab (newS (anyS r)) ∧ okR []) ∧ (aheadS (newS (anyS r)) [] (a % IntKind.i64.wrap ((↑(List.length (anyS r).1) : Int) + (1 : Int))) == ofI [a % IntKind.i64.wrap ((↑(List.length (anyS r).1) : Int) + (1 : Int))] (0 : Int)) = true → True ∧ true = true) ∧ (((firstRows.q11 r l) ∧ okTab (newS (anyS r)) ∧ okR []) ∧ (aheadS (newS (anyS r)) [] (a % IntKind.i64.wrap ((↑(List.length (anyS r).1) : Int) + (1 : Int))) == ofI [a % IntKind.i64.wrap ((↑(List.length (anyS r).1) : Int) + (1 : Int))] (0 : Int)) = false → True ∧ false = true) ∧ ((((firstRows.q1 r l) ∧ ((↑(selW r l).length : Int) == (0 : Int)) = true) ∧ okTab (newS (anyS r)) ∧ okR []) ∧ (ofS (newS (anyS r)) [] == ofI [(0 : Int)] (0 : Int)) = false → True ∧ false = true) ∧ (((firstRows.q7 r l) ∧ Int.toNat (0 : Int) < (selW r l).length) ∧ ¬(okTab (newS (anyS r)) ∧ okR [(selW r l).getD (Int.toNat (0 : Int)) (0 : Int)]) → False) ∧ ((((firstRows.q7 r l) ∧ Int.toNat (0 : Int) < (selW r l).length) ∧ okTab (newS (anyS r)) ∧ okR [(selW r l).getD (Int.toNat (0 : Int)) (0 : Int)]) ∧ ¬okU (firstRows.q4 r l) → False) ∧ (((firstRows.q0 r l) ∧ hI (firstRows.q4 r l) (0 : Int) = true) ∧ ¬(okTab (newS (anyS r)) ∧ okR (selW r l) ∧ okU (firstRows.q4 r l) ∧ (1 : Nat) ≤ (selW r l).length) → False) ∧ ((firstRows.q12 r l) ∧ ¬(okTab (newS (anyS r)) ∧ okR (selW r l)) → False) ∧ (((firstRows.q12 r l) ∧ okTab (newS (anyS r)) ∧ okR (selW r l)) ∧ ¬okU (ofS (newS (anyS r)) (selW r l)) → False) ∧ (((firstRows.q2 r l) ∧ hI (ofS (newS (anyS r)) (selW r l)) (0 : Int) = true) ∧ ¬(okU (ofS (newS (anyS r)) (selW r l)) ∧ okU (ofI [(0 : Int)] (0 : Int))) → False) ∧ ((firstRows.q13 r l) ∧ ¬okU (lI (ofS (newS (anyS r)) (selW r l)) (ofI [(0 : Int)] (0 : Int))) → False) ∧ ((firstRows.q5 r l) ∧ ¬(okTab (newS (anyS r)) ∧ okR (selW r l)) → False) ∧ (((firstRows.q5 r l) ∧ okTab (newS (anyS r)) ∧ okR (selW r l)) ∧ (aheadS (newS (anyS r)) (selW r l) (a % IntKind.i64.wrap ((↑(List.length (anyS r).1) : Int) + (1 : Int))) == wI (lI (ofS (newS (anyS r)) (selW r l)) (ofI [(0 : Int)] (0 : Int))) (a % IntKind.i64.wrap ((↑(List.length (anyS r).1) : Int) + (1 : Int)))) = true → True ∧ true = true) ∧ (((firstRows.q5 r l) ∧ okTab (newS (anyS r)) ∧ okR (selW r l)) ∧ (aheadS (newS (anyS r)) (selW r l) (a % IntKind.i64.wrap ((↑(List.length (anyS r).1) : Int) + (1 : Int))) == wI (lI (ofS (newS (anyS r)) (selW r l)) (ofI [(0 : Int)] (0 : Int))) (a % IntKind.i64.wrap ((↑(List.length (anyS r).1) : Int) + (1 : Int)))) = false → True ∧ false = true) ∧ (((firstRows.q13 r l) ∧ okU (lI (ofS (newS (anyS r)) (selW r l)) (ofI [(0 : Int)] (0 : Int)))) ∧ (ofS (newS (anyS r)) (selW r l) == jI (lI (firstRows.q4 r l) endS) (ofS (newS (anyS r)) (List.drop (1 : Nat) (selW r l)))) = false → True ∧ false = true) ∧ ((firstRows.q8 r l) ∧ ¬(okTab (newS (anyS r)) ∧ okR (selW r l)) → False) ∧ (((firstRows.q8 r l) ∧ okTab (newS (anyS r)) ∧ okR (selW r l)) ∧ (aheadS (newS (anyS r)) (selW r l) (a % IntKind.i64.wrap ((↑(List.length (anyS r).1) : Int) + (1 : Int))) == ofS (newS (anyS r)) (selW r l)) = true → True ∧ true = true) ∧ (((firstRows.q8 r l) ∧ okTab (newS (anyS r)) ∧ okR (selW r l)) ∧ (aheadS (newS (anyS r)) (selW r l) (a % IntKind.i64.wrap ((↑(List.length (anyS r).1) : Int) + (1 : Int))) == ofS (newS (anyS r)) (selW r l)) = false → True ∧ false = true) ∧ (((firstRows.q2 r l) ∧ hI (ofS (newS (anyS r)) (selW r l)) (0 : Int) = false) ∧ (ofS (newS (anyS r)) (selW r l) == jI (lI (firstRows.q4 r l) endS) (ofS (newS (anyS r)) (List.drop (1 : Nat) (selW r l)))) = false → True ∧ false = true) ∧ (((firstRows.q0 r l) ∧ hI (firstRows.q4 r l) (0 : Int) = false) ∧ ¬(okTab (newS (anyS r)) ∧ okR (selW r l)) → False) ∧ ((((firstRows.q0 r l) ∧ hI (firstRows.q4 r l) (0 : Int) = false) ∧ okTab (newS (anyS r)) ∧ okR (selW r l)) ∧ ¬okU (ofS (newS (anyS r)) (selW r l)) → False) ∧ (((firstRows.q3 r l) ∧ hI (ofS (newS (anyS r)) (selW r l)) (0 : Int) = true) ∧ ¬(okU (ofS (newS (anyS r)) (selW r l)) ∧ okU (ofI [(0 : Int)] (0 : Int))) → False) ∧ ((firstRows.q14 r l) ∧ ¬okU (lI (ofS (newS (anyS r)) (selW r l)) (ofI [(0 : Int)] (0 : Int))) → False) ∧ ((firstRows.q6 r l) ∧ ¬(okTab (newS (anyS r)) ∧ okR (selW r l)) → False) ∧ (((firstRows.q6 r l) ∧ okTab (newS (anyS r)) ∧ okR (selW r l)) ∧ (aheadS (newS (anyS r)) (selW r l) (a % IntKind.i64.wrap ((↑(List.length (anyS r).1) : Int) + (1 : Int))) == wI (lI (ofS (newS (anyS r)) (selW r l)) (ofI [(0 : Int)] (0 : Int))) (a % IntKind.i64.wrap ((↑(List.length (anyS r).1) : Int) + (1 : Int)))) = true → True ∧ true = true) ∧ (((firstRows.q6 r l) ∧ okTab (newS (anyS r)) ∧ okR (selW r l)) ∧ (aheadS (newS (anyS r)) (selW r l) (a % IntKind.i64.wrap ((↑(List.length (anyS r).1) : Int) + (1 : Int))) == wI (lI (ofS (newS (anyS r)) (selW r l)) (ofI [(0 : Int)] (0 : Int))) (a % IntKind.i64.wrap ((↑(List.length (anyS r).1) : Int) + (1 : Int)))) = false → True ∧ false = true) ∧ (((firstRows.q14 r l) ∧ okU (lI (ofS (newS (anyS r)) (selW r l)) (ofI [(0 : Int)] (0 : Int)))) ∧ (ofS (newS (anyS r)) (selW r l) == ofS (newS (anyS r)) [(selW r l).getD (Int.toNat (0 : Int)) (0 : Int)]) = false → True ∧ false = true) ∧ ((firstRows.q10 r l) ∧ ¬(okTab (newS (anyS r)) ∧ okR (selW r l)) → False) ∧ (((firstRows.q10 r l) ∧ okTab (newS (anyS r)) ∧ okR (selW r l)) ∧ (aheadS (newS (anyS r)) (selW r l) (a % IntKind.i64.wrap ((↑(List.length (anyS r).1) : Int) + (1 : Int))) == ofS (newS (anyS r)) (selW r l)) = true → True ∧ true = true) ∧ (((firstRows.q10 r l) ∧ okTab (newS (anyS r)) ∧ okR (selW r l)) ∧ (aheadS (newS (anyS r)) (selW r l) (a % IntKind.i64.wrap ((↑(List.length (anyS r).1) : Int) + (1 : Int))) == ofS (newS (anyS r)) (selW r l)) = false → True ∧ false = true) ∧ (((firstRows.q3 r l) ∧ hI (ofS (newS (anyS r)) (selW r l)) (0 : Int) = false) ∧ (ofS (newS (anyS r)) (selW r l) == ofS (newS (anyS r)) [(selW r l).getD (Int.toNat (0 : Int)) (0 : Int)]) = false → True ∧ false = true) ∧ ((firstRows.q7 r l) ∧ ¬Int.toNat (0 : Int) < (selW r l).length → False) ∧ (((firstRows.q1 r l) ∧ ((↑(selW r l).length : Int) == (0 : Int)) = false) ∧ ¬((0 : Int) ≤ (0 : Int) ∧ (0 : Int) < (↑(selW r l).length : Int)) → False) ∧ (True)
theorem firstRows.eq  (r : Int × Int × Int × Int × List (List Int) × ByteArray) (l : List Int) (a : Int) : firstRows.g  r l a = firstRows.T  r l a := by kernel_rfl
theorem firstRows.ok  (r : Int × Int × Int × Int × List (List Int) × ByteArray) (l : List Int) (a : Int) (hx : okR l) : firstRows.T  r l a := by
  obtain ⟨hc, hg⟩ := any_chk r
  have hk := chk_of hc
  have hn1 := hk.n1
  have hn2 := hk.n2
  have ht1 := hk.t1
  have ht2 := hk.t2
  have hgs := hg.1
  have hsy := symsS_okR (g := anyS r) ht1 (by omega) (by omega) hx 4
  have hyl : (symsS (anyS r) l 4).length ≤ 4 := by rw [symsS, List.length_map]; exact List.length_take_le _ _
  have hsl : selW r l = List.filter (selB (anyS r) (newS (anyS r))) (symsS (anyS r) l 4) := rfl
  have hR : okR (selW r l) := fun m hm => hsy m (List.mem_filter.1 (hsl ▸ hm)).1
  have h1 : ∀ m ∈ selW r l, oneS (newS (anyS r)) m ≠ 0 := fun m hm => by
    rw [hsl] at hm
    have := (List.mem_filter.1 hm).2
    rw [selB, Bool.and_eq_true, decide_eq_true_eq] at this
    exact ofS_one this.2
  have hlen : (selW r l).length ≤ 4 := by rw [hsl]; exact Nat.le_trans (List.length_filter_le _ _) hyl
  obtain ⟨ht, _⟩ := newS_ok hc hg
  have ht2' : (newS (anyS r)).2 = ((anyS r).1.length : Int) := rfl
  have h06 := trim_06 hc
  have ew : IntKind.i64.wrap (((anyS r).1.length : Int) + 1) = ((anyS r).1.length : Int) + 1 := wrapI64 (by omega) (by omega)
  have ea1 := Int.emod_nonneg a (show ((anyS r).1.length : Int) + 1 ≠ 0 by omega)
  have ea2 := Int.emod_lt_of_pos a (show 0 < ((anyS r).1.length : Int) + 1 by omega)
  have hsp : syP (anyS r) 4 := ⟨by decide, by decide, ht1, by omega, by omega⟩
  have hfp : frP (symsS (anyS r) l 4) ((symsS (anyS r) l 4).length : Int) 0 (anyS r) (newS (anyS r)) [] := ⟨rfl, by omega, by omega, by omega, hgs, ht, hsy, Nat.zero_le _⟩
  delta firstRows.T firstRows.q4 firstRows.q15 firstRows.q9 firstRows.q1 firstRows.q7 firstRows.q0 firstRows.q12 firstRows.q2 firstRows.q3 firstRows.q13 firstRows.q5 firstRows.q14 firstRows.q6 firstRows.q8 firstRows.q10 firstRows.q11
  rw [ew]
  clear hsl
  generalize selW r l = s at *
  generalize symsS (anyS r) l 4 = y at *
  generalize a % (((anyS r).1.length : Int) + 1) = a' at *
  generalize newS (anyS r) = t at *
  simp only [show ofI [0] 0 = endS from rfl, show Int.toNat 0 = 0 from rfl]
  by_cases h0 : (trimS (anyS r)).2 = 0
  · rw [h0]
    cases s with
    | nil =>
      have hn0 : okR [] := hR
      have q1 := ofS_nil t
      have q2 := ahead_nil t (a := a') ea1 (by omega)
      rw [q1, q2]
      ((repeat' (first | exact trivial | apply And.intro)) <;> (intro hw; (try (simp only [true_and, and_true, decide_eq_true_eq, decide_eq_false_iff_not, beq_iff_eq, bne_iff_ne, beq_eq_false_iff_ne, bne_eq_false_iff_eq, ne_eq, Bool.not_eq_true, Bool.not_eq_false, not_true_eq_false, not_false_eq_true, Bool.not_eq_eq_eq_not, Bool.not_true, Bool.not_false, forall_const, imp_self, Bool.true_eq_false, Bool.false_eq_true, reduceCtorEq] at hw)); (try first | (exfalso; omega) | exact ⟨trivial, rfl⟩ | exact (hw hx).elim | exact (hw.2 hx).elim)))
      all_goals first
        | (exfalso; omega)
        | exact (hw hg).elim
        | exact (hw.2 hsp).elim
        | exact (hw.2 hfp).elim
        | exact (hw.2 ⟨ht, hn0⟩).elim
        | exact ⟨trivial, trivial⟩
        | (exfalso; simp at hw; done)
        | trace_state
    | cons m q =>
      have sp := ofS_split ht h1
      have hm1 : okR [m] := fun x hx => by rw [List.mem_singleton.1 hx]; exact hR m (List.mem_cons_self ..)
      have u1 := okU_ofS ht [m]
      have u2 := okU_ofS ht (m :: q)
      have u3 := okU_l (t := endS) u2
      have he := okU_end
      have ha : aheadS t (m :: q) a' = if hI (ofS t (m :: q)) 0 = true then wI (lI (ofS t (m :: q)) endS) a' else ofS t (m :: q) := by
        rw [aheadS, if_pos (show 0 ≤ a' ∧ a' ≤ t.2 from ⟨ea1, by omega⟩)]
      have hd : (m :: q).drop 1 = q := rfl
      have hl4 : 1 ≤ (m :: q).length := by rw [List.length_cons]; omega
      rw [ha, hd, List.getD_cons_zero]
      clear ha
      generalize ofS t (m :: q) = al at *
      generalize ofS t [m] = w at *
      generalize ofS t q = v at *
      by_cases c2 : hI al 0 = true
      · rw [c2]
        by_cases c1 : hI w 0 = true
        · rw [if_pos c1] at sp
          rw [c1, sp]
          ((repeat' (first | exact trivial | apply And.intro)) <;> (intro hw; (try (simp only [true_and, and_true, decide_eq_true_eq, decide_eq_false_iff_not, beq_iff_eq, bne_iff_ne, beq_eq_false_iff_ne, bne_eq_false_iff_eq, ne_eq, Bool.not_eq_true, Bool.not_eq_false, not_true_eq_false, not_false_eq_true, Bool.not_eq_eq_eq_not, Bool.not_true, Bool.not_false, forall_const, imp_self, Bool.true_eq_false, Bool.false_eq_true, reduceCtorEq] at hw)); (try first | (exfalso; omega) | exact ⟨trivial, rfl⟩ | exact (hw hx).elim | exact (hw.2 hx).elim)))
          all_goals first
            | (exfalso; omega)
            | exact (hw hg).elim
            | exact (hw.2 hsp).elim
            | exact (hw.2 hfp).elim
            | exact (hw.2 ⟨ht, hm1⟩).elim
            | exact (hw.2 ⟨ht, hR⟩).elim
            | exact (hw.2 u1).elim
            | exact (hw.2 ⟨ht, hR, u1, hl4⟩).elim
            | exact (hw.2 (sp ▸ u2)).elim
            | exact (hw.2 ⟨sp ▸ u2, he⟩).elim
            | exact (hw.2 (sp ▸ u3)).elim
            | exact ⟨trivial, trivial⟩
            | (exfalso; simp at hw; done)
            | trace_state
        · rw [if_neg c1] at sp
          rw [Bool.not_eq_true] at c1
          rw [c1, sp]
          ((repeat' (first | exact trivial | apply And.intro)) <;> (intro hw; (try (simp only [true_and, and_true, decide_eq_true_eq, decide_eq_false_iff_not, beq_iff_eq, bne_iff_ne, beq_eq_false_iff_ne, bne_eq_false_iff_eq, ne_eq, Bool.not_eq_true, Bool.not_eq_false, not_true_eq_false, not_false_eq_true, Bool.not_eq_eq_eq_not, Bool.not_true, Bool.not_false, forall_const, imp_self, Bool.true_eq_false, Bool.false_eq_true, reduceCtorEq] at hw)); (try first | (exfalso; omega) | exact ⟨trivial, rfl⟩ | exact (hw hx).elim | exact (hw.2 hx).elim)))
          all_goals first
            | (exfalso; omega)
            | exact (hw hg).elim
            | exact (hw.2 hsp).elim
            | exact (hw.2 hfp).elim
            | exact (hw.2 ⟨ht, hm1⟩).elim
            | exact (hw.2 ⟨ht, hR⟩).elim
            | exact (hw.2 u1).elim
            | exact (hw.2 ⟨u1, he⟩).elim
            | exact (hw.2 (sp ▸ u3)).elim
            | exact ⟨trivial, trivial⟩
            | (exfalso; simp at hw; done)
            | trace_state
      · rw [if_neg c2]
        rw [Bool.not_eq_true] at c2
        rw [c2]
        by_cases c1 : hI w 0 = true
        · rw [if_pos c1] at sp
          rw [c1, sp]
          ((repeat' (first | exact trivial | apply And.intro)) <;> (intro hw; (try (simp only [true_and, and_true, decide_eq_true_eq, decide_eq_false_iff_not, beq_iff_eq, bne_iff_ne, beq_eq_false_iff_ne, bne_eq_false_iff_eq, ne_eq, Bool.not_eq_true, Bool.not_eq_false, not_true_eq_false, not_false_eq_true, Bool.not_eq_eq_eq_not, Bool.not_true, Bool.not_false, forall_const, imp_self, Bool.true_eq_false, Bool.false_eq_true, reduceCtorEq] at hw)); (try first | (exfalso; omega) | exact ⟨trivial, rfl⟩ | exact (hw hx).elim | exact (hw.2 hx).elim)))
          all_goals first
            | (exfalso; omega)
            | exact (hw hg).elim
            | exact (hw.2 hsp).elim
            | exact (hw.2 hfp).elim
            | exact (hw.2 ⟨ht, hm1⟩).elim
            | exact (hw.2 ⟨ht, hR⟩).elim
            | exact (hw.2 u1).elim
            | exact (hw.2 ⟨ht, hR, u1, hl4⟩).elim
            | exact (hw.2 (sp ▸ u2)).elim
            | exact ⟨trivial, trivial⟩
            | (exfalso; simp at hw; done)
            | trace_state
        · rw [if_neg c1] at sp
          rw [Bool.not_eq_true] at c1
          rw [c1, sp]
          ((repeat' (first | exact trivial | apply And.intro)) <;> (intro hw; (try (simp only [true_and, and_true, decide_eq_true_eq, decide_eq_false_iff_not, beq_iff_eq, bne_iff_ne, beq_eq_false_iff_ne, bne_eq_false_iff_eq, ne_eq, Bool.not_eq_true, Bool.not_eq_false, not_true_eq_false, not_false_eq_true, Bool.not_eq_eq_eq_not, Bool.not_true, Bool.not_false, forall_const, imp_self, Bool.true_eq_false, Bool.false_eq_true, reduceCtorEq] at hw)); (try first | (exfalso; omega) | exact ⟨trivial, rfl⟩ | exact (hw hx).elim | exact (hw.2 hx).elim)))
          all_goals first
            | (exfalso; omega)
            | exact (hw hg).elim
            | exact (hw.2 hsp).elim
            | exact (hw.2 hfp).elim
            | exact (hw.2 ⟨ht, hm1⟩).elim
            | exact (hw.2 ⟨ht, hR⟩).elim
            | exact (hw.2 u1).elim
            | exact ⟨trivial, trivial⟩
            | (exfalso; simp at hw; done)
            | trace_state
  · rw [h06 h0]
    ((repeat' (first | exact trivial | apply And.intro)) <;> (intro hw; (try (simp only [true_and, and_true, decide_eq_true_eq, decide_eq_false_iff_not, beq_iff_eq, bne_iff_ne, beq_eq_false_iff_ne, bne_eq_false_iff_eq, ne_eq, Bool.not_eq_true, Bool.not_eq_false, not_true_eq_false, not_false_eq_true, Bool.not_eq_eq_eq_not, Bool.not_true, Bool.not_false, forall_const, imp_self, Bool.true_eq_false, Bool.false_eq_true, reduceCtorEq] at hw)); (try first | (exfalso; omega) | exact ⟨trivial, rfl⟩ | exact (hw hx).elim | exact (hw.2 hx).elim)))
    all_goals first
      | (exfalso; omega)
      | exact (hw hg).elim
      | exact ⟨trivial, trivial⟩
      | (exfalso; simp at hw; done)
      | trace_state
theorem firstRows.fn   : FnOk Tryd.prog firstRows := fn_evalH (l := [(0, frL), (1000017, frR17)]) (lf := 1000) (fun _ => cfOf_ok (fns_cons any.fn (fns_cons newFc.fn (fns_cons symsF.fn (fns_cons within.fn (fns_cons ofF.fn (fns_cons aheadF.fn (fns_cons setOf.fn (fns_cons setHas.fn (fns_cons setLess.fn (fns_cons setJoin.fn (fns_cons setWith.fn (fns_cons wakes06.fn (fns_nil _)))))))))))))) _ (lps_cons (frL.lp) (lps_cons (frR17.lp) (lps_nil _ _))) (by kernel_rfl) (fun ⟨r, l, a⟩ hx => Hid.of (firstRows.eq  r l a) (firstRows.ok  r l a hx))
theorem firstRows_pre (x : Raw) (l : List Int) (a : Int) (h0 : rng RAW x) (h1 : rng (.sl (.int .i64)) l) (h2 : rng (.int .i64) a) : holds (firstRows.pre (x, l, a)) := fun s hs => Int.le_trans (h1.2 s hs).2 (by decide)
end Go.Proofs.YtajnboigikdefaaDoor.D
