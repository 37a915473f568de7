/- Texts that the proof of a law rests on, put together: part 43. -/
import Derived.Test.YtdmljeaigjfenaaMy42
import Derived.Test.YtdmljeaigjfenaaProg
namespace Go.Proofs.Ytdmljeaigjfenaa.D
open Go Go.EV Go.Proofs
set_option linter.unusedVariables false
set_option linter.unusedSimpArgs false
set_option maxRecDepth 100000
noncomputable def within  : Face := ⟨17, [.v (.int .i64), .v (.int .i64)], fun (v, n) => some (0 < n ∧ n ≤ 9223372036854775807),
  [⟨false, [.v (.int .i64)], fun (v, n) => v % n, fun (v, n) => none⟩]⟩
noncomputable def within.g  (v : Int) (n : Int) : Prop := GoodFA Try.prog (cfOf []) [] 1000 within (v, n)
noncomputable def within.T (v : Int) (n : Int) : Prop := (True ∧ decide (n < (1 : Int)) = true → True ∧ (0 : Int) = v % n) ∧ (((True ∧ decide (n < (1 : Int)) = false) ∧ n ≠ (0 : Int)) ∧ decide (v.tmod n < (0 : Int)) = true → True ∧ IntKind.i64.wrap (v.tmod n + n) = v % n) ∧ (((True ∧ decide (n < (1 : Int)) = false) ∧ n ≠ (0 : Int)) ∧ decide (v.tmod n < (0 : Int)) = false → True ∧ v.tmod n = v % n) ∧ ((True ∧ decide (n < (1 : Int)) = false) ∧ ¬n ≠ (0 : Int) → False) ∧ (True)
theorem within.eq  (v : Int) (n : Int) : within.g  v n = within.T  v n := by kernel_rfl
theorem within.ok  (v : Int) (n : Int) (hx : 0 < n ∧ n ≤ 9223372036854775807) : within.T  v n := by
  obtain ⟨h1, h2⟩ := hx
  have hr := Int.emod_nonneg v (show n ≠ 0 by omega)
  have hl := Int.emod_lt_of_pos v h1
  have ht : v.tmod n = v % n - ((if 0 ≤ v ∨ n ∣ v then 0 else n.natAbs : Nat) : Int) := Int.tmod_eq_emod
  ((repeat' (first | exact trivial | apply And.intro)) <;> (intro hw; (try (simp only [true_and, and_true, decide_eq_true_eq, decide_eq_false_iff_not, beq_iff_eq, bne_iff_ne, beq_eq_false_iff_ne, bne_eq_false_iff_eq, ne_eq, Bool.not_eq_true, Bool.not_eq_false, not_true_eq_false, not_false_eq_true, Bool.not_eq_eq_eq_not, Bool.not_true, Bool.not_false, forall_const, imp_self, Bool.true_eq_false, Bool.false_eq_true, reduceCtorEq] at hw)); (try first | (exfalso; omega) | exact ⟨trivial, rfl⟩ | exact (hw hx).elim | exact (hw.2 hx).elim)))
  · refine ⟨trivial, ?_⟩
    by_cases hc : 0 ≤ v ∨ n ∣ v
    · rw [if_pos hc] at ht; omega
    · rw [if_neg hc] at ht
      rw [wrapI64 (by omega) (by omega)]; omega
  · refine ⟨trivial, ?_⟩
    by_cases hc : 0 ≤ v ∨ n ∣ v
    · rw [if_pos hc] at ht; omega
    · rw [if_neg hc] at ht; omega
theorem within.fn   : FnOk Try.prog within := fn_evalH (l := []) (lf := 1000) (fun _ => cfOf_ok (fns_nil _)) _ (lps_nil _ _) (by kernel_rfl) (fun ⟨v, n⟩ hx => Hid.of (within.eq  v n) (within.ok  v n hx))
def sameS : List Int → List Int → Bool
  | [], [] => true
  | a :: r, b :: s => decide (a = b) && sameS r s
  | _, _ => false
theorem sameS_len : ∀ {a b : List Int}, sameS a b = true → a.length = b.length
  | [], [], _ => rfl
  | [], _ :: _, h => by simp [sameS] at h
  | _ :: _, [], h => by simp [sameS] at h
  | a :: r, b :: s, h => by
    simp only [sameS, Bool.and_eq_true] at h
    simp [sameS_len h.2]
theorem sameS_iff : ∀ {a b : List Int}, sameS a b = true ↔ a = b
  | [], [] => by simp [sameS]
  | [], _ :: _ => by simp [sameS]
  | _ :: _, [] => by simp [sameS]
  | a :: r, b :: s => by simp [sameS, sameS_iff (a := r) (b := s)]
mutual
def leavesS : Tree → List Int
  | .mk s p ks => if p = -1 then [s] else leavesL ks
def leavesL : List Tree → List Int
  | [] => []
  | k :: r => leavesS k ++ leavesL r
end
def BIG : Nat := 1000000
noncomputable def leaves (d : Nat) : Face := ⟨25, [.v .tree], fun t => some (depthT t ≤ d ∧ (leavesS t).length ≤ BIG),
  [⟨false, [.row (.int .i64) 3], fun t => leavesS t, fun t => none⟩]⟩
noncomputable def leaves.L0 (d : Nat) : LFace := ⟨[3, 13, 14, 15], [.row (.int .i64) 3, .v (.sl .tree), .v (.int .i64), .v (.int .i64)], fun (out, ks, len, i) => some (len = ks.length ∧ 0 ≤ i ∧ i ≤ len ∧ depthsT ks ≤ d ∧ ks.length ≤ 9223372036854775807 ∧ (out ++ leavesL (ks.drop i.toNat)).length ≤ BIG),
  [⟨.normal, [3], [.row (.int .i64) 3], fun (out, ks, len, i) => out ++ leavesL (ks.drop i.toNat), fun (out, ks, len, i) => none⟩]⟩
noncomputable def leaves.L0.mu (d : Nat) : dens (leaves.L0 d).sh → Nat := fun (out, ks, len, i) => (len - i).toNat
noncomputable def leaves.L0.g (d : Nat) (out : List Int) (ks : List Tree) (len : Int) (i : Int) : Prop := GoodLA Try.prog (cfOf [leaves d]) [] 1000 25 0 (leaves.L0 d) (leaves.L0.mu d) (out, ks, len, i)
noncomputable def leaves.L0.q0 (d : Nat) (ks : List Tree) (len : Int) (i : Int) : Prop := ((True ∧ decide (i < len) = true) ∧ (0 : Int) ≤ i ∧ i < (↑ks.length : Int)) ∧ depthT (eT (ks.getD i.toNat (Tree.mk (0 : Int) (0 : Int) []))) ≤ d ∧ (leavesS (eT (ks.getD i.toNat (Tree.mk (0 : Int) (0 : Int) [])))).length ≤ BIG
noncomputable def leaves.L0.T0 (d : Nat) (out : List Int) (ks : List Tree) (len : Int) (i : Int) : Prop := (((True ∧ decide (i < len) = true) ∧ (0 : Int) ≤ i ∧ i < (↑ks.length : Int)) ∧ ¬(depthT (eT (ks.getD i.toNat (Tree.mk (0 : Int) (0 : Int) []))) ≤ d ∧ (leavesS (eT (ks.getD i.toNat (Tree.mk (0 : Int) (0 : Int) [])))).length ≤ BIG) → False) ∧ ((leaves.L0.q0 d ks len i) ∧ (out.length + (leavesS (eT (ks.getD i.toNat (Tree.mk (0 : Int) (0 : Int) [])))).length) * (8 : Nat) ≤ (140737488355328 : Nat) → (len = (↑ks.length : Int) ∧ (0 : Int) ≤ IntKind.i64.wrap (i + (1 : Int)) ∧ IntKind.i64.wrap (i + (1 : Int)) ≤ len ∧ depthsT ks ≤ d ∧ ks.length ≤ (9223372036854775807 : Nat) ∧ (out ++ leavesS (eT (ks.getD i.toNat (Tree.mk (0 : Int) (0 : Int) []))) ++ leavesL (List.drop (IntKind.i64.wrap (i + (1 : Int))).toNat ks)).length ≤ BIG) ∧ leaves.L0.mu d (out ++ leavesS (eT (ks.getD i.toNat (Tree.mk (0 : Int) (0 : Int) []))), ks, len, IntKind.i64.wrap (i + (1 : Int))) < leaves.L0.mu d (out, ks, len, i) ∧ (True → True ∧ out ++ leavesS (eT (ks.getD i.toNat (Tree.mk (0 : Int) (0 : Int) []))) ++ leavesL (List.drop (IntKind.i64.wrap (i + (1 : Int))).toNat ks) = out ++ leavesL (List.drop i.toNat ks)) ∧ True) ∧ ((leaves.L0.q0 d ks len i) ∧ ¬(out.length + (leavesS (eT (ks.getD i.toNat (Tree.mk (0 : Int) (0 : Int) [])))).length) * (8 : Nat) ≤ (140737488355328 : Nat) → False) ∧ ((True ∧ decide (i < len) = true) ∧ ¬((0 : Int) ≤ i ∧ i < (↑ks.length : Int)) → False) ∧ (True ∧ decide (i < len) = false → True ∧ out = out ++ leavesL (List.drop i.toNat ks)) ∧ (True)
theorem leaves.L0.eq (d : Nat) (out : List Int) (ks : List Tree) (len : Int) (i : Int) : leaves.L0.g d out ks len i = leaves.L0.T0 d out ks len i := by kernel_rfl
theorem leaves.L0.ok (d : Nat) (out : List Int) (ks : List Tree) (len : Int) (i : Int) (hx : len = ks.length ∧ 0 ≤ i ∧ i ≤ len ∧ depthsT ks ≤ d ∧ ks.length ≤ 9223372036854775807 ∧ (out ++ leavesL (ks.drop i.toNat)).length ≤ BIG) : leaves.L0.T0 d out ks len i := by
  delta leaves.L0.T0 leaves.L0.q0
  repeat rw [eT_eq]
  obtain ⟨rfl, h2, h3, h4, h5, h6⟩ := hx
  simp only [BIG] at h6
  ((repeat' (first | exact trivial | apply And.intro)) <;> (intro hw; (try (simp only [true_and, and_true, decide_eq_true_eq, decide_eq_false_iff_not, beq_iff_eq, bne_iff_ne, beq_eq_false_iff_ne, bne_eq_false_iff_eq, ne_eq, Bool.not_eq_true, Bool.not_eq_false, not_true_eq_false, not_false_eq_true, Bool.not_eq_eq_eq_not, Bool.not_true, Bool.not_false, forall_const, imp_self, Bool.true_eq_false, Bool.false_eq_true, reduceCtorEq] at hw)); (try first | (exfalso; omega) | exact ⟨trivial, rfl⟩ | exact (hw hx).elim | exact (hw.2 hx).elim)))
  · obtain ⟨⟨-, h7, h8⟩, h9⟩ := hw
    rw [drop_int (Tree.mk 0 0 []) h2 h8, leavesL] at h6
    simp only [List.length_append] at h6
    exact h9 ⟨depthsT_le _ h4 _ (by omega), by simp only [BIG]; omega⟩
  · obtain ⟨⟨⟨-, h7, h8⟩, h9⟩, h10⟩ := hw
    rw [wrapI64 (x := i + 1) (by omega) (by omega), drop_int (Tree.mk 0 0 []) h2 h8, leavesL]
    rw [drop_int (Tree.mk 0 0 []) h2 h8, leavesL] at h6
    refine ⟨⟨rfl, by omega, by omega, h4, h5, ?_⟩, by simp only [leaves.L0.mu]; omega, fun _ => ⟨trivial, List.append_assoc _ _ _⟩, trivial⟩
    rw [List.append_assoc]; exact h6
  · obtain ⟨⟨⟨-, h7, h8⟩, h9⟩, h10⟩ := hw
    rw [drop_int (Tree.mk 0 0 []) h2 h8, leavesL] at h6
    simp only [List.length_append] at h6
    omega
  · rw [drop_int_end hw, leavesL, List.append_nil]
    exact ⟨trivial, rfl⟩
theorem leaves.L0.lp (d : Nat) (ih : FnOk Try.prog (leaves d)) : LpAt Try.prog 25 0 (leaves.L0 d) := lp_evalH (l := []) (lf := 1000) (fun _ => cfOf_ok (fns_cons ih (fns_nil _))) (lps_nil _ _) (by kernel_rfl) _ (leaves.L0.mu d) (fun ⟨out, ks, len, i⟩ hx => Hid.of (leaves.L0.eq d out ks len i) (leaves.L0.ok d out ks len i hx))
noncomputable def leavesA (d : Nat) : Face := ⟨25, [.v .tree], fun t => some (depthT t ≤ d + 1 ∧ (leavesS t).length ≤ BIG),
  [⟨false, [.row (.int .i64) 3], fun t => leavesS t, fun t => none⟩]⟩
noncomputable def leavesA.g (d : Nat) (t : Tree) : Prop := GoodFA Try.prog (cfOf []) [(0, leaves.L0 d)] 1000 (leavesA d) t
noncomputable def leavesA.T (d : Nat) (t : Tree) : Prop := (True ∧ (t.prod == (-1 : Int)) = true → True ∧ [t.sym] = leavesS t) ∧ (((True ∧ (t.prod == (-1 : Int)) = false) ∧ t.kids.length ≤ (9223372036854775807 : Nat)) ∧ ¬((↑t.kids.length : Int) = (↑t.kids.length : Int) ∧ (0 : Int) ≤ (0 : Int) ∧ (0 : Int) ≤ (↑t.kids.length : Int) ∧ depthsT t.kids ≤ d ∧ t.kids.length ≤ (9223372036854775807 : Nat) ∧ ([] ++ leavesL (List.drop (Int.toNat (0 : Int)) t.kids)).length ≤ BIG) →
  False) ∧ (((True ∧ (t.prod == (-1 : Int)) = false) ∧ t.kids.length ≤ (9223372036854775807 : Nat)) ∧ (↑t.kids.length : Int) = (↑t.kids.length : Int) ∧ (0 : Int) ≤ (0 : Int) ∧ (0 : Int) ≤ (↑t.kids.length : Int) ∧ depthsT t.kids ≤ d ∧ t.kids.length ≤ (9223372036854775807 : Nat) ∧ ([] ++ leavesL (List.drop (Int.toNat (0 : Int)) t.kids)).length ≤ BIG →
  True ∧ [] ++ leavesL (List.drop (Int.toNat (0 : Int)) t.kids) = leavesS t) ∧ (True)
theorem leavesA.eq (d : Nat) (t : Tree) : leavesA.g d t = leavesA.T d t := by kernel_rfl
theorem leavesA.ok (d : Nat) (t : Tree) (hx : depthT t ≤ d + 1 ∧ (leavesS t).length ≤ BIG) : leavesA.T d t := by
  obtain ⟨h1, h2⟩ := hx
  cases t with
  | mk s p ks =>
  simp only [depthT, leavesS] at h1 h2
  simp only [leavesA.T, Tree.prod, Tree.kids, Tree.sym, leavesS]
  ((repeat' (first | exact trivial | apply And.intro)) <;> (intro hw; (try (simp only [true_and, and_true, decide_eq_true_eq, decide_eq_false_iff_not, beq_iff_eq, bne_iff_ne, beq_eq_false_iff_ne, bne_eq_false_iff_eq, ne_eq, Bool.not_eq_true, Bool.not_eq_false, not_true_eq_false, not_false_eq_true, Bool.not_eq_eq_eq_not, Bool.not_true, Bool.not_false, forall_const, imp_self, Bool.true_eq_false, Bool.false_eq_true, reduceCtorEq] at hw)); (try first | (exfalso; omega) | exact ⟨trivial, rfl⟩ | exact (hw hx).elim | exact (hw.2 hx).elim)))
  · rw [if_pos hw]; exact ⟨trivial, rfl⟩
  · obtain ⟨⟨h3, h4⟩, h5⟩ := hw
    rw [if_neg h3] at h2
    exact h5 ⟨Int.le_refl _, by omega, by omega, h4, by simpa using h2⟩
  · rw [if_neg hw.1.1]
    exact ⟨trivial, by simp⟩
theorem leavesA.fn (d : Nat) (ih : FnOk Try.prog (leaves d)) : FnOk Try.prog (leavesA d) := fn_evalH (l := [(0, leaves.L0 d)]) (lf := 1000) (fun _ => cfOf_ok (fns_nil _)) _ (lps_cons (leaves.L0.lp d ih) (lps_nil _ _)) (by kernel_rfl) (fun t hx => Hid.of (leavesA.eq d t) (leavesA.ok d t hx))
theorem leaves.fn : ∀ d, FnOk Try.prog (leaves d)
  | 0 => fn_none fun t hp => depthT_pos t hp.1
  | d + 1 => leavesA.fn d (leaves.fn d)
mutual
def sizeS : Tree → Int
  | .mk _ _ ks => sizesS 1 ks
def sizesS : Int → List Tree → Int
  | n, [] => n
  | n, k :: r => sizesS (IntKind.i64.wrap (n + sizeS k)) r
end
noncomputable def size (d : Nat) : Face := ⟨26, [.v .tree], fun t => some (depthT t ≤ d),
  [⟨false, [.v (.int .i64)], fun t => sizeS t, fun t => none⟩]⟩
noncomputable def size.L0 (d : Nat) : LFace := ⟨[3, 7, 8, 9], [.v (.int .i64), .v (.sl .tree), .v (.int .i64), .v (.int .i64)], fun (n, ks, len, i) => some (len = ks.length ∧ 0 ≤ i ∧ i ≤ len ∧ depthsT ks ≤ d ∧ ks.length ≤ 9223372036854775807),
  [⟨.normal, [3], [.v (.int .i64)], fun (n, ks, len, i) => sizesS n (ks.drop i.toNat), fun (n, ks, len, i) => none⟩]⟩
noncomputable def size.L0.mu (d : Nat) : dens (size.L0 d).sh → Nat := fun (n, ks, len, i) => (len - i).toNat
noncomputable def size.L0.T0 (d : Nat) (n : Int) (ks : List Tree) (len : Int) (i : Int) : Prop := (((True ∧ decide (i < len) = true) ∧ (0 : Int) ≤ i ∧ i < (↑ks.length : Int)) ∧ ¬depthT (eT (ks.getD i.toNat (Tree.mk (0 : Int) (0 : Int) []))) ≤ d → False) ∧ (((True ∧ decide (i < len) = true) ∧ (0 : Int) ≤ i ∧ i < (↑ks.length : Int)) ∧ depthT (eT (ks.getD i.toNat (Tree.mk (0 : Int) (0 : Int) []))) ≤ d →
  (len = (↑ks.length : Int) ∧ (0 : Int) ≤ IntKind.i64.wrap (i + (1 : Int)) ∧ IntKind.i64.wrap (i + (1 : Int)) ≤ len ∧ depthsT ks ≤ d ∧ ks.length ≤ (9223372036854775807 : Nat)) ∧ size.L0.mu d (IntKind.i64.wrap (n + sizeS (eT (ks.getD i.toNat (Tree.mk (0 : Int) (0 : Int) [])))), ks, len, IntKind.i64.wrap (i + (1 : Int))) < size.L0.mu d (n, ks, len, i) ∧ (True → True ∧ sizesS (IntKind.i64.wrap (n + sizeS (eT (ks.getD i.toNat (Tree.mk (0 : Int) (0 : Int) []))))) (List.drop (IntKind.i64.wrap (i + (1 : Int))).toNat ks) = sizesS n (List.drop i.toNat ks)) ∧ True) ∧ ((True ∧ decide (i < len) = true) ∧ ¬((0 : Int) ≤ i ∧ i < (↑ks.length : Int)) → False) ∧ (True ∧ decide (i < len) = false → True ∧ n = sizesS n (List.drop i.toNat ks)) ∧ (True)
theorem size.L0.ok (d : Nat) (n : Int) (ks : List Tree) (len : Int) (i : Int) (hx : len = ks.length ∧ 0 ≤ i ∧ i ≤ len ∧ depthsT ks ≤ d ∧ ks.length ≤ 9223372036854775807) : size.L0.T0 d n ks len i := by
  unfold size.L0.T0
  repeat rw [eT_eq]
  obtain ⟨rfl, h0, hl, hd, hb⟩ := hx
  ((repeat' (first | exact trivial | apply And.intro)) <;> (intro hw; (try (simp only [true_and, and_true, decide_eq_true_eq, decide_eq_false_iff_not, beq_iff_eq, bne_iff_ne, beq_eq_false_iff_ne, bne_eq_false_iff_eq, ne_eq, Bool.not_eq_true, Bool.not_eq_false, not_true_eq_false, not_false_eq_true, Bool.not_eq_eq_eq_not, Bool.not_true, Bool.not_false, forall_const, imp_self, Bool.true_eq_false, Bool.false_eq_true, reduceCtorEq] at hw)); (try first | (exfalso; omega) | exact ⟨trivial, rfl⟩ | exact (hw hx).elim | exact (hw.2 hx).elim)))
  · exact hw.2 (depthsT_le _ hd _ (by omega))
  · obtain ⟨⟨-, h2, h3⟩, h4⟩ := hw
    rw [wrapI64 (x := i + 1) (by omega) (by omega), drop_int (Tree.mk 0 0 []) h2 h3, sizesS]
    refine ⟨⟨rfl, by omega, by omega, hd, hb⟩, by simp only [size.L0.mu]; omega, fun _ => ⟨trivial, rfl⟩, trivial⟩
  · rw [drop_int_end hw]
    exact ⟨trivial, rfl⟩
noncomputable def sizeA (d : Nat) : Face := ⟨26, [.v .tree], fun t => some (depthT t ≤ d + 1),
  [⟨false, [.v (.int .i64)], fun t => sizeS t, fun t => none⟩]⟩
noncomputable def sizeA.T (d : Nat) (t : Tree) : Prop := ((True ∧ t.kids.length ≤ (9223372036854775807 : Nat)) ∧ ¬((↑t.kids.length : Int) = (↑t.kids.length : Int) ∧ (0 : Int) ≤ (0 : Int) ∧ (0 : Int) ≤ (↑t.kids.length : Int) ∧ depthsT t.kids ≤ d ∧ t.kids.length ≤ (9223372036854775807 : Nat)) → False) ∧ ((True ∧ t.kids.length ≤ (9223372036854775807 : Nat)) ∧ (↑t.kids.length : Int) = (↑t.kids.length : Int) ∧ (0 : Int) ≤ (0 : Int) ∧ (0 : Int) ≤ (↑t.kids.length : Int) ∧ depthsT t.kids ≤ d ∧ t.kids.length ≤ (9223372036854775807 : Nat) →
  True ∧ sizesS (1 : Int) (List.drop (Int.toNat (0 : Int)) t.kids) = sizeS t) ∧ (True)
theorem sizeA.ok (d : Nat) (t : Tree) (hx : depthT t ≤ d + 1) : sizeA.T d t := by
  cases t with
  | mk s p ks =>
    simp only [depthT] at hx
    simp only [sizeA.T, Tree.kids, sizeS]
    ((repeat' (first | exact trivial | apply And.intro)) <;> (intro hw; (try (simp only [true_and, and_true, decide_eq_true_eq, decide_eq_false_iff_not, beq_iff_eq, bne_iff_ne, beq_eq_false_iff_ne, bne_eq_false_iff_eq, ne_eq, Bool.not_eq_true, Bool.not_eq_false, not_true_eq_false, not_false_eq_true, Bool.not_eq_eq_eq_not, Bool.not_true, Bool.not_false, forall_const, imp_self, Bool.true_eq_false, Bool.false_eq_true, reduceCtorEq] at hw)); (try first | (exfalso; omega) | exact ⟨trivial, rfl⟩ | exact (hw hx).elim | exact (hw.2 hx).elim)))
noncomputable def rsize (d : Nat) : Face := ⟨15, [.v .tree], fun t => some (depthT t ≤ d),
  [⟨false, [.v (.int .i64)], fun t => sizeS t, fun t => none⟩]⟩
noncomputable def rsize.L0 (d : Nat) : LFace := ⟨[3, 7, 8, 9], [.v (.int .i64), .v (.sl .tree), .v (.int .i64), .v (.int .i64)], fun (n, ks, len, i) => some (len = ks.length ∧ 0 ≤ i ∧ i ≤ len ∧ depthsT ks ≤ d ∧ ks.length ≤ 9223372036854775807),
  [⟨.normal, [3], [.v (.int .i64)], fun (n, ks, len, i) => sizesS n (ks.drop i.toNat), fun (n, ks, len, i) => none⟩]⟩
noncomputable def rsize.L0.mu (d : Nat) : dens (rsize.L0 d).sh → Nat := fun (n, ks, len, i) => (len - i).toNat
noncomputable def rsize.L0.g (d : Nat) (n : Int) (ks : List Tree) (len : Int) (i : Int) : Prop := GoodLA Try.prog (cfOf [rsize d]) [] 1000 15 0 (rsize.L0 d) (rsize.L0.mu d) (n, ks, len, i)
noncomputable def rsize.L0.T0 (d : Nat) (n : Int) (ks : List Tree) (len : Int) (i : Int) : Prop := (((True ∧ decide (i < len) = true) ∧ (0 : Int) ≤ i ∧ i < (↑ks.length : Int)) ∧ ¬depthT (eT (ks.getD i.toNat (Tree.mk (0 : Int) (0 : Int) []))) ≤ d → False) ∧ (((True ∧ decide (i < len) = true) ∧ (0 : Int) ≤ i ∧ i < (↑ks.length : Int)) ∧ depthT (eT (ks.getD i.toNat (Tree.mk (0 : Int) (0 : Int) []))) ≤ d →
  (len = (↑ks.length : Int) ∧ (0 : Int) ≤ IntKind.i64.wrap (i + (1 : Int)) ∧ IntKind.i64.wrap (i + (1 : Int)) ≤ len ∧ depthsT ks ≤ d ∧ ks.length ≤ (9223372036854775807 : Nat)) ∧ rsize.L0.mu d (IntKind.i64.wrap (n + sizeS (eT (ks.getD i.toNat (Tree.mk (0 : Int) (0 : Int) [])))), ks, len, IntKind.i64.wrap (i + (1 : Int))) < rsize.L0.mu d (n, ks, len, i) ∧ (True → True ∧ sizesS (IntKind.i64.wrap (n + sizeS (eT (ks.getD i.toNat (Tree.mk (0 : Int) (0 : Int) []))))) (List.drop (IntKind.i64.wrap (i + (1 : Int))).toNat ks) = sizesS n (List.drop i.toNat ks)) ∧ True) ∧ ((True ∧ decide (i < len) = true) ∧ ¬((0 : Int) ≤ i ∧ i < (↑ks.length : Int)) → False) ∧ (True ∧ decide (i < len) = false → True ∧ n = sizesS n (List.drop i.toNat ks)) ∧ (True)
theorem rsize.L0.eq (d : Nat) (n : Int) (ks : List Tree) (len : Int) (i : Int) : rsize.L0.g d n ks len i = rsize.L0.T0 d n ks len i := by kernel_rfl
theorem rsize.L0.ok (d : Nat) (n : Int) (ks : List Tree) (len : Int) (i : Int) (hx : len = ks.length ∧ 0 ≤ i ∧ i ≤ len ∧ depthsT ks ≤ d ∧ ks.length ≤ 9223372036854775807) : rsize.L0.T0 d n ks len i := by
  unfold rsize.L0.T0
  repeat rw [eT_eq]
  obtain ⟨rfl, h0, hl, hd, hb⟩ := hx
  ((repeat' (first | exact trivial | apply And.intro)) <;> (intro hw; (try (simp only [true_and, and_true, decide_eq_true_eq, decide_eq_false_iff_not, beq_iff_eq, bne_iff_ne, beq_eq_false_iff_ne, bne_eq_false_iff_eq, ne_eq, Bool.not_eq_true, Bool.not_eq_false, not_true_eq_false, not_false_eq_true, Bool.not_eq_eq_eq_not, Bool.not_true, Bool.not_false, forall_const, imp_self, Bool.true_eq_false, Bool.false_eq_true, reduceCtorEq] at hw)); (try first | (exfalso; omega) | exact ⟨trivial, rfl⟩ | exact (hw hx).elim | exact (hw.2 hx).elim)))
  · exact hw.2 (depthsT_le _ hd _ (by omega))
  · obtain ⟨⟨-, h2, h3⟩, h4⟩ := hw
    rw [wrapI64 (x := i + 1) (by omega) (by omega), drop_int (Tree.mk 0 0 []) h2 h3, sizesS]
    refine ⟨⟨rfl, by omega, by omega, hd, hb⟩, by simp only [rsize.L0.mu]; omega, fun _ => ⟨trivial, rfl⟩, trivial⟩
  · rw [drop_int_end hw]
    exact ⟨trivial, rfl⟩
theorem rsize.L0.lp (d : Nat) (ih : FnOk Try.prog (rsize d)) : LpAt Try.prog 15 0 (rsize.L0 d) := lp_evalH (l := []) (lf := 1000) (fun _ => cfOf_ok (fns_cons ih (fns_nil _))) (lps_nil _ _) (by kernel_rfl) _ (rsize.L0.mu d) (fun ⟨n, ks, len, i⟩ hx => Hid.of (rsize.L0.eq d n ks len i) (rsize.L0.ok d n ks len i hx))
noncomputable def rsizeA (d : Nat) : Face := ⟨15, [.v .tree], fun t => some (depthT t ≤ d + 1),
  [⟨false, [.v (.int .i64)], fun t => sizeS t, fun t => none⟩]⟩
noncomputable def rsizeA.g (d : Nat) (t : Tree) : Prop := GoodFA Try.prog (cfOf []) [(0, rsize.L0 d)] 1000 (rsizeA d) t
noncomputable def rsizeA.T (d : Nat) (t : Tree) : Prop := ((True ∧ t.kids.length ≤ (9223372036854775807 : Nat)) ∧ ¬((↑t.kids.length : Int) = (↑t.kids.length : Int) ∧ (0 : Int) ≤ (0 : Int) ∧ (0 : Int) ≤ (↑t.kids.length : Int) ∧ depthsT t.kids ≤ d ∧ t.kids.length ≤ (9223372036854775807 : Nat)) → False) ∧ ((True ∧ t.kids.length ≤ (9223372036854775807 : Nat)) ∧ (↑t.kids.length : Int) = (↑t.kids.length : Int) ∧ (0 : Int) ≤ (0 : Int) ∧ (0 : Int) ≤ (↑t.kids.length : Int) ∧ depthsT t.kids ≤ d ∧ t.kids.length ≤ (9223372036854775807 : Nat) →
  True ∧ sizesS (1 : Int) (List.drop (Int.toNat (0 : Int)) t.kids) = sizeS t) ∧ (True)
theorem rsizeA.eq (d : Nat) (t : Tree) : rsizeA.g d t = rsizeA.T d t := by kernel_rfl
theorem rsizeA.ok (d : Nat) (t : Tree) (hx : depthT t ≤ d + 1) : rsizeA.T d t := by
  cases t with
  | mk s p ks =>
    simp only [depthT] at hx
    simp only [rsizeA.T, Tree.kids, sizeS]
    ((repeat' (first | exact trivial | apply And.intro)) <;> (intro hw; (try (simp only [true_and, and_true, decide_eq_true_eq, decide_eq_false_iff_not, beq_iff_eq, bne_iff_ne, beq_eq_false_iff_ne, bne_eq_false_iff_eq, ne_eq, Bool.not_eq_true, Bool.not_eq_false, not_true_eq_false, not_false_eq_true, Bool.not_eq_eq_eq_not, Bool.not_true, Bool.not_false, forall_const, imp_self, Bool.true_eq_false, Bool.false_eq_true, reduceCtorEq] at hw)); (try first | (exfalso; omega) | exact ⟨trivial, rfl⟩ | exact (hw hx).elim | exact (hw.2 hx).elim)))
theorem rsizeA.fn (d : Nat) (ih : FnOk Try.prog (rsize d)) : FnOk Try.prog (rsizeA d) := fn_evalH (l := [(0, rsize.L0 d)]) (lf := 1000) (fun _ => cfOf_ok (fns_nil _)) _ (lps_cons (rsize.L0.lp d ih) (lps_nil _ _)) (by kernel_rfl) (fun t hx => Hid.of (rsizeA.eq d t) (rsizeA.ok d t hx))
theorem rsize.fn : ∀ d, FnOk Try.prog (rsize d)
  | 0 => fn_none fun t hp => depthT_pos t hp
  | d + 1 => rsizeA.fn d (rsize.fn d)
noncomputable def rsizeF : Face := ⟨15, [.v .tree], fun _ => none, [⟨false, [.v (.int .i64)], fun t => sizeS t, fun _ => none⟩]⟩
theorem rsizeF.fn : FnOk Try.prog rsizeF := fn_all rsize.fn (fun t _ => ⟨depthT t, Nat.le_refl _⟩)
end Go.Proofs.Ytdmljeaigjfenaa.D

namespace Go.Proofs.Ytdmljeaigjfenaa.D
open Go Go.EV Go.TL Go.Proofs
set_option linter.unusedVariables false
set_option linter.unusedSimpArgs false
set_option maxRecDepth 100000
abbrev GR : Ty := .pr (.sl .str) (.pr (.sl .str) (.sl (.pr (.int .i64) (.sl (.int .i64)))))
mutual
def sameT : Tree → Tree → Bool
  | .mk s p ks, .mk s' p' ks' => decide (s = s') && (decide (p = p') && sameTL ks ks')
def sameTL : List Tree → List Tree → Bool
  | [], [] => true
  | [], _ :: _ => false
  | _ :: _, [] => false
  | a :: r, b :: s => sameT a b && sameTL r s
end
theorem sameTL_len : ∀ {a b : List Tree}, sameTL a b = true → a.length = b.length
  | [], [], _ => rfl
  | [], _ :: _, h => by simp [sameTL] at h
  | _ :: _, [], h => by simp [sameTL] at h
  | a :: r, b :: s, h => by
    simp only [sameTL, Bool.and_eq_true] at h
    simp [sameTL_len h.2]
theorem sameT_eq (a b : Tree) : sameT a b = (decide (a.sym = b.sym) && (decide (a.prod = b.prod) && sameTL a.kids b.kids)) := by
  cases a; cases b; rw [sameT]; rfl
noncomputable def same (d : Nat) : Face := ⟨16, [.v .tree, .v .tree], fun (a, b) => some (depthT a ≤ d),
  [⟨false, [.v .bool], fun (a, b) => sameT a b, fun (a, b) => none⟩]⟩
noncomputable def eqT.L0 (d : Nat) : LFace := ⟨[1, 2, 15, 16, 17], [.v (.sl .tree), .clo 16 [], .v (.sl .tree), .v (.int .i64), .v (.int .i64)], fun (b, u, a, len, i) => some (len = a.length ∧ a.length = b.length ∧ 0 ≤ i ∧ i ≤ len ∧ a.length ≤ 9223372036854775807 ∧ depthsT a ≤ d),
  [⟨.normal, [], [], fun (b, u, a, len, i) => (), fun (b, u, a, len, i) => some (sameTL (a.drop i.toNat) (b.drop i.toNat) = true)⟩,
   ⟨.ret, [6], [.v .bool], fun (b, u, a, len, i) => false, fun (b, u, a, len, i) => some (sameTL (a.drop i.toNat) (b.drop i.toNat) = false)⟩]⟩
noncomputable def eqT.L0.mu (d : Nat) : dens (eqT.L0 d).sh → Nat := fun (b, u, a, len, i) => (len - i).toNat
noncomputable def eqT.L0.g (d : Nat) (b : List Tree) (u : Unit) (a : List Tree) (len : Int) (i : Int) : Prop := GoodLA Try.prog (cfOf [same d]) [] 1000 41 0 (eqT.L0 d) (eqT.L0.mu d) (b, u, a, len, i)
noncomputable def eqT.L0.q0 (b : List Tree) (a : List Tree) (len : Int) (i : Int) : Prop := ((True ∧ decide (i < len) = true) ∧ (0 : Int) ≤ i ∧ i < (↑a.length : Int)) ∧ (0 : Int) ≤ i ∧ i < (↑b.length : Int)
noncomputable def eqT.L0.T0 (d : Nat) (b : List Tree) (u : Unit) (a : List Tree) (len : Int) (i : Int) : Prop := ((eqT.L0.q0 b a len i) ∧ ¬depthT (eT (a.getD i.toNat (Tree.mk (0 : Int) (0 : Int) []))) ≤ d → False) ∧ (((eqT.L0.q0 b a len i) ∧ depthT (eT (a.getD i.toNat (Tree.mk (0 : Int) (0 : Int) []))) ≤ d) ∧ (!sameT (eT (a.getD i.toNat (Tree.mk (0 : Int) (0 : Int) []))) (eT (b.getD i.toNat (Tree.mk (0 : Int) (0 : Int) [])))) = true → sameTL (List.drop i.toNat a) (List.drop i.toNat b) = false ∧ false = false) ∧ (((eqT.L0.q0 b a len i) ∧ depthT (eT (a.getD i.toNat (Tree.mk (0 : Int) (0 : Int) []))) ≤ d) ∧ (!sameT (eT (a.getD i.toNat (Tree.mk (0 : Int) (0 : Int) []))) (eT (b.getD i.toNat (Tree.mk (0 : Int) (0 : Int) [])))) = false → (len = (↑a.length : Int) ∧ a.length = b.length ∧ (0 : Int) ≤ IntKind.i64.wrap (i + (1 : Int)) ∧ IntKind.i64.wrap (i + (1 : Int)) ≤ len ∧ a.length ≤ (9223372036854775807 : Nat) ∧ depthsT a ≤ d) ∧ eqT.L0.mu d (b, (), a, len, IntKind.i64.wrap (i + (1 : Int))) < eqT.L0.mu d (b, u, a, len, i) ∧ (sameTL (List.drop (IntKind.i64.wrap (i + (1 : Int))).toNat a) (List.drop (IntKind.i64.wrap (i + (1 : Int))).toNat b) = true → sameTL (List.drop i.toNat a) (List.drop i.toNat b) = true ∧ () = ()) ∧ (sameTL (List.drop (IntKind.i64.wrap (i + (1 : Int))).toNat a) (List.drop (IntKind.i64.wrap (i + (1 : Int))).toNat b) = false → sameTL (List.drop i.toNat a) (List.drop i.toNat b) = false ∧ false = false) ∧ True) ∧ (((True ∧ decide (i < len) = true) ∧ (0 : Int) ≤ i ∧ i < (↑a.length : Int)) ∧ ¬((0 : Int) ≤ i ∧ i < (↑b.length : Int)) → False) ∧ ((True ∧ decide (i < len) = true) ∧ ¬((0 : Int) ≤ i ∧ i < (↑a.length : Int)) → False) ∧ (True ∧ decide (i < len) = false → sameTL (List.drop i.toNat a) (List.drop i.toNat b) = true ∧ () = ()) ∧ (True)
theorem eqT.L0.eq (d : Nat) (b : List Tree) (u : Unit) (a : List Tree) (len : Int) (i : Int) : eqT.L0.g d b u a len i = eqT.L0.T0 d b u a len i := by kernel_rfl
theorem eqT.L0.ok (d : Nat) (b : List Tree) (u : Unit) (a : List Tree) (len : Int) (i : Int) (hx : len = a.length ∧ a.length = b.length ∧ 0 ≤ i ∧ i ≤ len ∧ a.length ≤ 9223372036854775807 ∧ depthsT a ≤ d) : eqT.L0.T0 d b u a len i := by
  delta eqT.L0.T0 eqT.L0.q0
  repeat rw [eT_eq]
  obtain ⟨rfl, h1, h2, h3, h4, h5⟩ := hx
  ((repeat' (first | exact trivial | apply And.intro)) <;> (intro hw; (try (simp only [true_and, and_true, decide_eq_true_eq, decide_eq_false_iff_not, beq_iff_eq, bne_iff_ne, beq_eq_false_iff_ne, bne_eq_false_iff_eq, ne_eq, Bool.not_eq_true, Bool.not_eq_false, not_true_eq_false, not_false_eq_true, Bool.not_eq_eq_eq_not, Bool.not_true, Bool.not_false, forall_const, imp_self, Bool.true_eq_false, Bool.false_eq_true, reduceCtorEq] at hw)); (try first | (exfalso; omega) | exact ⟨trivial, rfl⟩ | exact (hw hx).elim | exact (hw.2 hx).elim)))
  · exact hw.2 (depthsT_le _ h5 _ (by omega))
  · obtain ⟨⟨⟨⟨-, -, h6⟩, h7⟩, -⟩, h8⟩ := hw
    rw [drop_int (Tree.mk 0 0 []) h2 h6, drop_int (Tree.mk 0 0 []) h2 h7.2, sameTL, h8]
    exact ⟨rfl, rfl⟩
  · obtain ⟨⟨⟨⟨-, -, h6⟩, h7⟩, -⟩, h8⟩ := hw
    rw [wrapI64 (x := i + 1) (by omega) (by omega), drop_int (Tree.mk 0 0 []) h2 h6, drop_int (Tree.mk 0 0 []) h2 h7.2, sameTL, h8]
    exact ⟨⟨rfl, h1, by omega, by omega, h4, h5⟩, by simp only [eqT.L0.mu]; omega, fun h => ⟨h, rfl⟩, fun h => ⟨h, rfl⟩, trivial⟩
  · rw [drop_int_end hw, drop_int_end (by omega)]
    exact ⟨rfl, rfl⟩
theorem eqT.L0.lp (d : Nat) (ih : FnOk Try.prog (same d)) : LpAt Try.prog 41 0 (eqT.L0 d) := lp_evalH (l := []) (lf := 1000) (fun _ => cfOf_ok (fns_cons ih (fns_nil _))) (lps_nil _ _) (by kernel_rfl) _ (eqT.L0.mu d) (fun ⟨b, u, a, len, i⟩ hx => Hid.of (eqT.L0.eq d b u a len i) (eqT.L0.ok d b u a len i hx))
noncomputable def eqT (d : Nat) : Face := ⟨41, [.v (.sl .tree), .v (.sl .tree), .clo 16 []], fun (a, b, u) => some (depthsT a ≤ d),
  [⟨false, [.v .bool], fun (a, b, u) => sameTL a b, fun (a, b, u) => none⟩]⟩
noncomputable def eqT.g (d : Nat) (a : List Tree) (b : List Tree) (u : Unit) : Prop := GoodFA Try.prog (cfOf []) [(0, eqT.L0 d)] 1000 (eqT d) (a, b, u)
noncomputable def eqT.q1 (a : List Tree) (b : List Tree) : Prop := (((True ∧ a.length ≤ (9223372036854775807 : Nat)) ∧ b.length ≤ (9223372036854775807 : Nat)) ∧ ((↑a.length : Int) != (↑b.length : Int)) = false) ∧ a.length ≤ (9223372036854775807 : Nat)
noncomputable def eqT.q0 (d : Nat) (a : List Tree) (b : List Tree) : Prop := (eqT.q1 a b) ∧ (↑a.length : Int) = (↑a.length : Int) ∧ a.length = b.length ∧ (0 : Int) ≤ (0 : Int) ∧ (0 : Int) ≤ (↑a.length : Int) ∧ a.length ≤ (9223372036854775807 : Nat) ∧ depthsT a ≤ d
noncomputable def eqT.T (d : Nat) (a : List Tree) (b : List Tree) (u : Unit) : Prop := (((True ∧ a.length ≤ (9223372036854775807 : Nat)) ∧ b.length ≤ (9223372036854775807 : Nat)) ∧ ((↑a.length : Int) != (↑b.length : Int)) = true → True ∧ false = sameTL a b) ∧ ((eqT.q1 a b) ∧ ¬((↑a.length : Int) = (↑a.length : Int) ∧ a.length = b.length ∧ (0 : Int) ≤ (0 : Int) ∧ (0 : Int) ≤ (↑a.length : Int) ∧ a.length ≤ (9223372036854775807 : Nat) ∧ depthsT a ≤ d) → False) ∧ ((eqT.q0 d a b) ∧ sameTL (List.drop (Int.toNat (0 : Int)) a) (List.drop (Int.toNat (0 : Int)) b) = true → True ∧ true = sameTL a b) ∧ ((eqT.q0 d a b) ∧ sameTL (List.drop (Int.toNat (0 : Int)) a) (List.drop (Int.toNat (0 : Int)) b) = false → True ∧ false = sameTL a b) ∧ (True)
theorem eqT.eq (d : Nat) (a : List Tree) (b : List Tree) (u : Unit) : eqT.g d a b u = eqT.T d a b u := by kernel_rfl
theorem eqT.ok (d : Nat) (a : List Tree) (b : List Tree) (u : Unit) (hx : depthsT a ≤ d) : eqT.T d a b u := by
  delta eqT.T eqT.q1 eqT.q0
  ((repeat' (first | exact trivial | apply And.intro)) <;> (intro hw; (try (simp only [true_and, and_true, decide_eq_true_eq, decide_eq_false_iff_not, beq_iff_eq, bne_iff_ne, beq_eq_false_iff_ne, bne_eq_false_iff_eq, ne_eq, Bool.not_eq_true, Bool.not_eq_false, not_true_eq_false, not_false_eq_true, Bool.not_eq_eq_eq_not, Bool.not_true, Bool.not_false, forall_const, imp_self, Bool.true_eq_false, Bool.false_eq_true, reduceCtorEq] at hw)); (try first | (exfalso; omega) | exact ⟨trivial, rfl⟩ | exact (hw hx).elim | exact (hw.2 hx).elim)))
  · refine ⟨trivial, ?_⟩
    cases h : sameTL a b with
    | false => rfl
    | true => have := sameTL_len h; omega
  · exact ⟨trivial, hw.2.symm⟩
  · exact ⟨trivial, hw.2.symm⟩
theorem eqT.fn (d : Nat) (ih : FnOk Try.prog (same d)) : FnOk Try.prog (eqT d) := fn_evalH (l := [(0, eqT.L0 d)]) (lf := 1000) (fun _ => cfOf_ok (fns_nil _)) _ (lps_cons (eqT.L0.lp d ih) (lps_nil _ _)) (by kernel_rfl) (fun ⟨a, b, u⟩ hx => Hid.of (eqT.eq d a b u) (eqT.ok d a b u hx))
noncomputable def sameA (d : Nat) : Face := ⟨16, [.v .tree, .v .tree], fun (a, b) => some (depthT a ≤ d + 1),
  [⟨false, [.v .bool], fun (a, b) => sameT a b, fun (a, b) => none⟩]⟩
noncomputable def sameA.g (d : Nat) (a : Tree) (b : Tree) : Prop := GoodFA Try.prog (cfOf [eqT d]) [] 1000 (sameA d) (a, b)
noncomputable def sameA.T (d : Nat) (a : Tree) (b : Tree) : Prop := (((True ∧ (a.sym == b.sym) = true) ∧ (a.prod == b.prod) = true) ∧ ¬depthsT a.kids ≤ d → False) ∧ (((True ∧ (a.sym == b.sym) = true) ∧ (a.prod == b.prod) = true) ∧ depthsT a.kids ≤ d → True ∧ sameTL a.kids b.kids = sameT a b) ∧ ((True ∧ (a.sym == b.sym) = true) ∧ (a.prod == b.prod) = false → True ∧ false = sameT a b) ∧ (True ∧ (a.sym == b.sym) = false → True ∧ false = sameT a b) ∧ (True)
theorem sameA.eq (d : Nat) (a : Tree) (b : Tree) : sameA.g d a b = sameA.T d a b := by kernel_rfl
theorem sameA.ok (d : Nat) (a : Tree) (b : Tree) (hx : depthT a ≤ d + 1) : sameA.T d a b := by
  have h := depthT_kids hx
  rw [sameA.T, sameT_eq]
  ((repeat' (first | exact trivial | apply And.intro)) <;> (intro hw; (try (simp only [true_and, and_true, decide_eq_true_eq, decide_eq_false_iff_not, beq_iff_eq, bne_iff_ne, beq_eq_false_iff_ne, bne_eq_false_iff_eq, ne_eq, Bool.not_eq_true, Bool.not_eq_false, not_true_eq_false, not_false_eq_true, Bool.not_eq_eq_eq_not, Bool.not_true, Bool.not_false, forall_const, imp_self, Bool.true_eq_false, Bool.false_eq_true, reduceCtorEq] at hw)); (try first | (exfalso; omega) | exact ⟨trivial, rfl⟩ | exact (hw hx).elim | exact (hw.2 hx).elim)))
  · exact ⟨trivial, by simp [hw.1.1, hw.1.2]⟩
  · exact ⟨trivial, by simp [hw.1, hw.2]⟩
  · exact ⟨trivial, by simp [hw]⟩
theorem sameA.fn (d : Nat) (ih : FnOk Try.prog (same d)) : FnOk Try.prog (sameA d) := fn_evalH (l := []) (lf := 1000) (fun _ => cfOf_ok (fns_cons (eqT.fn d ih) (fns_nil _))) _ (lps_nil _ _) (by kernel_rfl) (fun ⟨a, b⟩ hx => Hid.of (sameA.eq d a b) (sameA.ok d a b hx))
theorem same.fn : ∀ d, FnOk Try.prog (same d)
  | 0 => fn_none fun t hp => depthT_pos _ hp
  | d + 1 => sameA.fn d (same.fn d)
noncomputable def sameF : Face := ⟨16, [.v .tree, .v .tree], fun _ => none, [⟨false, [.v .bool], fun (a, b) => sameT a b, fun _ => none⟩]⟩
theorem sameF.fn : FnOk Try.prog sameF := fn_all same.fn (fun t _ => ⟨depthT t.1, Nat.le_refl _⟩)
abbrev Gr : Type := List ByteArray × List ByteArray × List (Int × List Int)
def gSmall (g : Gr) : Prop := g.1.length ≤ 99 ∧ g.2.1.length ≤ 99
def nonS (g : Gr) (s : Int) : Bool := decide (100 ≤ s) && decide (s < 100 + (g.2.1.length : Int))
def termS (g : Gr) (s : Int) : Bool := decide (1 ≤ s) && decide (s ≤ (g.1.length : Int))
def isS (g : Gr) (s : Int) : Bool := termS g s || nonS g s
noncomputable def known  : Face := ⟨47, [.v GR, .v (.int .i64)], fun (g, s) => some (gSmall g ∧ inI s),
  [⟨false, [.v .bool], fun (g, s) => isS g s, fun (g, s) => none⟩]⟩
noncomputable def known.g  (g : List ByteArray × List ByteArray × List (Int × List Int)) (s : Int) : Prop := GoodFA Try.prog (cfOf []) [] 1000 known (g, s)
noncomputable def known.q0 (g : List ByteArray × List ByteArray × List (Int × List Int)) (s : Int) : Prop := (True ∧ decide (s ≥ (1 : Int)) = true) ∧ List.length g.1 ≤ (9223372036854775807 : Nat)
noncomputable def known.T (g : List ByteArray × List ByteArray × List (Int × List Int)) (s : Int) : Prop := ((known.q0 g s) ∧ decide (s ≤ (↑(List.length g.1) : Int)) = true → True ∧ true = isS g s) ∧ ((((known.q0 g s) ∧ decide (s ≤ (↑(List.length g.1) : Int)) = false) ∧ decide (s ≥ (100 : Int)) = true) ∧ List.length g.2.1 ≤ (9223372036854775807 : Nat) → True ∧ decide (IntKind.i64.wrap (s - (100 : Int)) < (↑(List.length g.2.1) : Int)) = isS g s) ∧ (((known.q0 g s) ∧ decide (s ≤ (↑(List.length g.1) : Int)) = false) ∧ decide (s ≥ (100 : Int)) = false → True ∧ false = isS g s) ∧ (((True ∧ decide (s ≥ (1 : Int)) = false) ∧ decide (s ≥ (100 : Int)) = true) ∧ List.length g.2.1 ≤ (9223372036854775807 : Nat) → True ∧ decide (IntKind.i64.wrap (s - (100 : Int)) < (↑(List.length g.2.1) : Int)) = isS g s) ∧ ((True ∧ decide (s ≥ (1 : Int)) = false) ∧ decide (s ≥ (100 : Int)) = false → True ∧ false = isS g s) ∧ (True)
theorem known.eq  (g : List ByteArray × List ByteArray × List (Int × List Int)) (s : Int) : known.g  g s = known.T  g s := by kernel_rfl
theorem known.ok  (g : List ByteArray × List ByteArray × List (Int × List Int)) (s : Int) (hx : gSmall g ∧ inI s) : known.T  g s := by
  obtain ⟨⟨h1, h2⟩, h3, h4⟩ := hx
  delta known.T known.q0
  rw [isS, termS, nonS]
  ((repeat' (first | exact trivial | apply And.intro)) <;> (intro hw; (try (simp only [true_and, and_true, decide_eq_true_eq, decide_eq_false_iff_not, beq_iff_eq, bne_iff_ne, beq_eq_false_iff_ne, bne_eq_false_iff_eq, ne_eq, Bool.not_eq_true, Bool.not_eq_false, not_true_eq_false, not_false_eq_true, Bool.not_eq_eq_eq_not, Bool.not_true, Bool.not_false, forall_const, imp_self, Bool.true_eq_false, Bool.false_eq_true, reduceCtorEq] at hw)); (try first | (exfalso; omega) | exact ⟨trivial, rfl⟩ | exact (hw hx).elim | exact (hw.2 hx).elim)))
  · ((first | (refine ⟨trivial, ?_⟩) | skip) <;> (rw [Bool.eq_iff_iff]; (try simp only [Bool.or_eq_true, Bool.and_eq_true, Bool.not_eq_true', decide_eq_true_eq, decide_eq_false_iff_not, beq_iff_eq, bne_iff_ne, true_iff, iff_true, false_iff, iff_false, Bool.false_eq_true, ne_eq]); omega))
  · rw [wrapI64 (x := s - 100) (by omega) (by omega)]; ((first | (refine ⟨trivial, ?_⟩) | skip) <;> (rw [Bool.eq_iff_iff]; (try simp only [Bool.or_eq_true, Bool.and_eq_true, Bool.not_eq_true', decide_eq_true_eq, decide_eq_false_iff_not, beq_iff_eq, bne_iff_ne, true_iff, iff_true, false_iff, iff_false, Bool.false_eq_true, ne_eq]); omega))
  · ((first | (refine ⟨trivial, ?_⟩) | skip) <;> (rw [Bool.eq_iff_iff]; (try simp only [Bool.or_eq_true, Bool.and_eq_true, Bool.not_eq_true', decide_eq_true_eq, decide_eq_false_iff_not, beq_iff_eq, bne_iff_ne, true_iff, iff_true, false_iff, iff_false, Bool.false_eq_true, ne_eq]); omega))
  · ((first | (refine ⟨trivial, ?_⟩) | skip) <;> (rw [Bool.eq_iff_iff]; (try simp only [Bool.or_eq_true, Bool.and_eq_true, Bool.not_eq_true', decide_eq_true_eq, decide_eq_false_iff_not, beq_iff_eq, bne_iff_ne, true_iff, iff_true, false_iff, iff_false, Bool.false_eq_true, ne_eq]); omega))
theorem known.fn   : FnOk Try.prog known := fn_evalH (l := []) (lf := 1000) (fun _ => cfOf_ok (fns_nil _)) _ (lps_nil _ _) (by kernel_rfl) (fun ⟨g, s⟩ hx => Hid.of (known.eq  g s) (known.ok  g s hx))
noncomputable def nonIs  : Face := ⟨61, [.v GR, .v (.int .i64)], fun (g, s) => some (gSmall g),
  [⟨false, [.v .bool], fun (g, s) => nonS g s, fun (g, s) => none⟩]⟩
noncomputable def nonIs.g  (g : List ByteArray × List ByteArray × List (Int × List Int)) (s : Int) : Prop := GoodFA Try.prog (cfOf []) [] 1000 nonIs (g, s)
noncomputable def nonIs.T (g : List ByteArray × List ByteArray × List (Int × List Int)) (s : Int) : Prop := ((True ∧ decide (s ≥ (100 : Int)) = true) ∧ List.length g.2.1 ≤ (9223372036854775807 : Nat) → True ∧ decide (s < IntKind.i64.wrap ((100 : Int) + (↑(List.length g.2.1) : Int))) = nonS g s) ∧ (True ∧ decide (s ≥ (100 : Int)) = false → True ∧ false = nonS g s) ∧ (True)
theorem nonIs.eq  (g : List ByteArray × List ByteArray × List (Int × List Int)) (s : Int) : nonIs.g  g s = nonIs.T  g s := by kernel_rfl
theorem nonIs.ok  (g : List ByteArray × List ByteArray × List (Int × List Int)) (s : Int) (hx : gSmall g) : nonIs.T  g s := by
  obtain ⟨h1, h2⟩ := hx
  rw [nonIs.T, nonS]
  ((repeat' (first | exact trivial | apply And.intro)) <;> (intro hw; (try (simp only [true_and, and_true, decide_eq_true_eq, decide_eq_false_iff_not, beq_iff_eq, bne_iff_ne, beq_eq_false_iff_ne, bne_eq_false_iff_eq, ne_eq, Bool.not_eq_true, Bool.not_eq_false, not_true_eq_false, not_false_eq_true, Bool.not_eq_eq_eq_not, Bool.not_true, Bool.not_false, forall_const, imp_self, Bool.true_eq_false, Bool.false_eq_true, reduceCtorEq] at hw)); (try first | (exfalso; omega) | exact ⟨trivial, rfl⟩ | exact (hw hx).elim | exact (hw.2 hx).elim)))
  · rw [wrapI64 (x := 100 + (g.2.1.length : Int)) (by omega) (by omega)]; ((first | (refine ⟨trivial, ?_⟩) | skip) <;> (rw [Bool.eq_iff_iff]; (try simp only [Bool.or_eq_true, Bool.and_eq_true, Bool.not_eq_true', decide_eq_true_eq, decide_eq_false_iff_not, beq_iff_eq, bne_iff_ne, true_iff, iff_true, false_iff, iff_false, Bool.false_eq_true, ne_eq]); omega))
  · ((first | (refine ⟨trivial, ?_⟩) | skip) <;> (rw [Bool.eq_iff_iff]; (try simp only [Bool.or_eq_true, Bool.and_eq_true, Bool.not_eq_true', decide_eq_true_eq, decide_eq_false_iff_not, beq_iff_eq, bne_iff_ne, true_iff, iff_true, false_iff, iff_false, Bool.false_eq_true, ne_eq]); omega))
theorem nonIs.fn   : FnOk Try.prog nonIs := fn_evalH (l := []) (lf := 1000) (fun _ => cfOf_ok (fns_nil _)) _ (lps_nil _ _) (by kernel_rfl) (fun ⟨g, s⟩ hx => Hid.of (nonIs.eq  g s) (nonIs.ok  g s hx))
noncomputable def isF  : Face := ⟨42, [.v GR, .v (.int .i64)], fun (g, s) => some (gSmall g),
  [⟨false, [.v .bool], fun (g, s) => isS g s, fun (g, s) => none⟩]⟩
noncomputable def isF.g  (g : List ByteArray × List ByteArray × List (Int × List Int)) (s : Int) : Prop := GoodFA Try.prog (cfOf [nonIs]) [] 1000 isF (g, s)
noncomputable def isF.T (g : List ByteArray × List ByteArray × List (Int × List Int)) (s : Int) : Prop := (((True ∧ decide (s ≥ (1 : Int)) = true) ∧ List.length g.1 ≤ (9223372036854775807 : Nat)) ∧ decide (s ≤ (↑(List.length g.1) : Int)) = true → True ∧ true = isS g s) ∧ ((((True ∧ decide (s ≥ (1 : Int)) = true) ∧ List.length g.1 ≤ (9223372036854775807 : Nat)) ∧ decide (s ≤ (↑(List.length g.1) : Int)) = false) ∧ ¬gSmall g → False) ∧ ((((True ∧ decide (s ≥ (1 : Int)) = true) ∧ List.length g.1 ≤ (9223372036854775807 : Nat)) ∧ decide (s ≤ (↑(List.length g.1) : Int)) = false) ∧ gSmall g → True ∧ nonS g s = isS g s) ∧ ((True ∧ decide (s ≥ (1 : Int)) = false) ∧ ¬gSmall g → False) ∧ ((True ∧ decide (s ≥ (1 : Int)) = false) ∧ gSmall g → True ∧ nonS g s = isS g s) ∧ (True)
theorem isF.eq  (g : List ByteArray × List ByteArray × List (Int × List Int)) (s : Int) : isF.g  g s = isF.T  g s := by kernel_rfl
theorem isF.ok  (g : List ByteArray × List ByteArray × List (Int × List Int)) (s : Int) (hx : gSmall g) : isF.T  g s := by
  rw [isF.T, isS, termS]
  ((repeat' (first | exact trivial | apply And.intro)) <;> (intro hw; (try (simp only [true_and, and_true, decide_eq_true_eq, decide_eq_false_iff_not, beq_iff_eq, bne_iff_ne, beq_eq_false_iff_ne, bne_eq_false_iff_eq, ne_eq, Bool.not_eq_true, Bool.not_eq_false, not_true_eq_false, not_false_eq_true, Bool.not_eq_eq_eq_not, Bool.not_true, Bool.not_false, forall_const, imp_self, Bool.true_eq_false, Bool.false_eq_true, reduceCtorEq] at hw)); (try first | (exfalso; omega) | exact ⟨trivial, rfl⟩ | exact (hw hx).elim | exact (hw.2 hx).elim)))
  · ((first | (refine ⟨trivial, ?_⟩) | skip) <;> (rw [Bool.eq_iff_iff]; (try simp only [Bool.or_eq_true, Bool.and_eq_true, Bool.not_eq_true', decide_eq_true_eq, decide_eq_false_iff_not, beq_iff_eq, bne_iff_ne, true_iff, iff_true, false_iff, iff_false, Bool.false_eq_true, ne_eq]); omega))
  · refine ⟨trivial, ?_⟩
    rw [decide_eq_false hw.1.2, Bool.and_false, Bool.false_or]
  · refine ⟨trivial, ?_⟩
    rw [decide_eq_false (show ¬ 1 ≤ s from hw.1), Bool.false_and, Bool.false_or]
theorem isF.fn   : FnOk Try.prog isF := fn_evalH (l := []) (lf := 1000) (fun _ => cfOf_ok (fns_cons nonIs.fn (fns_nil _))) _ (lps_nil _ _) (by kernel_rfl) (fun ⟨g, s⟩ hx => Hid.of (isF.eq  g s) (isF.ok  g s hx))
end Go.Proofs.Ytdmljeaigjfenaa.D

namespace Go.Proofs.Ytdmljeaigjfenaa.D
open Go Go.EV Go.TL Go.Proofs
set_option linter.unusedVariables false
set_option linter.unusedSimpArgs false
set_option maxRecDepth 100000
def prodS (g : Gr) (p : Int) : Int × List Int := g.2.2.getD p.toNat (0, [])
mutual
def checkS (g : Gr) : Tree → Int → Bool
  | .mk s p ks, root => decide (s = root) && (if p = -1 then decide (ks.length = 0) && isS g s else decide (0 ≤ p) && (decide (p < (g.2.2.length : Int)) && (decide ((prodS g p).1 = root) && checksS g ks (prodS g p).2)))
def checksS (g : Gr) : List Tree → List Int → Bool
  | [], [] => true
  | [], _ :: _ => false
  | _ :: _, [] => false
  | k :: r, s :: q => checkS g k s && checksS g r q
end
theorem checksS_len {g : Gr} : ∀ {a : List Tree} {b : List Int}, checksS g a b = true → a.length = b.length
  | [], [], _ => rfl
  | [], _ :: _, h => by simp [checksS] at h
  | _ :: _, [], h => by simp [checksS] at h
  | a :: r, b :: s, h => by
    simp only [checksS, Bool.and_eq_true] at h
    simp [checksS_len h.2]
theorem checkS_eq (g : Gr) (t : Tree) (root : Int) : checkS g t root = (decide (t.sym = root) && (if t.prod = -1 then decide (t.kids.length = 0) && isS g t.sym else decide (0 ≤ t.prod) && (decide (t.prod < (g.2.2.length : Int)) && (decide ((prodS g t.prod).1 = root) && checksS g t.kids (prodS g t.prod).2)))) := by
  cases t; rw [checkS]; rfl
noncomputable def check (d : Nat) : Face := ⟨22, [.v GR, .v .tree, .v (.int .i64)], fun (g, t, r) => some (gSmall g ∧ okT t ∧ depthT t ≤ d),
  [⟨false, [.v .bool], fun (g, t, r) => checkS g t r, fun (g, t, r) => none⟩]⟩
noncomputable def chk1 (d : Nat) : Face := ⟨49, [.v .tree, .v (.int .i64), .p GR], fun (t, r, g) => some (gSmall g ∧ okT t ∧ depthT t ≤ d),
  [⟨false, [.v .bool], fun (t, r, g) => checkS g t r, fun (t, r, g) => none⟩]⟩
noncomputable def chk1.g (d : Nat) (t : Tree) (r : Int) (g : List ByteArray × List ByteArray × List (Int × List Int)) : Prop := GoodFA Try.prog (cfOf [check d]) [] 1000 (chk1 d) (t, r, g)
noncomputable def chk1.T0 (d : Nat) (t : Tree) (r : Int) (g : List ByteArray × List ByteArray × List (Int × List Int)) : Prop := (True ∧ ¬(gSmall g ∧ okT (eT t) ∧ depthT (eT t) ≤ d) → False) ∧ (True ∧ gSmall g ∧ okT (eT t) ∧ depthT (eT t) ≤ d → True ∧ checkS g (eT t) r = checkS g t r) ∧ (True)
theorem chk1.eq (d : Nat) (t : Tree) (r : Int) (g : List ByteArray × List ByteArray × List (Int × List Int)) : chk1.g d t r g = chk1.T0 d t r g := by kernel_rfl
theorem chk1.ok (d : Nat) (t : Tree) (r : Int) (g : List ByteArray × List ByteArray × List (Int × List Int)) (hx : gSmall g ∧ okT t ∧ depthT t ≤ d) : chk1.T0 d t r g := by
  unfold chk1.T0
  repeat rw [eT_eq]
  ((repeat' (first | exact trivial | apply And.intro)) <;> (intro hw; (try (simp only [true_and, and_true, decide_eq_true_eq, decide_eq_false_iff_not, beq_iff_eq, bne_iff_ne, beq_eq_false_iff_ne, bne_eq_false_iff_eq, ne_eq, Bool.not_eq_true, Bool.not_eq_false, not_true_eq_false, not_false_eq_true, Bool.not_eq_eq_eq_not, Bool.not_true, Bool.not_false, forall_const, imp_self, Bool.true_eq_false, Bool.false_eq_true, reduceCtorEq] at hw)); (try first | (exfalso; omega) | exact ⟨trivial, rfl⟩ | exact (hw hx).elim | exact (hw.2 hx).elim)))
theorem chk1.fn (d : Nat) (ih : FnOk Try.prog (check d)) : FnOk Try.prog (chk1 d) := fn_evalH (l := []) (lf := 1000) (fun _ => cfOf_ok (fns_cons ih (fns_nil _))) _ (lps_nil _ _) (by kernel_rfl) (fun ⟨t, r, g⟩ hx => Hid.of (chk1.eq d t r g) (chk1.ok d t r g hx))
noncomputable def eqI.L0 (d : Nat) : LFace := ⟨[1, 2, 15, 16, 17], [.v (.sl (.int .i64)), .clo 49 [GR], .v (.sl .tree), .v (.int .i64), .v (.int .i64)], fun (b, g, a, len, i) => some (len = a.length ∧ a.length = b.length ∧ 0 ≤ i ∧ i ≤ len ∧ a.length ≤ 9223372036854775807 ∧ gSmall g ∧ okTs a ∧ depthsT a ≤ d),
  [⟨.normal, [], [], fun (b, g, a, len, i) => (), fun (b, g, a, len, i) => some (checksS g (a.drop i.toNat) (b.drop i.toNat) = true)⟩,
   ⟨.ret, [6], [.v .bool], fun (b, g, a, len, i) => false, fun (b, g, a, len, i) => some (checksS g (a.drop i.toNat) (b.drop i.toNat) = false)⟩]⟩
noncomputable def eqI.L0.mu (d : Nat) : dens (eqI.L0 d).sh → Nat := fun (b, g, a, len, i) => (len - i).toNat
noncomputable def eqI.L0.g (d : Nat) (b : List Int) (g : List ByteArray × List ByteArray × List (Int × List Int)) (a : List Tree) (len : Int) (i : Int) : Prop := GoodLA Try.prog (cfOf [chk1 d]) [] 1000 48 0 (eqI.L0 d) (eqI.L0.mu d) (b, g, a, len, i)
noncomputable def eqI.L0.q0 (d : Nat) (b : List Int) (g : List ByteArray × List ByteArray × List (Int × List Int)) (a : List Tree) (len : Int) (i : Int) : Prop := (((True ∧ decide (i < len) = true) ∧ (0 : Int) ≤ i ∧ i < (↑a.length : Int)) ∧ (0 : Int) ≤ i ∧ i < (↑b.length : Int)) ∧ gSmall g ∧ okT (eT (a.getD i.toNat (Tree.mk (0 : Int) (0 : Int) []))) ∧ depthT (eT (a.getD i.toNat (Tree.mk (0 : Int) (0 : Int) []))) ≤ d
noncomputable def eqI.L0.T0 (d : Nat) (b : List Int) (g : List ByteArray × List ByteArray × List (Int × List Int)) (a : List Tree) (len : Int) (i : Int) : Prop := ((((True ∧ decide (i < len) = true) ∧ (0 : Int) ≤ i ∧ i < (↑a.length : Int)) ∧ (0 : Int) ≤ i ∧ i < (↑b.length : Int)) ∧ ¬(gSmall g ∧ okT (eT (a.getD i.toNat (Tree.mk (0 : Int) (0 : Int) []))) ∧ depthT (eT (a.getD i.toNat (Tree.mk (0 : Int) (0 : Int) []))) ≤ d) → False) ∧ ((eqI.L0.q0 d b g a len i) ∧ (!checkS g (eT (a.getD i.toNat (Tree.mk (0 : Int) (0 : Int) []))) (b.getD i.toNat (0 : Int))) = true → checksS g (List.drop i.toNat a) (List.drop i.toNat b) = false ∧ false = false) ∧ ((eqI.L0.q0 d b g a len i) ∧ (!checkS g (eT (a.getD i.toNat (Tree.mk (0 : Int) (0 : Int) []))) (b.getD i.toNat (0 : Int))) = false → (len = (↑a.length : Int) ∧ a.length = b.length ∧ (0 : Int) ≤ IntKind.i64.wrap (i + (1 : Int)) ∧ IntKind.i64.wrap (i + (1 : Int)) ≤ len ∧ a.length ≤ (9223372036854775807 : Nat) ∧ gSmall g ∧ okTs a ∧ depthsT a ≤ d) ∧ eqI.L0.mu d (b, g, a, len, IntKind.i64.wrap (i + (1 : Int))) < eqI.L0.mu d (b, g, a, len, i) ∧ (checksS g (List.drop (IntKind.i64.wrap (i + (1 : Int))).toNat a) (List.drop (IntKind.i64.wrap (i + (1 : Int))).toNat b) = true → checksS g (List.drop i.toNat a) (List.drop i.toNat b) = true ∧ () = ()) ∧ (checksS g (List.drop (IntKind.i64.wrap (i + (1 : Int))).toNat a) (List.drop (IntKind.i64.wrap (i + (1 : Int))).toNat b) = false → checksS g (List.drop i.toNat a) (List.drop i.toNat b) = false ∧ false = false) ∧ True) ∧ (((True ∧ decide (i < len) = true) ∧ (0 : Int) ≤ i ∧ i < (↑a.length : Int)) ∧ ¬((0 : Int) ≤ i ∧ i < (↑b.length : Int)) → False) ∧ ((True ∧ decide (i < len) = true) ∧ ¬((0 : Int) ≤ i ∧ i < (↑a.length : Int)) → False) ∧ (True ∧ decide (i < len) = false → checksS g (List.drop i.toNat a) (List.drop i.toNat b) = true ∧ () = ()) ∧ (True)
theorem eqI.L0.eq (d : Nat) (b : List Int) (g : List ByteArray × List ByteArray × List (Int × List Int)) (a : List Tree) (len : Int) (i : Int) : eqI.L0.g d b g a len i = eqI.L0.T0 d b g a len i := by kernel_rfl
theorem eqI.L0.ok (d : Nat) (b : List Int) (g : List ByteArray × List ByteArray × List (Int × List Int)) (a : List Tree) (len : Int) (i : Int) (hx : len = a.length ∧ a.length = b.length ∧ 0 ≤ i ∧ i ≤ len ∧ a.length ≤ 9223372036854775807 ∧ gSmall g ∧ okTs a ∧ depthsT a ≤ d) : eqI.L0.T0 d b g a len i := by
  delta eqI.L0.T0 eqI.L0.q0
  repeat rw [eT_eq]
  obtain ⟨rfl, h1, h2, h3, h4, hg, hk, h5⟩ := hx
  ((repeat' (first | exact trivial | apply And.intro)) <;> (intro hw; (try (simp only [true_and, and_true, decide_eq_true_eq, decide_eq_false_iff_not, beq_iff_eq, bne_iff_ne, beq_eq_false_iff_ne, bne_eq_false_iff_eq, ne_eq, Bool.not_eq_true, Bool.not_eq_false, not_true_eq_false, not_false_eq_true, Bool.not_eq_eq_eq_not, Bool.not_true, Bool.not_false, forall_const, imp_self, Bool.true_eq_false, Bool.false_eq_true, reduceCtorEq] at hw)); (try first | (exfalso; omega) | exact ⟨trivial, rfl⟩ | exact (hw hx).elim | exact (hw.2 hx).elim)))
  · exact hw.2 ⟨hg, okTs_get hk _ (by omega), depthsT_le _ h5 _ (by omega)⟩
  · obtain ⟨⟨⟨⟨-, -, h6⟩, h7⟩, -⟩, h8⟩ := hw
    rw [drop_int (Tree.mk 0 0 []) h2 h6, drop_int 0 h2 h7.2, checksS, h8]
    exact ⟨rfl, rfl⟩
  · obtain ⟨⟨⟨⟨-, -, h6⟩, h7⟩, -⟩, h8⟩ := hw
    rw [wrapI64 (x := i + 1) (by omega) (by omega), drop_int (Tree.mk 0 0 []) h2 h6, drop_int 0 h2 h7.2, checksS, h8]
    exact ⟨⟨rfl, h1, by omega, by omega, h4, hg, hk, h5⟩, by simp only [eqI.L0.mu]; omega, fun h => ⟨h, rfl⟩, fun h => ⟨h, rfl⟩, trivial⟩
  · rw [drop_int_end hw, drop_int_end (by omega)]
    exact ⟨rfl, rfl⟩
theorem eqI.L0.lp (d : Nat) (ih : FnOk Try.prog (check d)) : LpAt Try.prog 48 0 (eqI.L0 d) := lp_evalH (l := []) (lf := 1000) (fun _ => cfOf_ok (fns_cons (chk1.fn d ih) (fns_nil _))) (lps_nil _ _) (by kernel_rfl) _ (eqI.L0.mu d) (fun ⟨b, g, a, len, i⟩ hx => Hid.of (eqI.L0.eq d b g a len i) (eqI.L0.ok d b g a len i hx))
noncomputable def eqI (d : Nat) : Face := ⟨48, [.v (.sl .tree), .v (.sl (.int .i64)), .clo 49 [GR]], fun (a, b, g) => some (gSmall g ∧ okTs a ∧ depthsT a ≤ d),
  [⟨false, [.v .bool], fun (a, b, g) => checksS g a b, fun (a, b, g) => none⟩]⟩
noncomputable def eqI.g (d : Nat) (a : List Tree) (b : List Int) (g : List ByteArray × List ByteArray × List (Int × List Int)) : Prop := GoodFA Try.prog (cfOf []) [(0, eqI.L0 d)] 1000 (eqI d) (a, b, g)
noncomputable def eqI.q1 (a : List Tree) (b : List Int) : Prop := (((True ∧ a.length ≤ (9223372036854775807 : Nat)) ∧ b.length ≤ (9223372036854775807 : Nat)) ∧ ((↑a.length : Int) != (↑b.length : Int)) = false) ∧ a.length ≤ (9223372036854775807 : Nat)
noncomputable def eqI.q0 (d : Nat) (a : List Tree) (b : List Int) (g : List ByteArray × List ByteArray × List (Int × List Int)) : Prop := (eqI.q1 a b) ∧ (↑a.length : Int) = (↑a.length : Int) ∧ a.length = b.length ∧ (0 : Int) ≤ (0 : Int) ∧ (0 : Int) ≤ (↑a.length : Int) ∧ a.length ≤ (9223372036854775807 : Nat) ∧ gSmall g ∧ okTs a ∧ depthsT a ≤ d
noncomputable def eqI.T (d : Nat) (a : List Tree) (b : List Int) (g : List ByteArray × List ByteArray × List (Int × List Int)) : Prop := (((True ∧ a.length ≤ (9223372036854775807 : Nat)) ∧ b.length ≤ (9223372036854775807 : Nat)) ∧ ((↑a.length : Int) != (↑b.length : Int)) = true → True ∧ false = checksS g a b) ∧ ((eqI.q1 a b) ∧ ¬((↑a.length : Int) = (↑a.length : Int) ∧ a.length = b.length ∧ (0 : Int) ≤ (0 : Int) ∧ (0 : Int) ≤ (↑a.length : Int) ∧ a.length ≤ (9223372036854775807 : Nat) ∧ gSmall g ∧ okTs a ∧ depthsT a ≤ d) → False) ∧ ((eqI.q0 d a b g) ∧ checksS g (List.drop (Int.toNat (0 : Int)) a) (List.drop (Int.toNat (0 : Int)) b) = true → True ∧ true = checksS g a b) ∧ ((eqI.q0 d a b g) ∧ checksS g (List.drop (Int.toNat (0 : Int)) a) (List.drop (Int.toNat (0 : Int)) b) = false → True ∧ false = checksS g a b) ∧ (True)
theorem eqI.eq (d : Nat) (a : List Tree) (b : List Int) (g : List ByteArray × List ByteArray × List (Int × List Int)) : eqI.g d a b g = eqI.T d a b g := by kernel_rfl
theorem eqI.ok (d : Nat) (a : List Tree) (b : List Int) (g : List ByteArray × List ByteArray × List (Int × List Int)) (hx : gSmall g ∧ okTs a ∧ depthsT a ≤ d) : eqI.T d a b g := by
  delta eqI.T eqI.q1 eqI.q0
  ((repeat' (first | exact trivial | apply And.intro)) <;> (intro hw; (try (simp only [true_and, and_true, decide_eq_true_eq, decide_eq_false_iff_not, beq_iff_eq, bne_iff_ne, beq_eq_false_iff_ne, bne_eq_false_iff_eq, ne_eq, Bool.not_eq_true, Bool.not_eq_false, not_true_eq_false, not_false_eq_true, Bool.not_eq_eq_eq_not, Bool.not_true, Bool.not_false, forall_const, imp_self, Bool.true_eq_false, Bool.false_eq_true, reduceCtorEq] at hw)); (try first | (exfalso; omega) | exact ⟨trivial, rfl⟩ | exact (hw hx).elim | exact (hw.2 hx).elim)))
  · refine ⟨trivial, ?_⟩
    cases h : checksS g a b with
    | false => rfl
    | true => have := checksS_len h; omega
  · obtain ⟨h1, h2⟩ := hw
    exact h2 ⟨by omega, Int.le_refl _, by omega, by omega, hx.1, hx.2.1, hx.2.2⟩
  · exact ⟨trivial, hw.2.symm⟩
  · exact ⟨trivial, hw.2.symm⟩
theorem eqI.fn (d : Nat) (ih : FnOk Try.prog (check d)) : FnOk Try.prog (eqI d) := fn_evalH (l := [(0, eqI.L0 d)]) (lf := 1000) (fun _ => cfOf_ok (fns_nil _)) _ (lps_cons (eqI.L0.lp d ih) (lps_nil _ _)) (by kernel_rfl) (fun ⟨a, b, g⟩ hx => Hid.of (eqI.eq d a b g) (eqI.ok d a b g hx))
noncomputable def checkA (d : Nat) : Face := ⟨22, [.v GR, .v .tree, .v (.int .i64)], fun (g, t, r) => some (gSmall g ∧ okT t ∧ depthT t ≤ d + 1),
  [⟨false, [.v .bool], fun (g, t, r) => checkS g t r, fun (g, t, r) => none⟩]⟩
noncomputable def checkA.g (d : Nat) (g : List ByteArray × List ByteArray × List (Int × List Int)) (t : Tree) (r : Int) : Prop := GoodFA Try.prog (cfOf [known, eqI d]) [] 1000 (checkA d) (g, t, r)
noncomputable def checkA.q0 (g : List ByteArray × List ByteArray × List (Int × List Int)) (t : Tree) (r : Int) : Prop := ((((True ∧ (t.sym != r) = false) ∧ (t.prod == (-1 : Int)) = false) ∧ decide (t.prod < (0 : Int)) = false) ∧ List.length g.2.2 ≤ (9223372036854775807 : Nat)) ∧ decide (t.prod ≥ (↑(List.length g.2.2) : Int)) = false
noncomputable def checkA.q1 (t : Tree) (r : Int) : Prop := ((True ∧ (t.sym != r) = false) ∧ (t.prod == (-1 : Int)) = true) ∧ t.kids.length ≤ (9223372036854775807 : Nat)
noncomputable def checkA.T (d : Nat) (g : List ByteArray × List ByteArray × List (Int × List Int)) (t : Tree) (r : Int) : Prop := (True ∧ (t.sym != r) = true → True ∧ false = checkS g t r) ∧ (((checkA.q1 t r) ∧ ((↑t.kids.length : Int) == (0 : Int)) = true) ∧ ¬(gSmall g ∧ inI t.sym) → False) ∧ (((checkA.q1 t r) ∧ ((↑t.kids.length : Int) == (0 : Int)) = true) ∧ gSmall g ∧ inI t.sym → True ∧ isS g t.sym = checkS g t r) ∧ ((checkA.q1 t r) ∧ ((↑t.kids.length : Int) == (0 : Int)) = false → True ∧ false = checkS g t r) ∧ (((True ∧ (t.sym != r) = false) ∧ (t.prod == (-1 : Int)) = false) ∧ decide (t.prod < (0 : Int)) = true → True ∧ false = checkS g t r) ∧ (((((True ∧ (t.sym != r) = false) ∧ (t.prod == (-1 : Int)) = false) ∧ decide (t.prod < (0 : Int)) = false) ∧ List.length g.2.2 ≤ (9223372036854775807 : Nat)) ∧ decide (t.prod ≥ (↑(List.length g.2.2) : Int)) = true → True ∧ false = checkS g t r) ∧ ((((checkA.q0 g t r) ∧ (0 : Int) ≤ t.prod ∧ t.prod < (↑(List.length g.2.2) : Int)) ∧ ((List.getD g.2.2 t.prod.toNat ((0 : Int), [])).1 == r) = true) ∧ ¬(gSmall g ∧ okTs t.kids ∧ depthsT t.kids ≤ d) → False) ∧ ((((checkA.q0 g t r) ∧ (0 : Int) ≤ t.prod ∧ t.prod < (↑(List.length g.2.2) : Int)) ∧ ((List.getD g.2.2 t.prod.toNat ((0 : Int), [])).1 == r) = true) ∧ gSmall g ∧ okTs t.kids ∧ depthsT t.kids ≤ d → True ∧ checksS g t.kids (List.getD g.2.2 t.prod.toNat ((0 : Int), [])).2 = checkS g t r) ∧ (((checkA.q0 g t r) ∧ (0 : Int) ≤ t.prod ∧ t.prod < (↑(List.length g.2.2) : Int)) ∧ ((List.getD g.2.2 t.prod.toNat ((0 : Int), [])).1 == r) = false → True ∧ false = checkS g t r) ∧ ((checkA.q0 g t r) ∧ ¬((0 : Int) ≤ t.prod ∧ t.prod < (↑(List.length g.2.2) : Int)) → False) ∧ (True)
theorem checkA.eq (d : Nat) (g : List ByteArray × List ByteArray × List (Int × List Int)) (t : Tree) (r : Int) : checkA.g d g t r = checkA.T d g t r := by kernel_rfl
theorem checkA.ok (d : Nat) (g : List ByteArray × List ByteArray × List (Int × List Int)) (t : Tree) (r : Int) (hx : gSmall g ∧ okT t ∧ depthT t ≤ d + 1) : checkA.T d g t r := by
  obtain ⟨hg, ho, hd⟩ := hx
  have h := depthT_kids hd
  delta checkA.T checkA.q0 checkA.q1
  rw [checkS_eq]
  have hs := okT_sym ho
  have hk := okT_kids ho
  ((repeat' (first | exact trivial | apply And.intro)) <;> (intro hw; (try (simp only [true_and, and_true, decide_eq_true_eq, decide_eq_false_iff_not, beq_iff_eq, bne_iff_ne, beq_eq_false_iff_ne, bne_eq_false_iff_eq, ne_eq, Bool.not_eq_true, Bool.not_eq_false, not_true_eq_false, not_false_eq_true, Bool.not_eq_eq_eq_not, Bool.not_true, Bool.not_false, forall_const, imp_self, Bool.true_eq_false, Bool.false_eq_true, reduceCtorEq] at hw)); (try first | (exfalso; omega) | exact ⟨trivial, rfl⟩ | exact (hw hx).elim | exact (hw.2 hx).elim)))
  all_goals try (refine ⟨trivial, ?_⟩; simp_all [prodS]; done)
  · exact hw.2 ⟨hg, hs⟩
  · rw [if_neg hw.1.2, decide_eq_false (show ¬ 0 ≤ t.prod by omega)]
    exact ⟨trivial, by simp⟩
  · rw [if_neg hw.1.1.1.2, decide_eq_false (show ¬ t.prod < (g.2.2.length : Int) by omega)]
    exact ⟨trivial, by simp⟩
  · exact hw.2 ⟨hg, hk, h⟩
  · obtain ⟨⟨⟨⟨⟨⟨⟨h1, h2⟩, h3⟩, h4⟩, h5⟩, h6⟩, h7⟩, h8⟩ := hw
    rw [if_neg h2, decide_eq_true h1, decide_eq_true h6.1, decide_eq_true h6.2, decide_eq_true (show (prodS g t.prod).1 = r from h7)]
    exact ⟨trivial, rfl⟩
  · obtain ⟨⟨⟨⟨⟨⟨h1, h2⟩, h3⟩, h4⟩, h5⟩, h6⟩, h7⟩ := hw
    rw [if_neg h2, decide_eq_true h1, decide_eq_true h6.1, decide_eq_true h6.2, decide_eq_false (show ¬ (prodS g t.prod).1 = r from h7)]
    exact ⟨trivial, rfl⟩
theorem checkA.fn (d : Nat) (ih : FnOk Try.prog (check d)) : FnOk Try.prog (checkA d) := fn_evalH (l := []) (lf := 1000) (fun _ => cfOf_ok (fns_cons known.fn (fns_cons (eqI.fn d ih) (fns_nil _)))) _ (lps_nil _ _) (by kernel_rfl) (fun ⟨g, t, r⟩ hx => Hid.of (checkA.eq d g t r) (checkA.ok d g t r hx))
theorem check.fn : ∀ d, FnOk Try.prog (check d)
  | 0 => fn_none fun t hp => depthT_pos _ hp.2.2
  | d + 1 => checkA.fn d (check.fn d)
noncomputable def rcheck (d : Nat) : Face := ⟨19, [.v GR, .v .tree, .v (.int .i64)], fun (g, t, r) => some (gSmall g ∧ depthT t ≤ d),
  [⟨false, [.v .bool], fun (g, t, r) => checkS g t r, fun (g, t, r) => none⟩]⟩
noncomputable def rcheck.L0 (d : Nat) : LFace := ⟨[3, 4, 64, 65, 66], [.p GR, .p .tree, .v (.sl .tree), .v (.int .i64), .v (.int .i64)], fun (g, t, a, len, i) => some (len = a.length ∧ a.length = (prodS g t.prod).2.length ∧ 0 ≤ t.prod ∧ t.prod < g.2.2.length ∧ 0 ≤ i ∧ i ≤ len ∧ a.length ≤ 9223372036854775807 ∧ gSmall g ∧ depthsT a ≤ d),
  [⟨.normal, [], [], fun (g, t, a, len, i) => (), fun (g, t, a, len, i) => some (checksS g (a.drop i.toNat) ((prodS g t.prod).2.drop i.toNat) = true)⟩,
   ⟨.ret, [6], [.v .bool], fun (g, t, a, len, i) => false, fun (g, t, a, len, i) => some (checksS g (a.drop i.toNat) ((prodS g t.prod).2.drop i.toNat) = false)⟩]⟩
noncomputable def rcheck.L0.mu (d : Nat) : dens (rcheck.L0 d).sh → Nat := fun (g, t, a, len, i) => (len - i).toNat
noncomputable def rcheck.L0.g (d : Nat) (g : List ByteArray × List ByteArray × List (Int × List Int)) (t : Tree) (a : List Tree) (len : Int) (i : Int) : Prop := GoodLA Try.prog (cfOf [rcheck d]) [] 1000 19 0 (rcheck.L0 d) (rcheck.L0.mu d) (g, t, a, len, i)
noncomputable def rcheck.L0.q0 (g : List ByteArray × List ByteArray × List (Int × List Int)) (t : Tree) (a : List Tree) (len : Int) (i : Int) : Prop := (((True ∧ decide (i < len) = true) ∧ (0 : Int) ≤ i ∧ i < (↑a.length : Int)) ∧ (0 : Int) ≤ t.prod ∧ t.prod < (↑(List.length g.2.2) : Int)) ∧ (0 : Int) ≤ i ∧ i < (↑(List.length (List.getD g.2.2 t.prod.toNat ((0 : Int), [])).2) : Int)
noncomputable def rcheck.L0.T0 (d : Nat) (g : List ByteArray × List ByteArray × List (Int × List Int)) (t : Tree) (a : List Tree) (len : Int) (i : Int) : Prop := (((True ∧ decide (i < len) = true) ∧ (0 : Int) ≤ i ∧ i < (↑a.length : Int)) ∧ ¬((0 : Int) ≤ t.prod ∧ t.prod < (↑(List.length g.2.2) : Int)) → False) ∧ ((((True ∧ decide (i < len) = true) ∧ (0 : Int) ≤ i ∧ i < (↑a.length : Int)) ∧ (0 : Int) ≤ t.prod ∧ t.prod < (↑(List.length g.2.2) : Int)) ∧ ¬((0 : Int) ≤ i ∧ i < (↑(List.length (List.getD g.2.2 t.prod.toNat ((0 : Int), [])).2) : Int)) → False) ∧ ((rcheck.L0.q0 g t a len i) ∧ ¬(gSmall g ∧ depthT (eT (a.getD i.toNat (Tree.mk (0 : Int) (0 : Int) []))) ≤ d) → False) ∧ (((rcheck.L0.q0 g t a len i) ∧ gSmall g ∧ depthT (eT (a.getD i.toNat (Tree.mk (0 : Int) (0 : Int) []))) ≤ d) ∧ (!checkS g (eT (a.getD i.toNat (Tree.mk (0 : Int) (0 : Int) []))) (List.getD (List.getD g.2.2 t.prod.toNat ((0 : Int), [])).2 i.toNat (0 : Int))) = true → checksS g (List.drop i.toNat a) (List.drop i.toNat (prodS g t.prod).2) = false ∧ false = false) ∧ (((rcheck.L0.q0 g t a len i) ∧ gSmall g ∧ depthT (eT (a.getD i.toNat (Tree.mk (0 : Int) (0 : Int) []))) ≤ d) ∧ (!checkS g (eT (a.getD i.toNat (Tree.mk (0 : Int) (0 : Int) []))) (List.getD (List.getD g.2.2 t.prod.toNat ((0 : Int), [])).2 i.toNat (0 : Int))) = false → (len = (↑a.length : Int) ∧ a.length = (prodS g t.prod).2.length ∧ (0 : Int) ≤ t.prod ∧ t.prod < (↑(List.length g.2.2) : Int) ∧ (0 : Int) ≤ IntKind.i64.wrap (i + (1 : Int)) ∧ IntKind.i64.wrap (i + (1 : Int)) ≤ len ∧ a.length ≤ (9223372036854775807 : Nat) ∧ gSmall g ∧ depthsT a ≤ d) ∧ rcheck.L0.mu d (g, t, a, len, IntKind.i64.wrap (i + (1 : Int))) < rcheck.L0.mu d (g, t, a, len, i) ∧ (checksS g (List.drop (IntKind.i64.wrap (i + (1 : Int))).toNat a) (List.drop (IntKind.i64.wrap (i + (1 : Int))).toNat (prodS g t.prod).2) = true → checksS g (List.drop i.toNat a) (List.drop i.toNat (prodS g t.prod).2) = true ∧ () = ()) ∧ (checksS g (List.drop (IntKind.i64.wrap (i + (1 : Int))).toNat a) (List.drop (IntKind.i64.wrap (i + (1 : Int))).toNat (prodS g t.prod).2) = false → checksS g (List.drop i.toNat a) (List.drop i.toNat (prodS g t.prod).2) = false ∧ false = false) ∧ True) ∧ ((True ∧ decide (i < len) = true) ∧ ¬((0 : Int) ≤ i ∧ i < (↑a.length : Int)) → False) ∧ (True ∧ decide (i < len) = false → checksS g (List.drop i.toNat a) (List.drop i.toNat (prodS g t.prod).2) = true ∧ () = ()) ∧ (True)
theorem rcheck.L0.eq (d : Nat) (g : List ByteArray × List ByteArray × List (Int × List Int)) (t : Tree) (a : List Tree) (len : Int) (i : Int) : rcheck.L0.g d g t a len i = rcheck.L0.T0 d g t a len i := by kernel_rfl
theorem rcheck.L0.ok (d : Nat) (g : List ByteArray × List ByteArray × List (Int × List Int)) (t : Tree) (a : List Tree) (len : Int) (i : Int) (hx : len = a.length ∧ a.length = (prodS g t.prod).2.length ∧ 0 ≤ t.prod ∧ t.prod < g.2.2.length ∧ 0 ≤ i ∧ i ≤ len ∧ a.length ≤ 9223372036854775807 ∧ gSmall g ∧ depthsT a ≤ d) : rcheck.L0.T0 d g t a len i := by
  delta rcheck.L0.T0 rcheck.L0.q0
  repeat rw [eT_eq]
  obtain ⟨rfl, h1, hp0, hp1, h2, h3, h4, hg, h5⟩ := hx
  unfold prodS at *
  ((repeat' (first | exact trivial | apply And.intro)) <;> (intro hw; (try (simp only [true_and, and_true, decide_eq_true_eq, decide_eq_false_iff_not, beq_iff_eq, bne_iff_ne, beq_eq_false_iff_ne, bne_eq_false_iff_eq, ne_eq, Bool.not_eq_true, Bool.not_eq_false, not_true_eq_false, not_false_eq_true, Bool.not_eq_eq_eq_not, Bool.not_true, Bool.not_false, forall_const, imp_self, Bool.true_eq_false, Bool.false_eq_true, reduceCtorEq] at hw)); (try first | (exfalso; omega) | exact ⟨trivial, rfl⟩ | exact (hw hx).elim | exact (hw.2 hx).elim)))
  · exact hw.2 ⟨hg, depthsT_le _ h5 _ (by omega)⟩
  · obtain ⟨⟨⟨⟨⟨-, -, h6⟩, -⟩, h7⟩, -⟩, h8⟩ := hw
    rw [drop_int (Tree.mk 0 0 []) h2 h6, drop_int 0 h2 h7.2, checksS, h8]
    exact ⟨rfl, rfl⟩
  · obtain ⟨⟨⟨⟨⟨-, -, h6⟩, -⟩, h7⟩, -⟩, h8⟩ := hw
    rw [wrapI64 (x := i + 1) (by omega) (by omega), drop_int (Tree.mk 0 0 []) h2 h6, drop_int 0 h2 h7.2, checksS, h8]
    exact ⟨⟨rfl, h1, hp0, hp1, by omega, by omega, h4, hg, h5⟩, by simp only [rcheck.L0.mu]; omega, fun h => ⟨h, rfl⟩, fun h => ⟨h, rfl⟩, trivial⟩
  · rw [drop_int_end hw, drop_int_end (by omega)]
    exact ⟨rfl, rfl⟩
theorem rcheck.L0.lp (d : Nat) (ih : FnOk Try.prog (rcheck d)) : LpAt Try.prog 19 0 (rcheck.L0 d) := lp_evalH (l := []) (lf := 1000) (fun _ => cfOf_ok (fns_cons ih (fns_nil _))) (lps_nil _ _) (by kernel_rfl) _ (rcheck.L0.mu d) (fun ⟨g, t, a, len, i⟩ hx => Hid.of (rcheck.L0.eq d g t a len i) (rcheck.L0.ok d g t a len i hx))
noncomputable def rcheckA (d : Nat) : Face := ⟨19, [.v GR, .v .tree, .v (.int .i64)], fun (g, t, r) => some (gSmall g ∧ depthT t ≤ d + 1),
  [⟨false, [.v .bool], fun (g, t, r) => checkS g t r, fun (g, t, r) => none⟩]⟩
noncomputable def rcheckA.g (d : Nat) (g : List ByteArray × List ByteArray × List (Int × List Int)) (t : Tree) (r : Int) : Prop := GoodFA Try.prog (cfOf [isF]) [(0, rcheck.L0 d)] 1000 (rcheckA d) (g, t, r)
noncomputable def rcheckA.q1 (g : List ByteArray × List ByteArray × List (Int × List Int)) (t : Tree) (r : Int) : Prop := ((((True ∧ (t.sym != r) = false) ∧ (t.prod == (-1 : Int)) = false) ∧ decide (t.prod < (0 : Int)) = false) ∧ List.length g.2.2 ≤ (9223372036854775807 : Nat)) ∧ decide (t.prod ≥ (↑(List.length g.2.2) : Int)) = false
noncomputable def rcheckA.q0 (g : List ByteArray × List ByteArray × List (Int × List Int)) (t : Tree) (r : Int) : Prop := (((((rcheckA.q1 g t r) ∧ (0 : Int) ≤ t.prod ∧ t.prod < (↑(List.length g.2.2) : Int)) ∧ ((List.getD g.2.2 t.prod.toNat ((0 : Int), [])).1 != t.sym) = false) ∧ (0 : Int) ≤ t.prod ∧ t.prod < (↑(List.length g.2.2) : Int)) ∧ List.length (List.getD g.2.2 t.prod.toNat ((0 : Int), [])).2 ≤ (9223372036854775807 : Nat)) ∧ t.kids.length ≤ (9223372036854775807 : Nat)
noncomputable def rcheckA.q4 (g : List ByteArray × List ByteArray × List (Int × List Int)) (t : Tree) (r : Int) : Prop := ((rcheckA.q0 g t r) ∧ ((↑(List.length (List.getD g.2.2 t.prod.toNat ((0 : Int), [])).2) : Int) != (↑t.kids.length : Int)) = false) ∧ t.kids.length ≤ (9223372036854775807 : Nat)
noncomputable def rcheckA.q2 (d : Nat) (g : List ByteArray × List ByteArray × List (Int × List Int)) (t : Tree) (r : Int) : Prop := (rcheckA.q4 g t r) ∧ (↑t.kids.length : Int) = (↑t.kids.length : Int) ∧ t.kids.length = (prodS g t.prod).2.length ∧ (0 : Int) ≤ t.prod ∧ t.prod < (↑(List.length g.2.2) : Int) ∧ (0 : Int) ≤ (0 : Int) ∧ (0 : Int) ≤ (↑t.kids.length : Int) ∧ t.kids.length ≤ (9223372036854775807 : Nat) ∧ gSmall g ∧ depthsT t.kids ≤ d
noncomputable def rcheckA.q3 (t : Tree) (r : Int) : Prop := ((True ∧ (t.sym != r) = false) ∧ (t.prod == (-1 : Int)) = true) ∧ t.kids.length ≤ (9223372036854775807 : Nat)
noncomputable def rcheckA.T (d : Nat) (g : List ByteArray × List ByteArray × List (Int × List Int)) (t : Tree) (r : Int) : Prop := (True ∧ (t.sym != r) = true → True ∧ false = checkS g t r) ∧ (((rcheckA.q3 t r) ∧ ((↑t.kids.length : Int) == (0 : Int)) = true) ∧ ¬gSmall g → False) ∧ (((rcheckA.q3 t r) ∧ ((↑t.kids.length : Int) == (0 : Int)) = true) ∧ gSmall g → True ∧ isS g t.sym = checkS g t r) ∧ ((rcheckA.q3 t r) ∧ ((↑t.kids.length : Int) == (0 : Int)) = false → True ∧ false = checkS g t r) ∧ (((True ∧ (t.sym != r) = false) ∧ (t.prod == (-1 : Int)) = false) ∧ decide (t.prod < (0 : Int)) = true → True ∧ false = checkS g t r) ∧ (((((True ∧ (t.sym != r) = false) ∧ (t.prod == (-1 : Int)) = false) ∧ decide (t.prod < (0 : Int)) = false) ∧ List.length g.2.2 ≤ (9223372036854775807 : Nat)) ∧ decide (t.prod ≥ (↑(List.length g.2.2) : Int)) = true → True ∧ false = checkS g t r) ∧ ((rcheckA.q1 g t r) ∧ ¬((0 : Int) ≤ t.prod ∧ t.prod < (↑(List.length g.2.2) : Int)) → False) ∧ (((rcheckA.q1 g t r) ∧ (0 : Int) ≤ t.prod ∧ t.prod < (↑(List.length g.2.2) : Int)) ∧ ((List.getD g.2.2 t.prod.toNat ((0 : Int), [])).1 != t.sym) = true → True ∧ false = checkS g t r) ∧ ((((rcheckA.q1 g t r) ∧ (0 : Int) ≤ t.prod ∧ t.prod < (↑(List.length g.2.2) : Int)) ∧ ((List.getD g.2.2 t.prod.toNat ((0 : Int), [])).1 != t.sym) = false) ∧ ¬((0 : Int) ≤ t.prod ∧ t.prod < (↑(List.length g.2.2) : Int)) → False) ∧ ((rcheckA.q0 g t r) ∧ ((↑(List.length (List.getD g.2.2 t.prod.toNat ((0 : Int), [])).2) : Int) != (↑t.kids.length : Int)) = true → True ∧ false = checkS g t r) ∧ ((rcheckA.q4 g t r) ∧ ¬((↑t.kids.length : Int) = (↑t.kids.length : Int) ∧ t.kids.length = (prodS g t.prod).2.length ∧ (0 : Int) ≤ t.prod ∧ t.prod < (↑(List.length g.2.2) : Int) ∧ (0 : Int) ≤ (0 : Int) ∧ (0 : Int) ≤ (↑t.kids.length : Int) ∧ t.kids.length ≤ (9223372036854775807 : Nat) ∧ gSmall g ∧ depthsT t.kids ≤ d) → False) ∧ ((rcheckA.q2 d g t r) ∧ checksS g (List.drop (Int.toNat (0 : Int)) t.kids) (List.drop (Int.toNat (0 : Int)) (prodS g t.prod).2) = true → True ∧ true = checkS g t r) ∧ ((rcheckA.q2 d g t r) ∧ checksS g (List.drop (Int.toNat (0 : Int)) t.kids) (List.drop (Int.toNat (0 : Int)) (prodS g t.prod).2) = false → True ∧ false = checkS g t r) ∧ (True)
theorem rcheckA.eq (d : Nat) (g : List ByteArray × List ByteArray × List (Int × List Int)) (t : Tree) (r : Int) : rcheckA.g d g t r = rcheckA.T d g t r := by kernel_rfl
theorem rcheckA.ok (d : Nat) (g : List ByteArray × List ByteArray × List (Int × List Int)) (t : Tree) (r : Int) (hx : gSmall g ∧ depthT t ≤ d + 1) : rcheckA.T d g t r := by
  obtain ⟨hg, hd⟩ := hx
  have h := depthT_kids hd
  delta rcheckA.T rcheckA.q1 rcheckA.q0 rcheckA.q4 rcheckA.q2 rcheckA.q3
  rw [checkS_eq]
  unfold prodS
  ((repeat' (first | exact trivial | apply And.intro)) <;> (intro hw; (try (simp only [true_and, and_true, decide_eq_true_eq, decide_eq_false_iff_not, beq_iff_eq, bne_iff_ne, beq_eq_false_iff_ne, bne_eq_false_iff_eq, ne_eq, Bool.not_eq_true, Bool.not_eq_false, not_true_eq_false, not_false_eq_true, Bool.not_eq_eq_eq_not, Bool.not_true, Bool.not_false, forall_const, imp_self, Bool.true_eq_false, Bool.false_eq_true, reduceCtorEq] at hw)); (try first | (exfalso; omega) | exact ⟨trivial, rfl⟩ | exact (hw hx).elim | exact (hw.2 hx).elim)))
  all_goals try (refine ⟨trivial, ?_⟩; by_cases hp : 0 ≤ t.prod <;> by_cases hq : t.prod < (g.2.2.length : Int) <;> first | (exfalso; omega) | (simp_all [-List.getD_eq_getElem?_getD]; done))
  · exact hw.2 hg
  · rw [if_neg hw.1.2, decide_eq_false (show ¬ 0 ≤ t.prod by omega)]
    exact ⟨trivial, by simp⟩
  · rw [if_neg hw.1.1.1.2, decide_eq_false (show ¬ t.prod < (g.2.2.length : Int) by omega)]
    exact ⟨trivial, by simp⟩
  · obtain ⟨⟨⟨⟨⟨⟨h1, h2⟩, h3⟩, h4⟩, h5⟩, h6⟩, h7⟩ := hw
    subst h1
    rw [if_neg h2, decide_eq_false h7]
    exact ⟨trivial, by simp⟩
  · obtain ⟨⟨⟨⟨⟨⟨⟨⟨⟨⟨h1, h2⟩, h3⟩, h4⟩, h5⟩, h6⟩, h7⟩, h8⟩, h9⟩, h10⟩, h11⟩ := hw
    have : checksS g t.kids (g.2.2.getD t.prod.toNat (0, [])).2 = false := by
      cases hs : checksS g t.kids (g.2.2.getD t.prod.toNat (0, [])).2 with
      | false => rfl
      | true => have := checksS_len hs; omega
    rw [if_neg h2, this]
    exact ⟨trivial, by simp⟩
  · exact hw.2 ⟨by omega, by omega, by omega, Int.le_refl _, by omega, by omega, hg, h⟩
theorem rcheckA.fn (d : Nat) (ih : FnOk Try.prog (rcheck d)) : FnOk Try.prog (rcheckA d) := fn_evalH (l := [(0, rcheck.L0 d)]) (lf := 1000) (fun _ => cfOf_ok (fns_cons isF.fn (fns_nil _))) _ (lps_cons (rcheck.L0.lp d ih) (lps_nil _ _)) (by kernel_rfl) (fun ⟨g, t, r⟩ hx => Hid.of (rcheckA.eq d g t r) (rcheckA.ok d g t r hx))
theorem rcheck.fn : ∀ d, FnOk Try.prog (rcheck d)
  | 0 => fn_none fun t hp => depthT_pos _ hp.2
  | d + 1 => rcheckA.fn d (rcheck.fn d)
noncomputable def rcheckF : Face := ⟨19, [.v GR, .v .tree, .v (.int .i64)], fun (g, t, r) => some (gSmall g), [⟨false, [.v .bool], fun (g, t, r) => checkS g t r, fun _ => none⟩]⟩
theorem rcheckF.fn : FnOk Try.prog rcheckF := fn_all rcheck.fn (fun (g, t, r) h => ⟨depthT t, h, Nat.le_refl _⟩)
end Go.Proofs.Ytdmljeaigjfenaa.D

namespace Go.Proofs.Ytdmljeaigjfenaa.D
open Go Go.EV Go.TL Go.Proofs
set_option linter.unusedVariables false
set_option linter.unusedSimpArgs false
set_option maxRecDepth 100000
abbrev PR : Ty := .pr (.int .i64) (.sl (.int .i64))
noncomputable def sameRow.L0  : LFace := ⟨[0, 1, 12, 13], [.v (.sl (.int .i64)), .v (.sl (.int .i64)), .v (.int .i64), .v (.int .i64)], fun (a, b, len, i) => some (len = a.length ∧ a.length = b.length ∧ 0 ≤ i ∧ i ≤ a.length ∧ a.length ≤ 9223372036854775807),
  [⟨.normal, [], [], fun (a, b, len, i) => (), fun (a, b, len, i) => some (sameS (a.drop i.toNat) (b.drop i.toNat) = true)⟩,
   ⟨.ret, [4], [.v .bool], fun (a, b, len, i) => false, fun (a, b, len, i) => some (sameS (a.drop i.toNat) (b.drop i.toNat) = false)⟩]⟩
noncomputable def sameRow.L0.mu  : dens sameRow.L0.sh → Nat := fun (a, b, len, i) => (a.length - i).toNat
noncomputable def sameRow.L0.g  (a : List Int) (b : List Int) (len : Int) (i : Int) : Prop := GoodLA Try.prog (cfOf []) [] 1000 46 0 sameRow.L0 sameRow.L0.mu (a, b, len, i)
noncomputable def sameRow.L0.T (a : List Int) (b : List Int) (len : Int) (i : Int) : Prop := ((True ∧ decide (i < len) = true) ∧ ¬((0 : Int) ≤ i ∧ i < (↑a.length : Int)) → False) ∧ (((True ∧ decide (i < len) = true) ∧ (0 : Int) ≤ i ∧ i < (↑a.length : Int)) ∧ ¬((0 : Int) ≤ i ∧ i < (↑b.length : Int)) → False) ∧ ((((True ∧ decide (i < len) = true) ∧ (0 : Int) ≤ i ∧ i < (↑a.length : Int)) ∧ (0 : Int) ≤ i ∧ i < (↑b.length : Int)) ∧ (a.getD i.toNat (0 : Int) != b.getD i.toNat (0 : Int)) = true →
  sameS (List.drop i.toNat a) (List.drop i.toNat b) = false ∧ false = false) ∧ ((((True ∧ decide (i < len) = true) ∧ (0 : Int) ≤ i ∧ i < (↑a.length : Int)) ∧ (0 : Int) ≤ i ∧ i < (↑b.length : Int)) ∧ (a.getD i.toNat (0 : Int) != b.getD i.toNat (0 : Int)) = false →
  (len = (↑a.length : Int) ∧ a.length = b.length ∧ (0 : Int) ≤ IntKind.i64.wrap (i + (1 : Int)) ∧ IntKind.i64.wrap (i + (1 : Int)) ≤ (↑a.length : Int) ∧ a.length ≤ (9223372036854775807 : Nat)) ∧ sameRow.L0.mu (a, b, len, IntKind.i64.wrap (i + (1 : Int))) < sameRow.L0.mu (a, b, len, i) ∧ (sameS (List.drop (IntKind.i64.wrap (i + (1 : Int))).toNat a) (List.drop (IntKind.i64.wrap (i + (1 : Int))).toNat b) = true → sameS (List.drop i.toNat a) (List.drop i.toNat b) = true ∧ () = ()) ∧ (sameS (List.drop (IntKind.i64.wrap (i + (1 : Int))).toNat a) (List.drop (IntKind.i64.wrap (i + (1 : Int))).toNat b) = false → sameS (List.drop i.toNat a) (List.drop i.toNat b) = false ∧ false = false) ∧ True) ∧ (True ∧ decide (i < len) = false → sameS (List.drop i.toNat a) (List.drop i.toNat b) = true ∧ () = ()) ∧ (True)
theorem sameRow.L0.eq  (a : List Int) (b : List Int) (len : Int) (i : Int) : sameRow.L0.g  a b len i = sameRow.L0.T  a b len i := by kernel_rfl
theorem sameRow.L0.ok  (a : List Int) (b : List Int) (len : Int) (i : Int) (hx : len = a.length ∧ a.length = b.length ∧ 0 ≤ i ∧ i ≤ a.length ∧ a.length ≤ 9223372036854775807) : sameRow.L0.T  a b len i := by
  obtain ⟨rfl, h1, h2, h3, h4⟩ := hx
  ((repeat' (first | exact trivial | apply And.intro)) <;> (intro hw; (try (simp only [true_and, and_true, decide_eq_true_eq, decide_eq_false_iff_not, beq_iff_eq, bne_iff_ne, beq_eq_false_iff_ne, bne_eq_false_iff_eq, ne_eq, Bool.not_eq_true, Bool.not_eq_false, not_true_eq_false, not_false_eq_true, Bool.not_eq_eq_eq_not, Bool.not_true, Bool.not_false, forall_const, imp_self, Bool.true_eq_false, Bool.false_eq_true, reduceCtorEq] at hw)); (try first | (exfalso; omega) | exact ⟨trivial, rfl⟩ | exact (hw hx).elim | exact (hw.2 hx).elim)))
  · obtain ⟨⟨⟨h6, -⟩, h5⟩, h7⟩ := hw
    rw [drop_int 0 h2 h6, drop_int 0 h2 (by omega), sameS]
    refine ⟨?_, rfl⟩
    rw [decide_eq_false h7]; rfl
  · obtain ⟨⟨⟨h6, -⟩, h5⟩, h7⟩ := hw
    rw [wrapI64 (x := i + 1) (by omega) (by omega), drop_int 0 h2 h6, drop_int 0 h2 (by omega), sameS]
    simp only [h7, decide_true, Bool.true_and, sameRow.L0.mu]
    refine ⟨⟨trivial, h1, by omega, by omega, h4⟩, by omega, fun h => ⟨h, trivial⟩, fun h => ⟨h, trivial⟩, trivial⟩
  · rw [drop_int_end hw, drop_int_end (by omega)]
    exact ⟨rfl, rfl⟩
theorem sameRow.L0.lp   : LpAt Try.prog 46 0 sameRow.L0 := lp_evalH (l := []) (lf := 1000) (fun _ => cfOf_ok (fns_nil _)) (lps_nil _ _) (by kernel_rfl) _ (sameRow.L0.mu ) (fun ⟨a, b, len, i⟩ hx => Hid.of (sameRow.L0.eq  a b len i) (sameRow.L0.ok  a b len i hx))
noncomputable def sameRow  : Face := ⟨46, [.v (.sl (.int .i64)), .v (.sl (.int .i64))], fun (a, b) => none,
  [⟨false, [.v .bool], fun (a, b) => sameS a b, fun (a, b) => none⟩]⟩
noncomputable def sameRow.g  (a : List Int) (b : List Int) : Prop := GoodFA Try.prog (cfOf []) [(0, sameRow.L0)] 1000 sameRow (a, b)
noncomputable def sameRow.q0 (a : List Int) (b : List Int) : Prop := (((True ∧ a.length ≤ (9223372036854775807 : Nat)) ∧ b.length ≤ (9223372036854775807 : Nat)) ∧ ((↑a.length : Int) != (↑b.length : Int)) = false) ∧ a.length ≤ (9223372036854775807 : Nat)
noncomputable def sameRow.q1 (a : List Int) (b : List Int) : Prop := (sameRow.q0 a b) ∧ (↑a.length : Int) = (↑a.length : Int) ∧ a.length = b.length ∧ (0 : Int) ≤ (0 : Int) ∧ (0 : Int) ≤ (↑a.length : Int) ∧ a.length ≤ (9223372036854775807 : Nat)
noncomputable def sameRow.T (a : List Int) (b : List Int) : Prop := (((True ∧ a.length ≤ (9223372036854775807 : Nat)) ∧ b.length ≤ (9223372036854775807 : Nat)) ∧ ((↑a.length : Int) != (↑b.length : Int)) = true → True ∧ false = sameS a b) ∧ ((sameRow.q0 a b) ∧ ¬((↑a.length : Int) = (↑a.length : Int) ∧ a.length = b.length ∧ (0 : Int) ≤ (0 : Int) ∧ (0 : Int) ≤ (↑a.length : Int) ∧ a.length ≤ (9223372036854775807 : Nat)) → False) ∧ ((sameRow.q1 a b) ∧ sameS (List.drop (Int.toNat (0 : Int)) a) (List.drop (Int.toNat (0 : Int)) b) = true → True ∧ true = sameS a b) ∧ ((sameRow.q1 a b) ∧ sameS (List.drop (Int.toNat (0 : Int)) a) (List.drop (Int.toNat (0 : Int)) b) = false → True ∧ false = sameS a b) ∧ (True)
theorem sameRow.eq  (a : List Int) (b : List Int) : sameRow.g  a b = sameRow.T  a b := by kernel_rfl
theorem sameRow.ok  (a : List Int) (b : List Int) : sameRow.T  a b := by
  delta sameRow.T sameRow.q0 sameRow.q1
  ((repeat' (first | exact trivial | apply And.intro)) <;> (intro hw; (try (simp only [true_and, and_true, decide_eq_true_eq, decide_eq_false_iff_not, beq_iff_eq, bne_iff_ne, beq_eq_false_iff_ne, bne_eq_false_iff_eq, ne_eq, Bool.not_eq_true, Bool.not_eq_false, not_true_eq_false, not_false_eq_true, Bool.not_eq_eq_eq_not, Bool.not_true, Bool.not_false, forall_const, imp_self, Bool.true_eq_false, Bool.false_eq_true, reduceCtorEq] at hw)); (try first | (exfalso; omega) | exact ⟨trivial, rfl⟩ | exact (hw hx).elim | exact (hw.2 hx).elim)))
  · refine ⟨trivial, ?_⟩
    cases h : sameS a b with
    | false => rfl
    | true => have := sameS_len h; omega
  · exact ⟨trivial, hw.2.symm⟩
  · exact ⟨trivial, hw.2.symm⟩
theorem sameRow.fn   : FnOk Try.prog sameRow := fn_evalH (l := [(0, sameRow.L0)]) (lf := 1000) (fun _ => cfOf_ok (fns_nil _)) _ (lps_cons (sameRow.L0.lp) (lps_nil _ _)) (by kernel_rfl) (fun ⟨a, b⟩ hx => Hid.of (sameRow.eq  a b) (sameRow.ok  a b))
def symS (t n r : Int) : Int := if r % (t + n) < t then r % (t + n) + 1 else 100 + r % (t + n) - t
noncomputable def put.L0  : LFace := ⟨[1, 2, 3, 6, 7, 8, 9], [.v (.int .i64), .v (.sl (.int .i64)), .box 29 [.v (.sl .str), .v (.sl .str), .row PR 57], .box 29 [.un, .un, .un], .box 57 [.v (.int .i64), .row (.int .i64) 3], .v (.int .i64), .v (.int .i64)], fun (left, row, g, u, p, t, i) => some (0 ≤ i ∧ i ≤ 3 ∧ t = g.1.length ∧ 1 ≤ t ∧ g.1.length ≤ 99 ∧ g.2.1.length ≤ 99 ∧ p.2.length ≤ i.toNat),
  [⟨.normal, [1, 3, 6, 7], [.v (.int .i64), .box 29 [.v (.sl .str), .v (.sl .str), .row PR 57], .box 29 [.un, .un, .un], .box 57 [.v (.int .i64), .row (.int .i64) 3]], fun (left, row, g, u, p, t, i) => (left, g, u, p.1, p.2 ++ ((row.take 3).drop i.toNat).map (symS g.1.length g.2.1.length)), fun (left, row, g, u, p, t, i) => none⟩]⟩
noncomputable def put.L0.mu  : dens put.L0.sh → Nat := fun (left, row, g, u, p, t, i) => (3 - i).toNat
noncomputable def put.L0.g  (left : Int) (row : List Int) (g : List ByteArray × List ByteArray × List (Int × List Int)) (u : Unit × Unit × Unit) (p : Int × List Int) (t : Int) (i : Int) : Prop := GoodLA Try.prog (cfOf [within]) [] 1000 51 0 put.L0 put.L0.mu (left, row, g, u, p, t, i)
noncomputable def put.L0.q1 (row : List Int) (g : List ByteArray × List ByteArray × List (Int × List Int)) (i : Int) : Prop := ((((True ∧ row.length ≤ (9223372036854775807 : Nat)) ∧ decide (i < (↑row.length : Int)) = true) ∧ decide (i < (3 : Int)) = true) ∧ (0 : Int) ≤ i ∧ i < (↑row.length : Int)) ∧ List.length g.2.1 ≤ (9223372036854775807 : Nat)
noncomputable def put.L0.q0 (row : List Int) (g : List ByteArray × List ByteArray × List (Int × List Int)) (t : Int) (i : Int) : Prop := (put.L0.q1 row g i) ∧ (0 : Int) < IntKind.i64.wrap (t + (↑(List.length g.2.1) : Int)) ∧ IntKind.i64.wrap (t + (↑(List.length g.2.1) : Int)) ≤ (9223372036854775807 : Int)
noncomputable def put.L0.T (left : Int) (row : List Int) (g : List ByteArray × List ByteArray × List (Int × List Int)) (u : Unit × Unit × Unit) (p : Int × List Int) (t : Int) (i : Int) : Prop := ((((True ∧ row.length ≤ (9223372036854775807 : Nat)) ∧ decide (i < (↑row.length : Int)) = true) ∧ decide (i < (3 : Int)) = true) ∧ ¬((0 : Int) ≤ i ∧ i < (↑row.length : Int)) → False) ∧ ((put.L0.q1 row g i) ∧ ¬((0 : Int) < IntKind.i64.wrap (t + (↑(List.length g.2.1) : Int)) ∧ IntKind.i64.wrap (t + (↑(List.length g.2.1) : Int)) ≤ (9223372036854775807 : Int)) → False) ∧ (((put.L0.q0 row g t i) ∧ decide (row.getD i.toNat (0 : Int) % IntKind.i64.wrap (t + (↑(List.length g.2.1) : Int)) < t) = true) ∧ (List.length p.2 + (1 : Nat)) * (8 : Nat) ≤ (140737488355328 : Nat) → ((0 : Int) ≤ IntKind.i64.wrap (i + (1 : Int)) ∧ IntKind.i64.wrap (i + (1 : Int)) ≤ (3 : Int) ∧ t = (↑(List.length g.1) : Int) ∧ (1 : Int) ≤ t ∧ List.length g.1 ≤ (99 : Nat) ∧ List.length g.2.1 ≤ (99 : Nat) ∧ (p.2 ++ [IntKind.i64.wrap (row.getD i.toNat (0 : Int) % IntKind.i64.wrap (t + (↑(List.length g.2.1) : Int)) + (1 : Int))]).length ≤ (IntKind.i64.wrap (i + (1 : Int))).toNat) ∧ put.L0.mu (left, row, g, ((), (), ()), (p.1, p.2 ++ [IntKind.i64.wrap (row.getD i.toNat (0 : Int) % IntKind.i64.wrap (t + (↑(List.length g.2.1) : Int)) + (1 : Int))]), t, IntKind.i64.wrap (i + (1 : Int))) < put.L0.mu (left, row, g, u, p, t, i) ∧ (True → True ∧ (left, g, ((), (), ()), p.1, p.2 ++ [IntKind.i64.wrap (row.getD i.toNat (0 : Int) % IntKind.i64.wrap (t + (↑(List.length g.2.1) : Int)) + (1 : Int))] ++ List.map (symS (↑(List.length g.1) : Int) (↑(List.length g.2.1) : Int)) (List.drop (IntKind.i64.wrap (i + (1 : Int))).toNat (List.take (3 : Nat) row))) = (left, g, u, p.1, p.2 ++ List.map (symS (↑(List.length g.1) : Int) (↑(List.length g.2.1) : Int)) (List.drop i.toNat (List.take (3 : Nat) row)))) ∧ True) ∧ (((put.L0.q0 row g t i) ∧ decide (row.getD i.toNat (0 : Int) % IntKind.i64.wrap (t + (↑(List.length g.2.1) : Int)) < t) = true) ∧ ¬(List.length p.2 + (1 : Nat)) * (8 : Nat) ≤ (140737488355328 : Nat) → False) ∧ (((put.L0.q0 row g t i) ∧ decide (row.getD i.toNat (0 : Int) % IntKind.i64.wrap (t + (↑(List.length g.2.1) : Int)) < t) = false) ∧ (List.length p.2 + (1 : Nat)) * (8 : Nat) ≤ (140737488355328 : Nat) → ((0 : Int) ≤ IntKind.i64.wrap (i + (1 : Int)) ∧ IntKind.i64.wrap (i + (1 : Int)) ≤ (3 : Int) ∧ t = (↑(List.length g.1) : Int) ∧ (1 : Int) ≤ t ∧ List.length g.1 ≤ (99 : Nat) ∧ List.length g.2.1 ≤ (99 : Nat) ∧ (p.2 ++ [IntKind.i64.wrap (IntKind.i64.wrap ((100 : Int) + row.getD i.toNat (0 : Int) % IntKind.i64.wrap (t + (↑(List.length g.2.1) : Int))) - t)]).length ≤ (IntKind.i64.wrap (i + (1 : Int))).toNat) ∧ put.L0.mu (left, row, g, ((), (), ()), (p.1, p.2 ++ [IntKind.i64.wrap (IntKind.i64.wrap ((100 : Int) + row.getD i.toNat (0 : Int) % IntKind.i64.wrap (t + (↑(List.length g.2.1) : Int))) - t)]), t, IntKind.i64.wrap (i + (1 : Int))) < put.L0.mu (left, row, g, u, p, t, i) ∧ (True → True ∧ (left, g, ((), (), ()), p.1, p.2 ++ [IntKind.i64.wrap (IntKind.i64.wrap ((100 : Int) + row.getD i.toNat (0 : Int) % IntKind.i64.wrap (t + (↑(List.length g.2.1) : Int))) - t)] ++ List.map (symS (↑(List.length g.1) : Int) (↑(List.length g.2.1) : Int)) (List.drop (IntKind.i64.wrap (i + (1 : Int))).toNat (List.take (3 : Nat) row))) = (left, g, u, p.1, p.2 ++ List.map (symS (↑(List.length g.1) : Int) (↑(List.length g.2.1) : Int)) (List.drop i.toNat (List.take (3 : Nat) row)))) ∧ True) ∧ (((put.L0.q0 row g t i) ∧ decide (row.getD i.toNat (0 : Int) % IntKind.i64.wrap (t + (↑(List.length g.2.1) : Int)) < t) = false) ∧ ¬(List.length p.2 + (1 : Nat)) * (8 : Nat) ≤ (140737488355328 : Nat) → False) ∧ (((True ∧ row.length ≤ (9223372036854775807 : Nat)) ∧ decide (i < (↑row.length : Int)) = true) ∧ decide (i < (3 : Int)) = false → True ∧ (left, g, ((), (), ()), p) = (left, g, u, p.1, p.2 ++ List.map (symS (↑(List.length g.1) : Int) (↑(List.length g.2.1) : Int)) (List.drop i.toNat (List.take (3 : Nat) row)))) ∧ ((True ∧ row.length ≤ (9223372036854775807 : Nat)) ∧ decide (i < (↑row.length : Int)) = false → True ∧ (left, g, ((), (), ()), p) = (left, g, u, p.1, p.2 ++ List.map (symS (↑(List.length g.1) : Int) (↑(List.length g.2.1) : Int)) (List.drop i.toNat (List.take (3 : Nat) row)))) ∧ (True)
theorem put.L0.eq  (left : Int) (row : List Int) (g : List ByteArray × List ByteArray × List (Int × List Int)) (u : Unit × Unit × Unit) (p : Int × List Int) (t : Int) (i : Int) : put.L0.g  left row g u p t i = put.L0.T  left row g u p t i := by kernel_rfl
theorem put.L0.ok  (left : Int) (row : List Int) (g : List ByteArray × List ByteArray × List (Int × List Int)) (u : Unit × Unit × Unit) (p : Int × List Int) (t : Int) (i : Int) (hx : 0 ≤ i ∧ i ≤ 3 ∧ t = g.1.length ∧ 1 ≤ t ∧ g.1.length ≤ 99 ∧ g.2.1.length ≤ 99 ∧ p.2.length ≤ i.toNat) : put.L0.T  left row g u p t i := by
  obtain ⟨h0, h1, rfl, h2, h3, h4, h5⟩ := hx
  have w1 : IntKind.i64.wrap (i + 1) = i + 1 := wrapI64 (by omega) (by omega)
  have w2 : IntKind.i64.wrap ((g.1.length : Int) + g.2.1.length) = (g.1.length : Int) + g.2.1.length := wrapI64 (by omega) (by omega)
  delta put.L0.T put.L0.q1 put.L0.q0
  simp only [w1, w2]
  have hr0 := Int.emod_nonneg (row.getD i.toNat 0) (show (g.1.length : Int) + g.2.1.length ≠ 0 by omega)
  have hr1 := Int.emod_lt_of_pos (row.getD i.toNat 0) (show 0 < (g.1.length : Int) + g.2.1.length by omega)
  have hS : symS g.1.length g.2.1.length (row.getD i.toNat 0) = if row.getD i.toNat 0 % ((g.1.length : Int) + g.2.1.length) < g.1.length then row.getD i.toNat 0 % ((g.1.length : Int) + g.2.1.length) + 1 else 100 + row.getD i.toNat 0 % ((g.1.length : Int) + g.2.1.length) - g.1.length := rfl
  have hD : i < 3 → i < (row.length : Int) → (row.take 3).drop i.toNat = row.getD i.toNat 0 :: (row.take 3).drop (i + 1).toNat := fun ha hb => by
    rw [drop_int 0 h0 (by simp; omega), take_getD (by omega)]
  generalize row.getD i.toNat 0 % ((g.1.length : Int) + g.2.1.length) = r at *
  rw [wrapI64 (x := r + 1) (by omega) (by omega), wrapI64 (x := 100 + r) (by omega) (by omega), wrapI64 (x := 100 + r - g.1.length) (by omega) (by omega)]
  generalize row.getD i.toNat 0 = x at *
  have hmu : ∀ q, put.L0.mu (left, row, g, u, q, (g.1.length : Int), i + 1) < put.L0.mu (left, row, g, u, p, (g.1.length : Int), i) ∨ 3 ≤ i := fun q => by simp only [put.L0.mu]; omega
  ((repeat' (first | exact trivial | apply And.intro)) <;> (intro hw; (try (simp only [true_and, and_true, decide_eq_true_eq, decide_eq_false_iff_not, beq_iff_eq, bne_iff_ne, beq_eq_false_iff_ne, bne_eq_false_iff_eq, ne_eq, Bool.not_eq_true, Bool.not_eq_false, not_true_eq_false, not_false_eq_true, Bool.not_eq_eq_eq_not, Bool.not_true, Bool.not_false, forall_const, imp_self, Bool.true_eq_false, Bool.false_eq_true, reduceCtorEq] at hw)); (try first | (exfalso; omega) | exact ⟨trivial, rfl⟩ | exact (hw hx).elim | exact (hw.2 hx).elim)))
  · rw [hD (by omega) (by omega), List.map_cons, hS, if_pos hw.1.2]
    refine ⟨⟨by omega, by omega, trivial, h2, h3, h4, by rw [List.length_append]; simp; omega⟩, (hmu _).resolve_right (by omega), fun _ => ⟨trivial, ?_⟩, trivial⟩
    rw [List.append_assoc]; rfl
  · rw [hD (by omega) (by omega), List.map_cons, hS, if_neg hw.1.2]
    refine ⟨⟨by omega, by omega, trivial, h2, h3, h4, by rw [List.length_append]; simp; omega⟩, (hmu _).resolve_right (by omega), fun _ => ⟨trivial, ?_⟩, trivial⟩
    rw [List.append_assoc]; rfl
  all_goals
    rw [List.drop_eq_nil_of_le (by simp; omega), List.map_nil, List.append_nil]
    exact ⟨trivial, rfl⟩
theorem put.L0.lp   : LpAt Try.prog 51 0 put.L0 := lp_evalH (l := []) (lf := 1000) (fun _ => cfOf_ok (fns_cons within.fn (fns_nil _))) (lps_nil _ _) (by kernel_rfl) _ (put.L0.mu ) (fun ⟨left, row, g, u, p, t, i⟩ hx => Hid.of (put.L0.eq  left row g u p t i) (put.L0.ok  left row g u p t i hx))
def hasS (left : Int) (r : List Int) : List (Int × List Int) → Bool
  | [] => false
  | q :: l => (decide (q.1 = left) && sameS q.2 r) || hasS left r l
noncomputable def put.L2  : LFace := ⟨[1, 3, 6, 7, 58, 59, 60], [.v (.int .i64), .box 29 [.v (.sl .str), .v (.sl .str), .row PR 57], .box 29 [.un, .un, .un], .box 57 [.v (.int .i64), .v (.sl (.int .i64))], .al 0, .v (.int .i64), .v (.int .i64)], fun (left, g, u, p, z, len, i) => some (len = g.2.2.length ∧ 0 ≤ i ∧ i ≤ g.2.2.length ∧ g.2.2.length ≤ 1000),
  [⟨.normal, [3, 6, 7], [.box 29 [.v (.sl .str), .v (.sl .str), .row PR 57], .box 29 [.un, .un, .un], .box 57 [.v (.int .i64), .v (.sl (.int .i64))]], fun (left, g, u, p, z, len, i) => (g, u, p), fun (left, g, u, p, z, len, i) => some (hasS left p.2 (g.2.2.drop i.toNat) = false)⟩,
   ⟨.ret, [3, 6, 7], [.box 29 [.un, .un, .un], .box 29 [.v (.sl .str), .v (.sl .str), .row PR 57], .box 57 [.un, .un]], fun (left, g, u, p, z, len, i) => (((), (), ()), g, (), ()), fun (left, g, u, p, z, len, i) => some (hasS left p.2 (g.2.2.drop i.toNat) = true)⟩]⟩
noncomputable def put.L2.mu  : dens put.L2.sh → Nat := fun (left, g, u, p, z, len, i) => (g.2.2.length - i).toNat
noncomputable def put.L2.g  (left : Int) (g : List ByteArray × List ByteArray × List (Int × List Int)) (u : Unit × Unit × Unit) (p : Int × List Int) (z : Unit) (len : Int) (i : Int) : Prop := GoodLA Try.prog (cfOf [sameRow]) [] 1000 51 2 put.L2 put.L2.mu (left, g, u, p, z, len, i)
noncomputable def put.L2.T (left : Int) (g : List ByteArray × List ByteArray × List (Int × List Int)) (u : Unit × Unit × Unit) (p : Int × List Int) (z : Unit) (len : Int) (i : Int) : Prop := (((((True ∧ decide (i < len) = true) ∧ (0 : Int) ≤ i ∧ i < (↑(List.length g.2.2) : Int)) ∧ i.toNat < List.length g.2.2) ∧ ((List.getD g.2.2 i.toNat ((0 : Int), [])).1 == left) = true) ∧ sameS (List.getD g.2.2 i.toNat ((0 : Int), [])).2 p.2 = true →
  hasS left p.2 (List.drop i.toNat g.2.2) = true ∧ (((), (), ()), g, (), ()) = (((), (), ()), g, (), ())) ∧ (((((True ∧ decide (i < len) = true) ∧ (0 : Int) ≤ i ∧ i < (↑(List.length g.2.2) : Int)) ∧ i.toNat < List.length g.2.2) ∧ ((List.getD g.2.2 i.toNat ((0 : Int), [])).1 == left) = true) ∧ sameS (List.getD g.2.2 i.toNat ((0 : Int), [])).2 p.2 = false →
  (len = (↑(List.length g.2.2) : Int) ∧ (0 : Int) ≤ IntKind.i64.wrap (i + (1 : Int)) ∧ IntKind.i64.wrap (i + (1 : Int)) ≤ (↑(List.length g.2.2) : Int) ∧ List.length g.2.2 ≤ (1000 : Nat)) ∧ put.L2.mu (left, g, ((), (), ()), p, (), len, IntKind.i64.wrap (i + (1 : Int))) < put.L2.mu (left, g, u, p, z, len, i) ∧ (hasS left p.2 (List.drop (IntKind.i64.wrap (i + (1 : Int))).toNat g.2.2) = false → hasS left p.2 (List.drop i.toNat g.2.2) = false ∧ (g, ((), (), ()), p) = (g, u, p)) ∧ (hasS left p.2 (List.drop (IntKind.i64.wrap (i + (1 : Int))).toNat g.2.2) = true → hasS left p.2 (List.drop i.toNat g.2.2) = true ∧ (((), (), ()), g, (), ()) = (((), (), ()), g, (), ())) ∧ True) ∧ ((((True ∧ decide (i < len) = true) ∧ (0 : Int) ≤ i ∧ i < (↑(List.length g.2.2) : Int)) ∧ i.toNat < List.length g.2.2) ∧ ((List.getD g.2.2 i.toNat ((0 : Int), [])).1 == left) = false →
  (len = (↑(List.length g.2.2) : Int) ∧ (0 : Int) ≤ IntKind.i64.wrap (i + (1 : Int)) ∧ IntKind.i64.wrap (i + (1 : Int)) ≤ (↑(List.length g.2.2) : Int) ∧ List.length g.2.2 ≤ (1000 : Nat)) ∧ put.L2.mu (left, g, ((), (), ()), p, (), len, IntKind.i64.wrap (i + (1 : Int))) < put.L2.mu (left, g, u, p, z, len, i) ∧ (hasS left p.2 (List.drop (IntKind.i64.wrap (i + (1 : Int))).toNat g.2.2) = false → hasS left p.2 (List.drop i.toNat g.2.2) = false ∧ (g, ((), (), ()), p) = (g, u, p)) ∧ (hasS left p.2 (List.drop (IntKind.i64.wrap (i + (1 : Int))).toNat g.2.2) = true → hasS left p.2 (List.drop i.toNat g.2.2) = true ∧ (((), (), ()), g, (), ()) = (((), (), ()), g, (), ())) ∧ True) ∧ (((True ∧ decide (i < len) = true) ∧ (0 : Int) ≤ i ∧ i < (↑(List.length g.2.2) : Int)) ∧ ¬i.toNat < List.length g.2.2 → False) ∧ ((True ∧ decide (i < len) = true) ∧ ¬((0 : Int) ≤ i ∧ i < (↑(List.length g.2.2) : Int)) → False) ∧ (True ∧ decide (i < len) = false → hasS left p.2 (List.drop i.toNat g.2.2) = false ∧ (g, ((), (), ()), p) = (g, u, p)) ∧ (True)
theorem put.L2.eq  (left : Int) (g : List ByteArray × List ByteArray × List (Int × List Int)) (u : Unit × Unit × Unit) (p : Int × List Int) (z : Unit) (len : Int) (i : Int) : put.L2.g  left g u p z len i = put.L2.T  left g u p z len i := by kernel_rfl
theorem put.L2.ok  (left : Int) (g : List ByteArray × List ByteArray × List (Int × List Int)) (u : Unit × Unit × Unit) (p : Int × List Int) (z : Unit) (len : Int) (i : Int) (hx : len = g.2.2.length ∧ 0 ≤ i ∧ i ≤ g.2.2.length ∧ g.2.2.length ≤ 1000) : put.L2.T  left g u p z len i := by
  obtain ⟨rfl, h0, h1, h2⟩ := hx
  rw [put.L2.T]
  have hD := fun h => drop_int (0, []) h0 (l := g.2.2) h
  ((repeat' (first | exact trivial | apply And.intro)) <;> (intro hw; (try (simp only [true_and, and_true, decide_eq_true_eq, decide_eq_false_iff_not, beq_iff_eq, bne_iff_ne, beq_eq_false_iff_ne, bne_eq_false_iff_eq, ne_eq, Bool.not_eq_true, Bool.not_eq_false, not_true_eq_false, not_false_eq_true, Bool.not_eq_eq_eq_not, Bool.not_true, Bool.not_false, forall_const, imp_self, Bool.true_eq_false, Bool.false_eq_true, reduceCtorEq] at hw)); (try first | (exfalso; omega) | exact ⟨trivial, rfl⟩ | exact (hw hx).elim | exact (hw.2 hx).elim)))
  · rw [hD (by omega), hasS, decide_eq_true hw.1.2, hw.2]
    exact ⟨rfl, rfl⟩
  · rw [wrapI64 (x := i + 1) (by omega) (by omega), hD (by omega), hasS, hw.2, Bool.and_false, Bool.false_or]
    exact ⟨⟨rfl, by omega, by omega, h2⟩, by simp only [put.L2.mu]; omega, fun h => ⟨h, rfl⟩, fun h => ⟨h, rfl⟩, trivial⟩
  · rw [wrapI64 (x := i + 1) (by omega) (by omega), hD (by omega), hasS, decide_eq_false hw.2, Bool.false_and, Bool.false_or]
    exact ⟨⟨rfl, by omega, by omega, h2⟩, by simp only [put.L2.mu]; omega, fun h => ⟨h, rfl⟩, fun h => ⟨h, rfl⟩, trivial⟩
  · rw [drop_int_end hw, hasS]
    exact ⟨rfl, rfl⟩
theorem put.L2.lp   : LpAt Try.prog 51 2 put.L2 := lp_evalH (l := []) (lf := 1000) (fun _ => cfOf_ok (fns_cons sameRow.fn (fns_nil _))) (lps_nil _ _) (by kernel_rfl) _ (put.L2.mu ) (fun ⟨left, g, u, p, z, len, i⟩ hx => Hid.of (put.L2.eq  left g u p z len i) (put.L2.ok  left g u p z len i hx))
def putS (g : Gr) (left : Int) (row : List Int) : Gr := if hasS left ((row.take 3).map (symS g.1.length g.2.1.length)) g.2.2 = true then g else (g.1, g.2.1, g.2.2 ++ [(left, (row.take 3).map (symS g.1.length g.2.1.length))])
noncomputable def put  : Face := ⟨51, [.st [.v (.sl .str), .v (.sl .str), .row PR 57], .v (.int .i64), .v (.sl (.int .i64))], fun (g, left, row) => some (1 ≤ g.1.length ∧ g.1.length ≤ 99 ∧ g.2.1.length ≤ 99 ∧ g.2.2.length ≤ 99),
  [⟨false, [.st [.v (.sl .str), .v (.sl .str), .row PR 57]], fun (g, left, row) => putS g left row, fun (g, left, row) => none⟩]⟩
noncomputable def put.g  (g : List ByteArray × List ByteArray × List (Int × List Int)) (left : Int) (row : List Int) : Prop := GoodFA Try.prog (cfOf []) [(0, put.L0), (2, put.L2)] 1000 put (g, left, row)
noncomputable def put.q0 (g : List ByteArray × List ByteArray × List (Int × List Int)) : Prop := ((True ∧ List.length g.1 ≤ (9223372036854775807 : Nat)) ∧ (0 : Int) ≤ (0 : Int) ∧ (0 : Int) ≤ (3 : Int) ∧ (↑(List.length g.1) : Int) = (↑(List.length g.1) : Int) ∧ (1 : Int) ≤ (↑(List.length g.1) : Int) ∧ List.length g.1 ≤ (99 : Nat) ∧ List.length g.2.1 ≤ (99 : Nat) ∧ (0 : Nat) ≤ Int.toNat (0 : Int)) ∧ List.length g.2.2 ≤ (9223372036854775807 : Nat)
noncomputable def put.q2 (g : List ByteArray × List ByteArray × List (Int × List Int)) : Prop := (put.q0 g) ∧ (↑(List.length g.2.2) : Int) = (↑(List.length g.2.2) : Int) ∧ (0 : Int) ≤ (0 : Int) ∧ (0 : Int) ≤ (↑(List.length g.2.2) : Int) ∧ List.length g.2.2 ≤ (1000 : Nat)
noncomputable def put.q1 (g : List ByteArray × List ByteArray × List (Int × List Int)) (left : Int) (row : List Int) : Prop := (put.q2 g) ∧ hasS left ([] ++ List.map (symS (↑(List.length g.1) : Int) (↑(List.length g.2.1) : Int)) (List.drop (Int.toNat (0 : Int)) (List.take (3 : Nat) row))) (List.drop (Int.toNat (0 : Int)) g.2.2) = false
noncomputable def put.T (g : List ByteArray × List ByteArray × List (Int × List Int)) (left : Int) (row : List Int) : Prop := ((True ∧ List.length g.1 ≤ (9223372036854775807 : Nat)) ∧ ¬((0 : Int) ≤ (0 : Int) ∧ (0 : Int) ≤ (3 : Int) ∧ (↑(List.length g.1) : Int) = (↑(List.length g.1) : Int) ∧ (1 : Int) ≤ (↑(List.length g.1) : Int) ∧ List.length g.1 ≤ (99 : Nat) ∧ List.length g.2.1 ≤ (99 : Nat) ∧ (0 : Nat) ≤ Int.toNat (0 : Int)) → False) ∧ ((put.q0 g) ∧ ¬((↑(List.length g.2.2) : Int) = (↑(List.length g.2.2) : Int) ∧ (0 : Int) ≤ (0 : Int) ∧ (0 : Int) ≤ (↑(List.length g.2.2) : Int) ∧ List.length g.2.2 ≤ (1000 : Nat)) → False) ∧ ((put.q1 g left row) ∧ (List.length g.2.2 + (1 : Nat)) * (32 : Nat) ≤ (140737488355328 : Nat) → True ∧ (g.1, g.2.1, g.2.2 ++ [(left, [] ++ List.map (symS (↑(List.length g.1) : Int) (↑(List.length g.2.1) : Int)) (List.drop (Int.toNat (0 : Int)) (List.take (3 : Nat) row)))]) = putS g left row) ∧ ((put.q1 g left row) ∧ ¬(List.length g.2.2 + (1 : Nat)) * (32 : Nat) ≤ (140737488355328 : Nat) → False) ∧ ((put.q2 g) ∧ hasS left ([] ++ List.map (symS (↑(List.length g.1) : Int) (↑(List.length g.2.1) : Int)) (List.drop (Int.toNat (0 : Int)) (List.take (3 : Nat) row))) (List.drop (Int.toNat (0 : Int)) g.2.2) = true → True ∧ g = putS g left row) ∧ (True)
theorem put.eq  (g : List ByteArray × List ByteArray × List (Int × List Int)) (left : Int) (row : List Int) : put.g  g left row = put.T  g left row := by kernel_rfl
theorem put.ok  (g : List ByteArray × List ByteArray × List (Int × List Int)) (left : Int) (row : List Int) (hx : 1 ≤ g.1.length ∧ g.1.length ≤ 99 ∧ g.2.1.length ≤ 99 ∧ g.2.2.length ≤ 99) : put.T  g left row := by
  delta put.T put.q0 put.q2 put.q1
  rw [putS]
  ((repeat' (first | exact trivial | apply And.intro)) <;> (intro hw; (try (simp only [true_and, and_true, decide_eq_true_eq, decide_eq_false_iff_not, beq_iff_eq, bne_iff_ne, beq_eq_false_iff_ne, bne_eq_false_iff_eq, ne_eq, Bool.not_eq_true, Bool.not_eq_false, not_true_eq_false, not_false_eq_true, Bool.not_eq_eq_eq_not, Bool.not_true, Bool.not_false, forall_const, imp_self, Bool.true_eq_false, Bool.false_eq_true, reduceCtorEq] at hw)); (try first | (exfalso; omega) | exact ⟨trivial, rfl⟩ | exact (hw hx).elim | exact (hw.2 hx).elim)))
  · simp only [List.nil_append, show Int.toNat 0 = 0 from rfl, List.drop_zero] at hw ⊢
    rw [hw.1.2, if_neg Bool.false_ne_true]
    exact ⟨trivial, rfl⟩
  · simp only [List.nil_append, show Int.toNat 0 = 0 from rfl, List.drop_zero] at hw ⊢
    rw [hw.2, if_pos rfl]
    exact ⟨trivial, rfl⟩
theorem put.fn   : FnOk Try.prog put := fn_evalH (l := [(0, put.L0), (2, put.L2)]) (lf := 1000) (fun _ => cfOf_ok (fns_nil _)) _ (lps_cons (put.L0.lp) (lps_cons (put.L2.lp) (lps_nil _ _))) (by kernel_rfl) (fun ⟨g, left, row⟩ hx => Hid.of (put.eq  g left row) (put.ok  g left row hx))
abbrev RAW : Ty := .pr (.int .i64) (.pr (.int .i64) (.pr (.int .i64) (.pr (.int .i64) (.pr (.sl (.sl (.int .i64))) .str))))
def puts1 : Nat → Int → Gr → Gr
  | 0, _, g => g
  | n + 1, i, g => puts1 n (i + 1) (putS g (100 + i) [i])
def leftS (i : Int) (r : List Int) : Int := if 0 < r.length then IntKind.i64.wrap (Int.tdiv (r.getD 0 0) 16) else i
def puts2 (n : Int) : Int → Gr → List (List Int) → Gr
  | _, g, [] => g
  | i, g, r :: l => puts2 n (i + 1) (putS g (100 + leftS i r % n) r) l
theorem putS_len (g : Gr) (l : Int) (r : List Int) : (putS g l r).1 = g.1 ∧ (putS g l r).2.1 = g.2.1 ∧ (putS g l r).2.2.length ≤ g.2.2.length + 1 := by
  unfold putS
  split
  · exact ⟨rfl, rfl, Nat.le_succ _⟩
  · exact ⟨rfl, rfl, by simp⟩
noncomputable def any.L0  : LFace := ⟨[1, 2, 3, 5, 6, 7], [.p RAW, .box 29 [.un, .un, .un], .clo 17 [], .v (.int .i64), .box 29 [.v (.sl .str), .v (.sl .str), .row PR 57], .v (.int .i64)], fun (r, u, z, n, g, i) => some (0 ≤ i ∧ i ≤ n ∧ n ≤ 9 ∧ 1 ≤ g.1.length ∧ g.1.length ≤ 99 ∧ g.2.1.length ≤ 99 ∧ g.2.2.length ≤ i.toNat),
  [⟨.normal, [1, 2, 3, 5, 6], [.p RAW, .box 29 [.un, .un, .un], .clo 17 [], .v (.int .i64), .box 29 [.v (.sl .str), .v (.sl .str), .row PR 57]], fun (r, u, z, n, g, i) => (r, u, z, n, puts1 (n - i).toNat i g), fun (r, u, z, n, g, i) => none⟩]⟩
noncomputable def any.L0.mu  : dens any.L0.sh → Nat := fun (r, u, z, n, g, i) => (n - i).toNat
noncomputable def any.L0.g  (r : Int × Int × Int × Int × List (List Int) × ByteArray) (u : Unit × Unit × Unit) (z : Unit) (n : Int) (g : List ByteArray × List ByteArray × List (Int × List Int)) (i : Int) : Prop := GoodLA Try.prog (cfOf [put]) [] 1000 27 0 any.L0 any.L0.mu (r, u, z, n, g, i)
noncomputable def any.L0.T (r : Int × Int × Int × Int × List (List Int) × ByteArray) (u : Unit × Unit × Unit) (z : Unit) (n : Int) (g : List ByteArray × List ByteArray × List (Int × List Int)) (i : Int) : Prop := ((True ∧ decide (i < n) = true) ∧ ¬((1 : Nat) ≤ List.length g.1 ∧ List.length g.1 ≤ (99 : Nat) ∧ List.length g.2.1 ≤ (99 : Nat) ∧ List.length g.2.2 ≤ (99 : Nat)) → False) ∧ ((True ∧ decide (i < n) = true) ∧ (1 : Nat) ≤ List.length g.1 ∧ List.length g.1 ≤ (99 : Nat) ∧ List.length g.2.1 ≤ (99 : Nat) ∧ List.length g.2.2 ≤ (99 : Nat) →
  ((0 : Int) ≤ IntKind.i64.wrap (i + (1 : Int)) ∧ IntKind.i64.wrap (i + (1 : Int)) ≤ n ∧ n ≤ (9 : Int) ∧ (1 : Nat) ≤ List.length (putS g (IntKind.i64.wrap ((100 : Int) + i)) [i]).1 ∧ List.length (putS g (IntKind.i64.wrap ((100 : Int) + i)) [i]).1 ≤ (99 : Nat) ∧ List.length (putS g (IntKind.i64.wrap ((100 : Int) + i)) [i]).2.1 ≤ (99 : Nat) ∧ List.length (putS g (IntKind.i64.wrap ((100 : Int) + i)) [i]).2.2 ≤ (IntKind.i64.wrap (i + (1 : Int))).toNat) ∧ any.L0.mu (r, ((), (), ()), (), n, putS g (IntKind.i64.wrap ((100 : Int) + i)) [i], IntKind.i64.wrap (i + (1 : Int))) < any.L0.mu (r, u, z, n, g, i) ∧ (True → True ∧ (r, ((), (), ()), (), n, puts1 (n - IntKind.i64.wrap (i + (1 : Int))).toNat (IntKind.i64.wrap (i + (1 : Int))) (putS g (IntKind.i64.wrap ((100 : Int) + i)) [i])) = (r, u, (), n, puts1 (n - i).toNat i g)) ∧ True) ∧ (True ∧ decide (i < n) = false → True ∧ (r, ((), (), ()), (), n, g) = (r, u, (), n, puts1 (n - i).toNat i g)) ∧ (True)
theorem any.L0.eq  (r : Int × Int × Int × Int × List (List Int) × ByteArray) (u : Unit × Unit × Unit) (z : Unit) (n : Int) (g : List ByteArray × List ByteArray × List (Int × List Int)) (i : Int) : any.L0.g  r u z n g i = any.L0.T  r u z n g i := by kernel_rfl
theorem any.L0.ok  (r : Int × Int × Int × Int × List (List Int) × ByteArray) (u : Unit × Unit × Unit) (z : Unit) (n : Int) (g : List ByteArray × List ByteArray × List (Int × List Int)) (i : Int) (hx : 0 ≤ i ∧ i ≤ n ∧ n ≤ 9 ∧ 1 ≤ g.1.length ∧ g.1.length ≤ 99 ∧ g.2.1.length ≤ 99 ∧ g.2.2.length ≤ i.toNat) : any.L0.T  r u z n g i := by
  obtain ⟨h0, h1, h2, h3, h4, h5, h6⟩ := hx
  rw [any.L0.T, wrapI64 (x := i + 1) (by omega) (by omega), wrapI64 (x := 100 + i) (by omega) (by omega)]
  obtain ⟨p1, p2, p3⟩ := putS_len g (100 + i) [i]
  ((repeat' (first | exact trivial | apply And.intro)) <;> (intro hw; (try (simp only [true_and, and_true, decide_eq_true_eq, decide_eq_false_iff_not, beq_iff_eq, bne_iff_ne, beq_eq_false_iff_ne, bne_eq_false_iff_eq, ne_eq, Bool.not_eq_true, Bool.not_eq_false, not_true_eq_false, not_false_eq_true, Bool.not_eq_eq_eq_not, Bool.not_true, Bool.not_false, forall_const, imp_self, Bool.true_eq_false, Bool.false_eq_true, reduceCtorEq] at hw)); (try first | (exfalso; omega) | exact ⟨trivial, rfl⟩ | exact (hw hx).elim | exact (hw.2 hx).elim)))
  · refine ⟨⟨by omega, by omega, h2, by rw [p1]; exact h3, by rw [p1]; exact h4, by rw [p2]; exact h5, by omega⟩, by simp only [any.L0.mu]; omega, fun _ => ⟨trivial, ?_⟩, trivial⟩
    rw [show (n - i).toNat = (n - (i + 1)).toNat + 1 by omega]
    rfl
  · rw [show (n - i).toNat = 0 by omega]
    exact ⟨trivial, rfl⟩
theorem any.L0.lp   : LpAt Try.prog 27 0 any.L0 := lp_evalH (l := []) (lf := 1000) (fun _ => cfOf_ok (fns_cons put.fn (fns_nil _))) (lps_nil _ _) (by kernel_rfl) _ (any.L0.mu ) (fun ⟨r, u, z, n, g, i⟩ hx => Hid.of (any.L0.eq  r u z n g i) (any.L0.ok  r u z n g i hx))
noncomputable def any.L2  : LFace := ⟨[1, 2, 3, 5, 6, 8], [.p RAW, .box 29 [.un, .un, .un], .clo 17 [], .v (.int .i64), .box 29 [.v (.sl .str), .v (.sl .str), .row PR 57], .v (.int .i64)], fun (r, u, z, n, g, i) => some (0 ≤ i ∧ i ≤ 5 ∧ 1 ≤ n ∧ n ≤ 9 ∧ 1 ≤ g.1.length ∧ g.1.length ≤ 99 ∧ g.2.1.length ≤ 99 ∧ g.2.2.length ≤ 20 + i.toNat),
  [⟨.normal, [2, 6], [.box 29 [.un, .un, .un], .box 29 [.v (.sl .str), .v (.sl .str), .row PR 57]], fun (r, u, z, n, g, i) => (u, puts2 n i g ((r.2.2.2.2.1.take 5).drop i.toNat)), fun (r, u, z, n, g, i) => none⟩]⟩
noncomputable def any.L2.mu  : dens any.L2.sh → Nat := fun (r, u, z, n, g, i) => (5 - i).toNat
noncomputable def any.L2.g  (r : Int × Int × Int × Int × List (List Int) × ByteArray) (u : Unit × Unit × Unit) (z : Unit) (n : Int) (g : List ByteArray × List ByteArray × List (Int × List Int)) (i : Int) : Prop := GoodLA Try.prog (cfOf [within, put]) [] 1000 27 2 any.L2 any.L2.mu (r, u, z, n, g, i)
noncomputable def any.L2.q3 (r : Int × Int × Int × Int × List (List Int) × ByteArray) (i : Int) : Prop := (True ∧ List.length r.2.2.2.2.1 ≤ (9223372036854775807 : Nat)) ∧ decide (i < (↑(List.length r.2.2.2.2.1) : Int)) = true
noncomputable def any.L2.q0 (r : Int × Int × Int × Int × List (List Int) × ByteArray) (i : Int) : Prop := (((any.L2.q3 r i) ∧ decide (i < (5 : Int)) = true) ∧ (0 : Int) ≤ i ∧ i < (↑(List.length r.2.2.2.2.1) : Int)) ∧ (List.getD r.2.2.2.2.1 i.toNat []).length ≤ (9223372036854775807 : Nat)
noncomputable def any.L2.q1 (r : Int × Int × Int × Int × List (List Int) × ByteArray) (i : Int) : Prop := (((any.L2.q0 r i) ∧ decide ((↑(List.getD r.2.2.2.2.1 i.toNat []).length : Int) > (0 : Int)) = true) ∧ (0 : Int) ≤ i ∧ i < (↑(List.length r.2.2.2.2.1) : Int)) ∧ (0 : Int) ≤ (0 : Int) ∧ (0 : Int) < (↑(List.getD r.2.2.2.2.1 i.toNat []).length : Int)
noncomputable def any.L2.q2 (r : Int × Int × Int × Int × List (List Int) × ByteArray) (i : Int) : Prop := ((any.L2.q0 r i) ∧ decide ((↑(List.getD r.2.2.2.2.1 i.toNat []).length : Int) > (0 : Int)) = false) ∧ (0 : Int) ≤ i ∧ i < (↑(List.length r.2.2.2.2.1) : Int)
noncomputable def any.L2.T (r : Int × Int × Int × Int × List (List Int) × ByteArray) (u : Unit × Unit × Unit) (z : Unit) (n : Int) (g : List ByteArray × List ByteArray × List (Int × List Int)) (i : Int) : Prop := ((any.L2.q1 r i) ∧ ¬((0 : Int) ≤ i ∧ i < (↑(List.length r.2.2.2.2.1) : Int)) → False) ∧ (((any.L2.q1 r i) ∧ (0 : Int) ≤ i ∧ i < (↑(List.length r.2.2.2.2.1) : Int)) ∧ ¬((0 : Int) < n ∧ n ≤ (9223372036854775807 : Int)) → False) ∧ ((((any.L2.q1 r i) ∧ (0 : Int) ≤ i ∧ i < (↑(List.length r.2.2.2.2.1) : Int)) ∧ (0 : Int) < n ∧ n ≤ (9223372036854775807 : Int)) ∧ ¬((1 : Nat) ≤ List.length g.1 ∧ List.length g.1 ≤ (99 : Nat) ∧ List.length g.2.1 ≤ (99 : Nat) ∧ List.length g.2.2 ≤ (99 : Nat)) → False) ∧ ((((any.L2.q1 r i) ∧ (0 : Int) ≤ i ∧ i < (↑(List.length r.2.2.2.2.1) : Int)) ∧ (0 : Int) < n ∧ n ≤ (9223372036854775807 : Int)) ∧ (1 : Nat) ≤ List.length g.1 ∧ List.length g.1 ≤ (99 : Nat) ∧ List.length g.2.1 ≤ (99 : Nat) ∧ List.length g.2.2 ≤ (99 : Nat) → ((0 : Int) ≤ IntKind.i64.wrap (i + (1 : Int)) ∧ IntKind.i64.wrap (i + (1 : Int)) ≤ (5 : Int) ∧ (1 : Int) ≤ n ∧ n ≤ (9 : Int) ∧ (1 : Nat) ≤ List.length (putS g (IntKind.i64.wrap ((100 : Int) + IntKind.i64.wrap (((List.getD r.2.2.2.2.1 i.toNat []).getD (Int.toNat (0 : Int)) (0 : Int)).tdiv (16 : Int)) % n)) (List.getD r.2.2.2.2.1 i.toNat [])).1 ∧ List.length (putS g (IntKind.i64.wrap ((100 : Int) + IntKind.i64.wrap (((List.getD r.2.2.2.2.1 i.toNat []).getD (Int.toNat (0 : Int)) (0 : Int)).tdiv (16 : Int)) % n)) (List.getD r.2.2.2.2.1 i.toNat [])).1 ≤ (99 : Nat) ∧ List.length (putS g (IntKind.i64.wrap ((100 : Int) + IntKind.i64.wrap (((List.getD r.2.2.2.2.1 i.toNat []).getD (Int.toNat (0 : Int)) (0 : Int)).tdiv (16 : Int)) % n)) (List.getD r.2.2.2.2.1 i.toNat [])).2.1 ≤ (99 : Nat) ∧ List.length (putS g (IntKind.i64.wrap ((100 : Int) + IntKind.i64.wrap (((List.getD r.2.2.2.2.1 i.toNat []).getD (Int.toNat (0 : Int)) (0 : Int)).tdiv (16 : Int)) % n)) (List.getD r.2.2.2.2.1 i.toNat [])).2.2 ≤ (20 : Nat) + (IntKind.i64.wrap (i + (1 : Int))).toNat) ∧ any.L2.mu (r, ((), (), ()), (), n, putS g (IntKind.i64.wrap ((100 : Int) + IntKind.i64.wrap (((List.getD r.2.2.2.2.1 i.toNat []).getD (Int.toNat (0 : Int)) (0 : Int)).tdiv (16 : Int)) % n)) (List.getD r.2.2.2.2.1 i.toNat []), IntKind.i64.wrap (i + (1 : Int))) < any.L2.mu (r, u, z, n, g, i) ∧ (True → True ∧ (((), (), ()), puts2 n (IntKind.i64.wrap (i + (1 : Int))) (putS g (IntKind.i64.wrap ((100 : Int) + IntKind.i64.wrap (((List.getD r.2.2.2.2.1 i.toNat []).getD (Int.toNat (0 : Int)) (0 : Int)).tdiv (16 : Int)) % n)) (List.getD r.2.2.2.2.1 i.toNat [])) (List.drop (IntKind.i64.wrap (i + (1 : Int))).toNat (List.take (5 : Nat) r.2.2.2.2.1))) = (u, puts2 n i g (List.drop i.toNat (List.take (5 : Nat) r.2.2.2.2.1)))) ∧ True) ∧ ((((any.L2.q0 r i) ∧ decide ((↑(List.getD r.2.2.2.2.1 i.toNat []).length : Int) > (0 : Int)) = true) ∧ (0 : Int) ≤ i ∧ i < (↑(List.length r.2.2.2.2.1) : Int)) ∧ ¬((0 : Int) ≤ (0 : Int) ∧ (0 : Int) < (↑(List.getD r.2.2.2.2.1 i.toNat []).length : Int)) → False) ∧ (((any.L2.q0 r i) ∧ decide ((↑(List.getD r.2.2.2.2.1 i.toNat []).length : Int) > (0 : Int)) = true) ∧ ¬((0 : Int) ≤ i ∧ i < (↑(List.length r.2.2.2.2.1) : Int)) → False) ∧ (((any.L2.q0 r i) ∧ decide ((↑(List.getD r.2.2.2.2.1 i.toNat []).length : Int) > (0 : Int)) = false) ∧ ¬((0 : Int) ≤ i ∧ i < (↑(List.length r.2.2.2.2.1) : Int)) → False) ∧ ((any.L2.q2 r i) ∧ ¬((0 : Int) < n ∧ n ≤ (9223372036854775807 : Int)) → False) ∧ (((any.L2.q2 r i) ∧ (0 : Int) < n ∧ n ≤ (9223372036854775807 : Int)) ∧ ¬((1 : Nat) ≤ List.length g.1 ∧ List.length g.1 ≤ (99 : Nat) ∧ List.length g.2.1 ≤ (99 : Nat) ∧ List.length g.2.2 ≤ (99 : Nat)) → False) ∧ (((any.L2.q2 r i) ∧ (0 : Int) < n ∧ n ≤ (9223372036854775807 : Int)) ∧ (1 : Nat) ≤ List.length g.1 ∧ List.length g.1 ≤ (99 : Nat) ∧ List.length g.2.1 ≤ (99 : Nat) ∧ List.length g.2.2 ≤ (99 : Nat) → ((0 : Int) ≤ IntKind.i64.wrap (i + (1 : Int)) ∧ IntKind.i64.wrap (i + (1 : Int)) ≤ (5 : Int) ∧ (1 : Int) ≤ n ∧ n ≤ (9 : Int) ∧ (1 : Nat) ≤ List.length (putS g (IntKind.i64.wrap ((100 : Int) + i % n)) (List.getD r.2.2.2.2.1 i.toNat [])).1 ∧ List.length (putS g (IntKind.i64.wrap ((100 : Int) + i % n)) (List.getD r.2.2.2.2.1 i.toNat [])).1 ≤ (99 : Nat) ∧ List.length (putS g (IntKind.i64.wrap ((100 : Int) + i % n)) (List.getD r.2.2.2.2.1 i.toNat [])).2.1 ≤ (99 : Nat) ∧ List.length (putS g (IntKind.i64.wrap ((100 : Int) + i % n)) (List.getD r.2.2.2.2.1 i.toNat [])).2.2 ≤ (20 : Nat) + (IntKind.i64.wrap (i + (1 : Int))).toNat) ∧ any.L2.mu (r, ((), (), ()), (), n, putS g (IntKind.i64.wrap ((100 : Int) + i % n)) (List.getD r.2.2.2.2.1 i.toNat []), IntKind.i64.wrap (i + (1 : Int))) < any.L2.mu (r, u, z, n, g, i) ∧ (True → True ∧ (((), (), ()), puts2 n (IntKind.i64.wrap (i + (1 : Int))) (putS g (IntKind.i64.wrap ((100 : Int) + i % n)) (List.getD r.2.2.2.2.1 i.toNat [])) (List.drop (IntKind.i64.wrap (i + (1 : Int))).toNat (List.take (5 : Nat) r.2.2.2.2.1))) = (u, puts2 n i g (List.drop i.toNat (List.take (5 : Nat) r.2.2.2.2.1)))) ∧ True) ∧ (((any.L2.q3 r i) ∧ decide (i < (5 : Int)) = true) ∧ ¬((0 : Int) ≤ i ∧ i < (↑(List.length r.2.2.2.2.1) : Int)) → False) ∧ ((any.L2.q3 r i) ∧ decide (i < (5 : Int)) = false → True ∧ (((), (), ()), g) = (u, puts2 n i g (List.drop i.toNat (List.take (5 : Nat) r.2.2.2.2.1)))) ∧ ((True ∧ List.length r.2.2.2.2.1 ≤ (9223372036854775807 : Nat)) ∧ decide (i < (↑(List.length r.2.2.2.2.1) : Int)) = false → True ∧ (((), (), ()), g) = (u, puts2 n i g (List.drop i.toNat (List.take (5 : Nat) r.2.2.2.2.1)))) ∧ (True)
theorem any.L2.eq  (r : Int × Int × Int × Int × List (List Int) × ByteArray) (u : Unit × Unit × Unit) (z : Unit) (n : Int) (g : List ByteArray × List ByteArray × List (Int × List Int)) (i : Int) : any.L2.g  r u z n g i = any.L2.T  r u z n g i := by kernel_rfl
theorem any.L2.ok  (r : Int × Int × Int × Int × List (List Int) × ByteArray) (u : Unit × Unit × Unit) (z : Unit) (n : Int) (g : List ByteArray × List ByteArray × List (Int × List Int)) (i : Int) (hx : 0 ≤ i ∧ i ≤ 5 ∧ 1 ≤ n ∧ n ≤ 9 ∧ 1 ≤ g.1.length ∧ g.1.length ≤ 99 ∧ g.2.1.length ≤ 99 ∧ g.2.2.length ≤ 20 + i.toNat) : any.L2.T  r u z n g i := by
  obtain ⟨h0, h1, hn, h2, h3, h4, h5, h6⟩ := hx
  delta any.L2.T any.L2.q3 any.L2.q0 any.L2.q1 any.L2.q2
  rw [wrapI64 (x := i + 1) (by omega) (by omega)]
  have hD : i < 5 → i < (r.2.2.2.2.1.length : Int) → (r.2.2.2.2.1.take 5).drop i.toNat = r.2.2.2.2.1.getD i.toNat [] :: (r.2.2.2.2.1.take 5).drop (i + 1).toNat := fun ha hb => by
    rw [drop_int [] h0 (by simp; omega), take_getD (by omega)]
  have hL : ∀ v : Int, IntKind.i64.wrap (100 + v % n) = 100 + v % n := fun v => by
    have := Int.emod_nonneg v (show n ≠ 0 by omega)
    have := Int.emod_lt_of_pos v (show 0 < n by omega)
    exact wrapI64 (by omega) (by omega)
  simp only [hL]
  have hP := fun l => putS_len g (100 + l % n) (r.2.2.2.2.1.getD i.toNat [])
  ((repeat' (first | exact trivial | apply And.intro)) <;> (intro hw; (try (simp only [true_and, and_true, decide_eq_true_eq, decide_eq_false_iff_not, beq_iff_eq, bne_iff_ne, beq_eq_false_iff_ne, bne_eq_false_iff_eq, ne_eq, Bool.not_eq_true, Bool.not_eq_false, not_true_eq_false, not_false_eq_true, Bool.not_eq_eq_eq_not, Bool.not_true, Bool.not_false, forall_const, imp_self, Bool.true_eq_false, Bool.false_eq_true, reduceCtorEq] at hw)); (try first | (exfalso; omega) | exact ⟨trivial, rfl⟩ | exact (hw hx).elim | exact (hw.2 hx).elim)))
  · obtain ⟨p1, p2, p3⟩ := hP (IntKind.i64.wrap (((r.2.2.2.2.1.getD i.toNat []).getD (Int.toNat 0) 0).tdiv 16))
    rw [hD (by omega) (by omega), puts2, leftS, if_pos (by omega)]
    refine ⟨⟨by omega, by omega, hn, h2, by rw [p1]; exact h3, by rw [p1]; exact h4, by rw [p2]; exact h5, by omega⟩, by simp only [any.L2.mu]; omega, fun _ => ⟨trivial, rfl⟩, trivial⟩
  · obtain ⟨p1, p2, p3⟩ := hP i
    rw [hD (by omega) (by omega), puts2, leftS, if_neg (by omega)]
    refine ⟨⟨by omega, by omega, hn, h2, by rw [p1]; exact h3, by rw [p1]; exact h4, by rw [p2]; exact h5, by omega⟩, by simp only [any.L2.mu]; omega, fun _ => ⟨trivial, rfl⟩, trivial⟩
  all_goals
    rw [List.drop_eq_nil_of_le (by simp; omega), puts2]
    exact ⟨trivial, rfl⟩
theorem any.L2.lp   : LpAt Try.prog 27 2 any.L2 := lp_evalH (l := []) (lf := 1000) (fun _ => cfOf_ok (fns_cons within.fn (fns_cons put.fn (fns_nil _)))) (lps_nil _ _) (by kernel_rfl) _ (any.L2.mu ) (fun ⟨r, u, z, n, g, i⟩ hx => Hid.of (any.L2.eq  r u z n g i) (any.L2.ok  r u z n g i hx))
def bA : ByteArray := ⟨#[97]⟩
def bB : ByteArray := ⟨#[98]⟩
def bC : ByteArray := ⟨#[99]⟩
def bS : ByteArray := ⟨#[83]⟩
def bUA : ByteArray := ⟨#[65]⟩
def bUB : ByteArray := ⟨#[66]⟩
abbrev Raw : Type := Int × Int × Int × Int × List (List Int) × ByteArray
def anyS (r : Raw) : Gr := puts2 (1 + r.2.2.1 % 3) 0 (puts1 (1 + r.2.2.1 % 3).toNat 0 ([bA, bB, bC].take (1 + r.2.1 % 3).toNat, [bS, bUA, bUB].take (1 + r.2.2.1 % 3).toNat, [])) (r.2.2.2.2.1.take 5)
noncomputable def any.R3  : LFace := ⟨[1, 2, 3, 4, 5], [.p RAW, .box 29 [.un, .un, .un], .clo 17 [], .v (.int .i64), .v (.int .i64)], fun (r, u, z, t, n) => some (0 ≤ t ∧ t ≤ 3 ∧ 0 ≤ n ∧ n ≤ 3),
  [⟨.normal, [1, 2, 3, 5, 6], [.p RAW, .box 29 [.un, .un, .un], .clo 17 [], .v (.int .i64), .box 29 [.v (.sl .str), .v (.sl .str), .row PR 57]], fun (r, u, z, t, n) => (r, u, z, n, [bA, bB, bC].take t.toNat, [bS, bUA, bUB].take n.toNat, []), fun (r, u, z, t, n) => none⟩]⟩
noncomputable def any.R3.g  (r : Int × Int × Int × Int × List (List Int) × ByteArray) (u : Unit × Unit × Unit) (z : Unit) (t : Int) (n : Int) : Prop := GoodPA Try.prog (cfOf []) [] 1000 27 1000003 any.R3 (r, u, z, t, n)
noncomputable def any.R3.q0 (r : Int × Int × Int × Int × List (List Int) × ByteArray) (u : Unit × Unit × Unit) (t : Int) (n : Int) : Prop := (True ∧ (0 : Int) ≤ (0 : Int) ∧ (0 : Int) ≤ t ∧ t ≤ (↑(3 : Nat) : Int)) ∧ (0 : Int) ≤ (0 : Int) ∧ (0 : Int) ≤ n ∧ n ≤ (↑(3 : Nat) : Int) → True ∧ (r, ((), (), ()), (), n, List.drop (Int.toNat (0 : Int)) (List.take t.toNat [ByteArray.mk #[(97 : UInt8)], ByteArray.mk #[(98 : UInt8)], ByteArray.mk #[(99 : UInt8)]]), List.drop (Int.toNat (0 : Int)) (List.take n.toNat [ByteArray.mk #[(83 : UInt8)], ByteArray.mk #[(65 : UInt8)], ByteArray.mk #[(66 : UInt8)]]), ([] : List (Int × List Int))) = (r, u, (), n, List.take t.toNat [bA, bB, bC], List.take n.toNat [bS, bUA, bUB], ([] : List (Int × List Int)))
noncomputable def any.R3.q1 (r : Int × Int × Int × Int × List (List Int) × ByteArray) (u : Unit × Unit × Unit) (t : Int) (n : Int) : Prop := (True ∧ (0 : Int) ≤ (0 : Int) ∧ (0 : Int) ≤ n ∧ n ≤ (↑(3 : Nat) : Int)) ∧ (0 : Int) ≤ (0 : Int) ∧ (0 : Int) ≤ t ∧ t ≤ (↑(3 : Nat) : Int) → True ∧ (r, ((), (), ()), (), n, List.drop (Int.toNat (0 : Int)) (List.take t.toNat [ByteArray.mk #[(97 : UInt8)], ByteArray.mk #[(98 : UInt8)], ByteArray.mk #[(99 : UInt8)]]), List.drop (Int.toNat (0 : Int)) (List.take n.toNat [ByteArray.mk #[(83 : UInt8)], ByteArray.mk #[(65 : UInt8)], ByteArray.mk #[(66 : UInt8)]]), ([] : List (Int × List Int))) = (r, u, (), n, List.take t.toNat [bA, bB, bC], List.take n.toNat [bS, bUA, bUB], ([] : List (Int × List Int)))
noncomputable def any.R3.q2 (t : Int) (n : Int) : Prop := (True ∧ (0 : Int) ≤ (0 : Int) ∧ (0 : Int) ≤ t ∧ t ≤ (↑(3 : Nat) : Int)) ∧ ¬((0 : Int) ≤ (0 : Int) ∧ (0 : Int) ≤ n ∧ n ≤ (↑(3 : Nat) : Int)) → False
noncomputable def any.R3.q3 (t : Int) (n : Int) : Prop := (True ∧ (0 : Int) ≤ (0 : Int) ∧ (0 : Int) ≤ n ∧ n ≤ (↑(3 : Nat) : Int)) ∧ ¬((0 : Int) ≤ (0 : Int) ∧ (0 : Int) ≤ t ∧ t ≤ (↑(3 : Nat) : Int)) → False
noncomputable def any.R3.q4 (t : Int) : Prop := True ∧ ¬((0 : Int) ≤ (0 : Int) ∧ (0 : Int) ≤ t ∧ t ≤ (↑(3 : Nat) : Int)) → False
noncomputable def any.R3.q5 (n : Int) : Prop := True ∧ ¬((0 : Int) ≤ (0 : Int) ∧ (0 : Int) ≤ n ∧ n ≤ (↑(3 : Nat) : Int)) → False
noncomputable def any.R3.T (r : Int × Int × Int × Int × List (List Int) × ByteArray) (u : Unit × Unit × Unit) (z : Unit) (t : Int) (n : Int) : Prop := (any.R3.q0 r u t n) ∧ (any.R3.q2 t n) ∧ (any.R3.q0 r u t n) ∧ (any.R3.q2 t n) ∧ (any.R3.q0 r u t n) ∧ (any.R3.q2 t n) ∧ (any.R3.q4 t) ∧ (any.R3.q0 r u t n) ∧ (any.R3.q2 t n) ∧ (any.R3.q0 r u t n) ∧ (any.R3.q2 t n) ∧ (any.R3.q4 t) ∧ (any.R3.q1 r u t n) ∧ (any.R3.q3 t n) ∧ (any.R3.q1 r u t n) ∧ (any.R3.q3 t n) ∧ (any.R3.q5 n) ∧ (any.R3.q0 r u t n) ∧ (any.R3.q2 t n) ∧ (any.R3.q4 t) ∧ (any.R3.q1 r u t n) ∧ (any.R3.q3 t n) ∧ (any.R3.q5 n) ∧ (any.R3.q0 r u t n) ∧ (any.R3.q2 t n) ∧ (any.R3.q4 t) ∧ (any.R3.q0 r u t n) ∧ (any.R3.q2 t n) ∧ (any.R3.q4 t) ∧ (any.R3.q1 r u t n) ∧ (any.R3.q3 t n) ∧ (any.R3.q5 n) ∧ (any.R3.q0 r u t n) ∧ (any.R3.q2 t n) ∧ (any.R3.q0 r u t n) ∧ (any.R3.q2 t n) ∧ (any.R3.q4 t) ∧ (any.R3.q1 r u t n) ∧ (any.R3.q3 t n) ∧ (any.R3.q1 r u t n) ∧ (any.R3.q3 t n) ∧ (any.R3.q5 n) ∧ (any.R3.q0 r u t n) ∧ (any.R3.q2 t n) ∧ (any.R3.q4 t) ∧ (any.R3.q1 r u t n) ∧ (any.R3.q3 t n) ∧ (any.R3.q5 n) ∧ (any.R3.q1 r u t n) ∧ (any.R3.q3 t n) ∧ (any.R3.q1 r u t n) ∧ (any.R3.q3 t n) ∧ (any.R3.q1 r u t n) ∧ (any.R3.q3 t n) ∧ (any.R3.q5 n) ∧ (any.R3.q0 r u t n) ∧ (any.R3.q2 t n) ∧ (any.R3.q4 t) ∧ (any.R3.q1 r u t n) ∧ (any.R3.q3 t n) ∧ (any.R3.q5 n) ∧ (any.R3.q1 r u t n) ∧ (any.R3.q3 t n) ∧ (any.R3.q5 n) ∧ (any.R3.q0 r u t n) ∧ (any.R3.q2 t n) ∧ (any.R3.q4 t) ∧ (any.R3.q0 r u t n) ∧ (any.R3.q2 t n) ∧ (any.R3.q4 t) ∧ (any.R3.q1 r u t n) ∧ (any.R3.q3 t n) ∧ (any.R3.q5 n) ∧ (any.R3.q0 r u t n) ∧ (any.R3.q2 t n) ∧ (any.R3.q4 t) ∧ (any.R3.q1 r u t n) ∧ (any.R3.q3 t n) ∧ (any.R3.q5 n) ∧ (any.R3.q1 r u t n) ∧ (any.R3.q3 t n) ∧ (any.R3.q5 n) ∧ (True)
theorem any.R3.eq  (r : Int × Int × Int × Int × List (List Int) × ByteArray) (u : Unit × Unit × Unit) (z : Unit) (t : Int) (n : Int) : any.R3.g  r u z t n = any.R3.T  r u z t n := by kernel_rfl
theorem any.R3.ok  (r : Int × Int × Int × Int × List (List Int) × ByteArray) (u : Unit × Unit × Unit) (z : Unit) (t : Int) (n : Int) (hx : 0 ≤ t ∧ t ≤ 3 ∧ 0 ≤ n ∧ n ≤ 3) : any.R3.T  r u z t n := by
  delta any.R3.T any.R3.q0 any.R3.q1 any.R3.q2 any.R3.q3 any.R3.q4 any.R3.q5
  obtain ⟨h1, h2, h3, h4⟩ := hx
  ((repeat' (first | exact trivial | apply And.intro)) <;> (intro hw; (try (simp only [true_and, and_true, decide_eq_true_eq, decide_eq_false_iff_not, beq_iff_eq, bne_iff_ne, beq_eq_false_iff_ne, bne_eq_false_iff_eq, ne_eq, Bool.not_eq_true, Bool.not_eq_false, not_true_eq_false, not_false_eq_true, Bool.not_eq_eq_eq_not, Bool.not_true, Bool.not_false, forall_const, imp_self, Bool.true_eq_false, Bool.false_eq_true, reduceCtorEq] at hw)); (try first | (exfalso; omega) | exact ⟨trivial, rfl⟩ | exact (hw hx).elim | exact (hw.2 hx).elim)))
theorem any.R3.lp   : LpAt Try.prog 27 1000003 any.R3 := pc_evalH (l := []) (lf := 1000) (fun _ => cfOf_ok (fns_nil _)) (lps_nil _ _) (by kernel_rfl) _ (fun ⟨r, u, z, t, n⟩ hx => Hid.of (any.R3.eq  r u z t n) (any.R3.ok  r u z t n hx))
end Go.Proofs.Ytdmljeaigjfenaa.D
