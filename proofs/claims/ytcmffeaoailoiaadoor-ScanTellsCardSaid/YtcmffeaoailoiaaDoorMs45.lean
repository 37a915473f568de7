/- Texts that the proof of a law rests on, put together: part 45. -/
import Derived.Test.YtcmffeaoailoiaaDoorMs44
import Derived.Test.YtcmffeaoailoiaaDoorProg
namespace Go.Proofs.YtcmffeaoailoiaaDoor.D
open Go Go.EV Go.Proofs
set_option linter.unusedVariables false
set_option linter.unusedSimpArgs false
set_option maxRecDepth 100000
noncomputable def letF  : Face := ⟨21, [.v (.int .u8)], fun c => none,
  [⟨false, [.v .bool], fun c => letC c, fun c => none⟩]⟩
noncomputable def letF.g  (c : Int) : Prop := GoodFA Tryd.prog (cfOf []) [] 1000 letF c
noncomputable def letF.T (c : Int) : Prop := ((True ∧ decide (c ≥ (97 : Int)) = true) ∧ decide (c ≤ (122 : Int)) = true → True ∧ true = letC c) ∧ (((True ∧ decide (c ≥ (97 : Int)) = true) ∧ decide (c ≤ (122 : Int)) = false) ∧ decide (c ≥ (65 : Int)) = true → True ∧ decide (c ≤ (90 : Int)) = letC c) ∧ (((True ∧ decide (c ≥ (97 : Int)) = true) ∧ decide (c ≤ (122 : Int)) = false) ∧ decide (c ≥ (65 : Int)) = false → True ∧ false = letC c) ∧ ((True ∧ decide (c ≥ (97 : Int)) = false) ∧ decide (c ≥ (65 : Int)) = true → True ∧ decide (c ≤ (90 : Int)) = letC c) ∧ ((True ∧ decide (c ≥ (97 : Int)) = false) ∧ decide (c ≥ (65 : Int)) = false → True ∧ false = letC c) ∧ (True)
theorem letF.eq  (c : Int) : letF.g  c = letF.T  c := by kernel_rfl
theorem letF.ok  (c : Int) : letF.T  c := by
  rw [letF.T, letC]
  ((repeat' (first | exact trivial | apply And.intro)) <;> (intro hw; (try (simp only [true_and, and_true, decide_eq_true_eq, decide_eq_false_iff_not, beq_iff_eq, bne_iff_ne, beq_eq_false_iff_ne, bne_eq_false_iff_eq, ne_eq, Bool.not_eq_true, Bool.not_eq_false, not_true_eq_false, not_false_eq_true, Bool.not_eq_eq_eq_not, Bool.not_true, Bool.not_false, forall_const, imp_self, Bool.true_eq_false, Bool.false_eq_true, reduceCtorEq] at hw)); (try first | (exfalso; omega) | exact ⟨trivial, rfl⟩ | exact (hw hx).elim | exact (hw.2 hx).elim)))
  all_goals first
    | (refine ⟨trivial, ?_⟩; rw [Bool.eq_iff_iff]; simp only [Bool.or_eq_true, decide_eq_true_eq, true_iff, false_iff, Bool.false_eq_true]; omega)
    | trace_state
theorem letF.fn   : FnOk Tryd.prog letF := fn_evalH (l := []) (lf := 1000) (fun _ => cfOf_ok (fns_nil _)) _ (lps_nil _ _) (by kernel_rfl) (fun c hx => Hid.of (letF.eq  c) (letF.ok  c))
noncomputable def digF  : Face := ⟨22, [.v (.int .u8)], fun c => none,
  [⟨false, [.v .bool], fun c => digC c, fun c => none⟩]⟩
noncomputable def digF.g  (c : Int) : Prop := GoodFA Tryd.prog (cfOf []) [] 1000 digF c
noncomputable def digF.T (c : Int) : Prop := (True ∧ decide (c ≥ (48 : Int)) = true → True ∧ decide (c ≤ (57 : Int)) = digC c) ∧ (True ∧ decide (c ≥ (48 : Int)) = false → True ∧ false = digC c) ∧ (True)
theorem digF.eq  (c : Int) : digF.g  c = digF.T  c := by kernel_rfl
theorem digF.ok  (c : Int) : digF.T  c := by
  rw [digF.T, digC]
  ((repeat' (first | exact trivial | apply And.intro)) <;> (intro hw; (try (simp only [true_and, and_true, decide_eq_true_eq, decide_eq_false_iff_not, beq_iff_eq, bne_iff_ne, beq_eq_false_iff_ne, bne_eq_false_iff_eq, ne_eq, Bool.not_eq_true, Bool.not_eq_false, not_true_eq_false, not_false_eq_true, Bool.not_eq_eq_eq_not, Bool.not_true, Bool.not_false, forall_const, imp_self, Bool.true_eq_false, Bool.false_eq_true, reduceCtorEq] at hw)); (try first | (exfalso; omega) | exact ⟨trivial, rfl⟩ | exact (hw hx).elim | exact (hw.2 hx).elim)))
  all_goals first
    | (refine ⟨trivial, ?_⟩; rw [Bool.eq_iff_iff]; simp only [Bool.or_eq_true, decide_eq_true_eq, true_iff, false_iff, Bool.false_eq_true]; omega)
    | trace_state
theorem digF.fn   : FnOk Tryd.prog digF := fn_evalH (l := []) (lf := 1000) (fun _ => cfOf_ok (fns_nil _)) _ (lps_nil _ _) (by kernel_rfl) (fun c hx => Hid.of (digF.eq  c) (digF.ok  c))
noncomputable def rnL  : LFace := ⟨[0, 3], [.v .str, .v (.int .i64)], fun (s, i) => some (0 ≤ i ∧ i ≤ s.size ∧ s.size ≤ 4000000),
  [⟨.normal, [], [], fun (s, i) => (), fun (s, i) => some (((bI s).drop i.toNat).all alnC = true)⟩,
   ⟨.ret, [2], [.v .bool], fun (s, i) => false, fun (s, i) => some (((bI s).drop i.toNat).all alnC = false)⟩]⟩
noncomputable def rnL.mu  : dens rnL.sh → Nat := fun (s, i) => ((s.size : Int) - i).toNat
noncomputable def rnL.g  (s : ByteArray) (i : Int) : Prop := GoodLA Tryd.prog (cfOf [letF, digF]) [] 1000 14 0 rnL rnL.mu (s, i)
noncomputable def rnL.T (s : ByteArray) (i : Int) : Prop := (((((True ∧ decide (i < (↑s.size : Int)) = true) ∧ (0 : Int) ≤ i ∧ i < (↑s.size : Int)) ∧ (!letC (XW.bt s i)) = true) ∧ (0 : Int) ≤ i ∧ i < (↑s.size : Int)) ∧ (!digC (XW.bt s i)) = true → (List.drop i.toNat (bI s)).all alnC = false ∧ false = false) ∧ (((((True ∧ decide (i < (↑s.size : Int)) = true) ∧ (0 : Int) ≤ i ∧ i < (↑s.size : Int)) ∧ (!letC (XW.bt s i)) = true) ∧ (0 : Int) ≤ i ∧ i < (↑s.size : Int)) ∧ (!digC (XW.bt s i)) = false →
  ((0 : Int) ≤ IntKind.i64.wrap (i + (1 : Int)) ∧ IntKind.i64.wrap (i + (1 : Int)) ≤ (↑s.size : Int) ∧ s.size ≤ (4000000 : Nat)) ∧ rnL.mu (s, IntKind.i64.wrap (i + (1 : Int))) < rnL.mu (s, i) ∧ ((List.drop (IntKind.i64.wrap (i + (1 : Int))).toNat (bI s)).all alnC = true → (List.drop i.toNat (bI s)).all alnC = true ∧ () = ()) ∧ ((List.drop (IntKind.i64.wrap (i + (1 : Int))).toNat (bI s)).all alnC = false → (List.drop i.toNat (bI s)).all alnC = false ∧ false = false) ∧ True) ∧ ((((True ∧ decide (i < (↑s.size : Int)) = true) ∧ (0 : Int) ≤ i ∧ i < (↑s.size : Int)) ∧ (!letC (XW.bt s i)) = true) ∧ ¬((0 : Int) ≤ i ∧ i < (↑s.size : Int)) → False) ∧ (((True ∧ decide (i < (↑s.size : Int)) = true) ∧ (0 : Int) ≤ i ∧ i < (↑s.size : Int)) ∧ (!letC (XW.bt s i)) = false →
  ((0 : Int) ≤ IntKind.i64.wrap (i + (1 : Int)) ∧ IntKind.i64.wrap (i + (1 : Int)) ≤ (↑s.size : Int) ∧ s.size ≤ (4000000 : Nat)) ∧ rnL.mu (s, IntKind.i64.wrap (i + (1 : Int))) < rnL.mu (s, i) ∧ ((List.drop (IntKind.i64.wrap (i + (1 : Int))).toNat (bI s)).all alnC = true → (List.drop i.toNat (bI s)).all alnC = true ∧ () = ()) ∧ ((List.drop (IntKind.i64.wrap (i + (1 : Int))).toNat (bI s)).all alnC = false → (List.drop i.toNat (bI s)).all alnC = false ∧ false = false) ∧ True) ∧ ((True ∧ decide (i < (↑s.size : Int)) = true) ∧ ¬((0 : Int) ≤ i ∧ i < (↑s.size : Int)) → False) ∧ (True ∧ decide (i < (↑s.size : Int)) = false → (List.drop i.toNat (bI s)).all alnC = true ∧ () = ()) ∧ (True)
theorem rnL.eq  (s : ByteArray) (i : Int) : rnL.g  s i = rnL.T  s i := by kernel_rfl
theorem rnL.ok  (s : ByteArray) (i : Int) (hx : 0 ≤ i ∧ i ≤ s.size ∧ s.size ≤ 4000000) : rnL.T  s i := by
  obtain ⟨h0, h1, h2⟩ := hx
  rw [rnL.T, wrapI64 (x := i + 1) (by omega) (by omega)]
  by_cases hi : i < (s.size : Int)
  · have hd : (bI s).drop i.toNat = XW.bt s i :: (bI s).drop (i + 1).toNat := by
      rw [bt_bI h0 hi]; exact drop_int 0 h0 (by rw [bI_len]; exact hi)
    rw [hd, List.all_cons]
    generalize XW.bt s i = c
    have ha : alnC c = (letC c || digC c) := rfl
    rw [ha]
    ((repeat' (first | exact trivial | apply And.intro)) <;> (intro hw; (try (simp only [true_and, and_true, decide_eq_true_eq, decide_eq_false_iff_not, beq_iff_eq, bne_iff_ne, beq_eq_false_iff_ne, bne_eq_false_iff_eq, ne_eq, Bool.not_eq_true, Bool.not_eq_false, not_true_eq_false, not_false_eq_true, Bool.not_eq_eq_eq_not, Bool.not_true, Bool.not_false, forall_const, imp_self, Bool.true_eq_false, Bool.false_eq_true, reduceCtorEq] at hw)); (try first | (exfalso; omega) | exact ⟨trivial, rfl⟩ | exact (hw hx).elim | exact (hw.2 hx).elim)))
    all_goals first
      | (exfalso; omega)
      | (rw [hw.1.1.2, hw.2]; exact ⟨rfl, rfl⟩)
      | (rw [show (letC c || digC c) = true by (have := hw.2; simp [this]), Bool.true_and]; exact ⟨⟨by omega, by omega, h2⟩, by simp only [rnL.mu]; omega, fun h => ⟨h, rfl⟩, fun h => ⟨h, rfl⟩, trivial⟩)
      | trace_state
  · rw [drop_int_end (by rw [bI_len]; exact hi)]
    ((repeat' (first | exact trivial | apply And.intro)) <;> (intro hw; (try (simp only [true_and, and_true, decide_eq_true_eq, decide_eq_false_iff_not, beq_iff_eq, bne_iff_ne, beq_eq_false_iff_ne, bne_eq_false_iff_eq, ne_eq, Bool.not_eq_true, Bool.not_eq_false, not_true_eq_false, not_false_eq_true, Bool.not_eq_eq_eq_not, Bool.not_true, Bool.not_false, forall_const, imp_self, Bool.true_eq_false, Bool.false_eq_true, reduceCtorEq] at hw)); (try first | (exfalso; omega) | exact ⟨trivial, rfl⟩ | exact (hw hx).elim | exact (hw.2 hx).elim)))
    all_goals first
      | (exfalso; omega)
      | exact ⟨rfl, rfl⟩
      | trace_state
theorem rnL.lp   : LpAt Tryd.prog 14 0 rnL := lp_evalH (l := []) (lf := 1000) (fun _ => cfOf_ok (fns_cons letF.fn (fns_cons digF.fn (fns_nil _)))) (lps_nil _ _) (by kernel_rfl) _ (rnL.mu ) (fun ⟨s, i⟩ hx => Hid.of (rnL.eq  s i) (rnL.ok  s i hx))
noncomputable def rnF  : Face := ⟨14, [.v .str], fun s => some (s.size ≤ 4000000),
  [⟨false, [.v .bool], fun s => nameL (bI s), fun s => none⟩]⟩
noncomputable def rnF.g  (s : ByteArray) : Prop := GoodFA Tryd.prog (cfOf [letF]) [(0, rnL)] 1000 rnF s
noncomputable def rnF.T (s : ByteArray) : Prop := (True ∧ decide ((↑s.size : Int) < (1 : Int)) = true → True ∧ false = nameL (bI s)) ∧ ((True ∧ decide ((↑s.size : Int) < (1 : Int)) = false) ∧ decide ((↑s.size : Int) > (8 : Int)) = true → True ∧ false = nameL (bI s)) ∧ ((((True ∧ decide ((↑s.size : Int) < (1 : Int)) = false) ∧ decide ((↑s.size : Int) > (8 : Int)) = false) ∧ (0 : Int) ≤ (0 : Int) ∧ (0 : Int) < (↑s.size : Int)) ∧ (!letC (XW.bt s (0 : Int))) = true → True ∧ false = nameL (bI s)) ∧ (((((True ∧ decide ((↑s.size : Int) < (1 : Int)) = false) ∧ decide ((↑s.size : Int) > (8 : Int)) = false) ∧ (0 : Int) ≤ (0 : Int) ∧ (0 : Int) < (↑s.size : Int)) ∧ (!letC (XW.bt s (0 : Int))) = false) ∧ ¬((0 : Int) ≤ (0 : Int) ∧ (0 : Int) ≤ (↑s.size : Int) ∧ s.size ≤ (4000000 : Nat)) →
  False) ∧ ((((((True ∧ decide ((↑s.size : Int) < (1 : Int)) = false) ∧ decide ((↑s.size : Int) > (8 : Int)) = false) ∧ (0 : Int) ≤ (0 : Int) ∧ (0 : Int) < (↑s.size : Int)) ∧ (!letC (XW.bt s (0 : Int))) = false) ∧ (0 : Int) ≤ (0 : Int) ∧ (0 : Int) ≤ (↑s.size : Int) ∧ s.size ≤ (4000000 : Nat)) ∧ (List.drop (Int.toNat (0 : Int)) (bI s)).all alnC = true →
  True ∧ true = nameL (bI s)) ∧ ((((((True ∧ decide ((↑s.size : Int) < (1 : Int)) = false) ∧ decide ((↑s.size : Int) > (8 : Int)) = false) ∧ (0 : Int) ≤ (0 : Int) ∧ (0 : Int) < (↑s.size : Int)) ∧ (!letC (XW.bt s (0 : Int))) = false) ∧ (0 : Int) ≤ (0 : Int) ∧ (0 : Int) ≤ (↑s.size : Int) ∧ s.size ≤ (4000000 : Nat)) ∧ (List.drop (Int.toNat (0 : Int)) (bI s)).all alnC = false →
  True ∧ false = nameL (bI s)) ∧ (((True ∧ decide ((↑s.size : Int) < (1 : Int)) = false) ∧ decide ((↑s.size : Int) > (8 : Int)) = false) ∧ ¬((0 : Int) ≤ (0 : Int) ∧ (0 : Int) < (↑s.size : Int)) → False) ∧ (True)
theorem rnF.eq  (s : ByteArray) : rnF.g  s = rnF.T  s := by kernel_rfl
theorem rnF.ok  (s : ByteArray) (hx : s.size ≤ 4000000) : rnF.T  s := by
  have hl := bI_len s
  rw [rnF.T]
  simp only [show Int.toNat 0 = 0 from rfl, List.drop_zero]
  by_cases h1 : 1 ≤ s.size
  · rw [bt_bI (Int.le_refl 0) (by omega), show (bI s).getD (Int.toNat 0) 0 = (bI s).headD 0 from headD_getD _]
    unfold nameL
    rw [hl]
    ((repeat' (first | exact trivial | apply And.intro)) <;> (intro hw; (try (simp only [true_and, and_true, decide_eq_true_eq, decide_eq_false_iff_not, beq_iff_eq, bne_iff_ne, beq_eq_false_iff_ne, bne_eq_false_iff_eq, ne_eq, Bool.not_eq_true, Bool.not_eq_false, not_true_eq_false, not_false_eq_true, Bool.not_eq_eq_eq_not, Bool.not_true, Bool.not_false, forall_const, imp_self, Bool.true_eq_false, Bool.false_eq_true, reduceCtorEq] at hw)); (try first | (exfalso; omega) | exact ⟨trivial, rfl⟩ | exact (hw hx).elim | exact (hw.2 hx).elim)))
    all_goals first
      | (exfalso; omega)
      | (refine ⟨trivial, ?_⟩; rw [decide_eq_true h1, Bool.true_and, decide_eq_false (by omega)]; rfl)
      | (refine ⟨trivial, ?_⟩; rw [hw.2, Bool.false_and, Bool.and_false, Bool.and_false])
      | (refine ⟨trivial, ?_⟩; rw [hw.2, Bool.and_false, Bool.and_false, Bool.and_false])
      | (refine ⟨trivial, ?_⟩; rw [hw.2, hw.1.1.2, decide_eq_true h1, decide_eq_true (by omega)]; rfl)
      | trace_state
  · have : nameL (bI s) = false := nameL_no (fun h => h1 h.1)
    rw [this]
    ((repeat' (first | exact trivial | apply And.intro)) <;> (intro hw; (try (simp only [true_and, and_true, decide_eq_true_eq, decide_eq_false_iff_not, beq_iff_eq, bne_iff_ne, beq_eq_false_iff_ne, bne_eq_false_iff_eq, ne_eq, Bool.not_eq_true, Bool.not_eq_false, not_true_eq_false, not_false_eq_true, Bool.not_eq_eq_eq_not, Bool.not_true, Bool.not_false, forall_const, imp_self, Bool.true_eq_false, Bool.false_eq_true, reduceCtorEq] at hw)); (try first | (exfalso; omega) | exact ⟨trivial, rfl⟩ | exact (hw hx).elim | exact (hw.2 hx).elim)))
    all_goals first
      | (exfalso; omega)
      | exact ⟨trivial, rfl⟩
      | trace_state
theorem rnF.fn   : FnOk Tryd.prog rnF := fn_evalH (l := [(0, rnL)]) (lf := 1000) (fun _ => cfOf_ok (fns_cons letF.fn (fns_nil _))) _ (lps_cons (rnL.lp) (lps_nil _ _)) (by kernel_rfl) (fun s hx => Hid.of (rnF.eq  s) (rnF.ok  s hx))
def endsNl (t : ByteArray) : Prop := (bI t).getLast? = some 10
theorem ends_at {t : ByteArray} (h : endsNl t) {j : Int} (h0 : 0 ≤ j) (hj : j < (t.size : Int)) (hc : ¬ XW.bt t j = 10) : j + 1 < (t.size : Int) := by
  rcases Int.lt_or_le (j + 1) (t.size : Int) with g | g
  · exact g
  · exfalso
    apply hc
    have hl := bI_len t
    rw [bt_bI h0 hj, List.getD_eq_getElem?_getD, show j.toNat = (bI t).length - 1 by omega, ← List.getLast?_eq_getElem?, h]; rfl
def twN (p : Int → Bool) (t : ByteArray) (i n : Int) : Int := n + ((((bI t).drop (i + n).toNat).takeWhile p).length : Int)
theorem twN_step {p : Int → Bool} {t : ByteArray} {i n : Int} (h0 : 0 ≤ i + n) (h : i + n < (t.size : Int)) (hc : p (XW.bt t (i + n)) = true) : twN p t i (n + 1) = twN p t i n := by
  have hd : (bI t).drop (i + n).toNat = XW.bt t (i + n) :: (bI t).drop (i + n + 1).toNat := by
    rw [bt_bI h0 h]; exact drop_int 0 h0 (by rw [bI_len]; exact h)
  rw [twN, twN, hd, List.takeWhile, hc, List.length_cons, show i + (n + 1) = i + n + 1 by omega]
  omega
theorem twN_end {p : Int → Bool} {t : ByteArray} {i n : Int} (h0 : 0 ≤ i + n) (h : i + n < (t.size : Int)) (hc : p (XW.bt t (i + n)) = false) : twN p t i n = n := by
  have hd : (bI t).drop (i + n).toNat = XW.bt t (i + n) :: (bI t).drop (i + n + 1).toNat := by
    rw [bt_bI h0 h]; exact drop_int 0 h0 (by rw [bI_len]; exact h)
  rw [twN, hd, List.takeWhile, hc]
  exact Int.add_zero n
noncomputable def rtL3  : LFace := ⟨[0, 5, 6, 7, 8, 9, 10], [.v .str, .row TK 42, .v (.int .i64), .v (.int .i64), .v (.int .i64), .v (.int .u8), .v (.int .i64)], fun (t, o, no, col, i, c, n) => some (endsNl t ∧ t.size ≤ 2000 ∧ 0 ≤ i ∧ 1 ≤ n ∧ i + n < t.size),
  [⟨.normal, [0, 5, 6, 7, 8, 9, 10], [.v .str, .row TK 42, .v (.int .i64), .v (.int .i64), .v (.int .i64), .v (.int .u8), .v (.int .i64)], fun (t, o, no, col, i, c, n) => (t, o, no, col, i, c, twN noNl t i n), fun (t, o, no, col, i, c, n) => none⟩]⟩
noncomputable def rtL3.mu  : dens rtL3.sh → Nat := fun (t, o, no, col, i, c, n) => ((t.size : Int) - i - n).toNat
noncomputable def rtL3.g  (t : ByteArray) (o : List (Int × ByteArray × Int × Int)) (no : Int) (col : Int) (i : Int) (c : Int) (n : Int) : Prop := GoodLA Tryd.prog (cfOf []) [] 1000 13 3 rtL3 rtL3.mu (t, o, no, col, i, c, n)
noncomputable def rtL3.T (t : ByteArray) (o : List (Int × ByteArray × Int × Int)) (no : Int) (col : Int) (i : Int) (c : Int) (n : Int) : Prop := ((True ∧ (0 : Int) ≤ IntKind.i64.wrap (i + n) ∧ IntKind.i64.wrap (i + n) < (↑t.size : Int)) ∧ (XW.bt t (IntKind.i64.wrap (i + n)) != (10 : Int)) = true →
  (endsNl t ∧ t.size ≤ (2000 : Nat) ∧ (0 : Int) ≤ i ∧ (1 : Int) ≤ IntKind.i64.wrap (n + (1 : Int)) ∧ i + IntKind.i64.wrap (n + (1 : Int)) < (↑t.size : Int)) ∧ rtL3.mu (t, o, no, col, i, c, IntKind.i64.wrap (n + (1 : Int))) < rtL3.mu (t, o, no, col, i, c, n) ∧ (True → True ∧ (t, o, no, col, i, c, twN noNl t i (IntKind.i64.wrap (n + (1 : Int)))) = (t, o, no, col, i, c, twN noNl t i n)) ∧ True) ∧ ((True ∧ (0 : Int) ≤ IntKind.i64.wrap (i + n) ∧ IntKind.i64.wrap (i + n) < (↑t.size : Int)) ∧ (XW.bt t (IntKind.i64.wrap (i + n)) != (10 : Int)) = false → True ∧ (t, o, no, col, i, c, n) = (t, o, no, col, i, c, twN noNl t i n)) ∧ (True ∧ ¬((0 : Int) ≤ IntKind.i64.wrap (i + n) ∧ IntKind.i64.wrap (i + n) < (↑t.size : Int)) → False) ∧ (True)
theorem rtL3.eq  (t : ByteArray) (o : List (Int × ByteArray × Int × Int)) (no : Int) (col : Int) (i : Int) (c : Int) (n : Int) : rtL3.g  t o no col i c n = rtL3.T  t o no col i c n := by kernel_rfl
theorem rtL3.ok  (t : ByteArray) (o : List (Int × ByteArray × Int × Int)) (no : Int) (col : Int) (i : Int) (c : Int) (n : Int) (hx : endsNl t ∧ t.size ≤ 2000 ∧ 0 ≤ i ∧ 1 ≤ n ∧ i + n < t.size) : rtL3.T  t o no col i c n := by
  obtain ⟨h0, h1, h2, h3, h4⟩ := hx
  rw [rtL3.T, wrapI64 (x := i + n) (by omega) (by omega), wrapI64 (x := n + 1) (by omega) (by omega)]
  have he := ends_at h0 (j := i + n) (by omega) h4
  have e : noNl (XW.bt t (i + n)) = !(decide (XW.bt t (i + n) = 10)) := rfl
  ((repeat' (first | exact trivial | apply And.intro)) <;> (intro hw; (try (simp only [true_and, and_true, decide_eq_true_eq, decide_eq_false_iff_not, beq_iff_eq, bne_iff_ne, beq_eq_false_iff_ne, bne_eq_false_iff_eq, ne_eq, Bool.not_eq_true, Bool.not_eq_false, not_true_eq_false, not_false_eq_true, Bool.not_eq_eq_eq_not, Bool.not_true, Bool.not_false, forall_const, imp_self, Bool.true_eq_false, Bool.false_eq_true, reduceCtorEq] at hw)); (try first | (exfalso; omega) | exact ⟨trivial, rfl⟩ | exact (hw hx).elim | exact (hw.2 hx).elim)))
  all_goals first
    | (exfalso; omega)
    | exact ⟨⟨h0, h1, h2, by omega, by have := he hw.2; omega⟩, by simp only [rtL3.mu]; omega, fun _ => ⟨trivial, by rw [twN_step (by omega) h4 (by rw [e, decide_eq_false hw.2]; rfl)]⟩, trivial⟩
    | exact ⟨trivial, by rw [twN_end (by omega) h4 (by rw [e, decide_eq_true hw.2]; rfl)]⟩
    | trace_state
theorem rtL3.lp   : LpAt Tryd.prog 13 3 rtL3 := lp_evalH (l := []) (lf := 1000) (fun _ => cfOf_ok (fns_nil _)) (lps_nil _ _) (by kernel_rfl) _ (rtL3.mu ) (fun ⟨t, o, no, col, i, c, n⟩ hx => Hid.of (rtL3.eq  t o no col i c n) (rtL3.ok  t o no col i c n hx))
noncomputable def rtL5  : LFace := ⟨[0, 5, 6, 7, 8, 9, 10], [.v .str, .row TK 42, .v (.int .i64), .v (.int .i64), .v (.int .i64), .v (.int .u8), .v (.int .i64)], fun (t, o, no, col, i, c, n) => some (endsNl t ∧ t.size ≤ 2000 ∧ 0 ≤ i ∧ 1 ≤ n ∧ i + n < t.size),
  [⟨.normal, [0, 5, 6, 7, 8, 9, 10], [.v .str, .row TK 42, .v (.int .i64), .v (.int .i64), .v (.int .i64), .v (.int .u8), .v (.int .i64)], fun (t, o, no, col, i, c, n) => (t, o, no, col, i, c, twN alnC t i n), fun (t, o, no, col, i, c, n) => none⟩]⟩
noncomputable def rtL5.mu  : dens rtL5.sh → Nat := fun (t, o, no, col, i, c, n) => ((t.size : Int) - i - n).toNat
noncomputable def rtL5.g  (t : ByteArray) (o : List (Int × ByteArray × Int × Int)) (no : Int) (col : Int) (i : Int) (c : Int) (n : Int) : Prop := GoodLA Tryd.prog (cfOf [letF, digF]) [] 1000 13 5 rtL5 rtL5.mu (t, o, no, col, i, c, n)
noncomputable def rtL5.T (t : ByteArray) (o : List (Int × ByteArray × Int × Int)) (no : Int) (col : Int) (i : Int) (c : Int) (n : Int) : Prop := ((True ∧ (0 : Int) ≤ IntKind.i64.wrap (i + n) ∧ IntKind.i64.wrap (i + n) < (↑t.size : Int)) ∧ letC (XW.bt t (IntKind.i64.wrap (i + n))) = true →
  (endsNl t ∧ t.size ≤ (2000 : Nat) ∧ (0 : Int) ≤ i ∧ (1 : Int) ≤ IntKind.i64.wrap (n + (1 : Int)) ∧ i + IntKind.i64.wrap (n + (1 : Int)) < (↑t.size : Int)) ∧ rtL5.mu (t, o, no, col, i, c, IntKind.i64.wrap (n + (1 : Int))) < rtL5.mu (t, o, no, col, i, c, n) ∧ (True → True ∧ (t, o, no, col, i, c, twN alnC t i (IntKind.i64.wrap (n + (1 : Int)))) = (t, o, no, col, i, c, twN alnC t i n)) ∧ True) ∧ ((((True ∧ (0 : Int) ≤ IntKind.i64.wrap (i + n) ∧ IntKind.i64.wrap (i + n) < (↑t.size : Int)) ∧ letC (XW.bt t (IntKind.i64.wrap (i + n))) = false) ∧ (0 : Int) ≤ IntKind.i64.wrap (i + n) ∧ IntKind.i64.wrap (i + n) < (↑t.size : Int)) ∧ digC (XW.bt t (IntKind.i64.wrap (i + n))) = true →
  (endsNl t ∧ t.size ≤ (2000 : Nat) ∧ (0 : Int) ≤ i ∧ (1 : Int) ≤ IntKind.i64.wrap (n + (1 : Int)) ∧ i + IntKind.i64.wrap (n + (1 : Int)) < (↑t.size : Int)) ∧ rtL5.mu (t, o, no, col, i, c, IntKind.i64.wrap (n + (1 : Int))) < rtL5.mu (t, o, no, col, i, c, n) ∧ (True → True ∧ (t, o, no, col, i, c, twN alnC t i (IntKind.i64.wrap (n + (1 : Int)))) = (t, o, no, col, i, c, twN alnC t i n)) ∧ True) ∧ ((((True ∧ (0 : Int) ≤ IntKind.i64.wrap (i + n) ∧ IntKind.i64.wrap (i + n) < (↑t.size : Int)) ∧ letC (XW.bt t (IntKind.i64.wrap (i + n))) = false) ∧ (0 : Int) ≤ IntKind.i64.wrap (i + n) ∧ IntKind.i64.wrap (i + n) < (↑t.size : Int)) ∧ digC (XW.bt t (IntKind.i64.wrap (i + n))) = false →
  True ∧ (t, o, no, col, i, c, n) = (t, o, no, col, i, c, twN alnC t i n)) ∧ (((True ∧ (0 : Int) ≤ IntKind.i64.wrap (i + n) ∧ IntKind.i64.wrap (i + n) < (↑t.size : Int)) ∧ letC (XW.bt t (IntKind.i64.wrap (i + n))) = false) ∧ ¬((0 : Int) ≤ IntKind.i64.wrap (i + n) ∧ IntKind.i64.wrap (i + n) < (↑t.size : Int)) → False) ∧ (True ∧ ¬((0 : Int) ≤ IntKind.i64.wrap (i + n) ∧ IntKind.i64.wrap (i + n) < (↑t.size : Int)) → False) ∧ (True)
theorem rtL5.eq  (t : ByteArray) (o : List (Int × ByteArray × Int × Int)) (no : Int) (col : Int) (i : Int) (c : Int) (n : Int) : rtL5.g  t o no col i c n = rtL5.T  t o no col i c n := by kernel_rfl
theorem rtL5.ok  (t : ByteArray) (o : List (Int × ByteArray × Int × Int)) (no : Int) (col : Int) (i : Int) (c : Int) (n : Int) (hx : endsNl t ∧ t.size ≤ 2000 ∧ 0 ≤ i ∧ 1 ≤ n ∧ i + n < t.size) : rtL5.T  t o no col i c n := by
  obtain ⟨h0, h1, h2, h3, h4⟩ := hx
  rw [rtL5.T, wrapI64 (x := i + n) (by omega) (by omega), wrapI64 (x := n + 1) (by omega) (by omega)]
  have he : alnC (XW.bt t (i + n)) = true → i + (n + 1) < (t.size : Int) := fun h => by
    have := ends_at h0 (j := i + n) (by omega) h4 (fun e => by rw [e] at h; cases h)
    omega
  have e : alnC (XW.bt t (i + n)) = (letC (XW.bt t (i + n)) || digC (XW.bt t (i + n))) := rfl
  ((repeat' (first | exact trivial | apply And.intro)) <;> (intro hw; (try (simp only [true_and, and_true, decide_eq_true_eq, decide_eq_false_iff_not, beq_iff_eq, bne_iff_ne, beq_eq_false_iff_ne, bne_eq_false_iff_eq, ne_eq, Bool.not_eq_true, Bool.not_eq_false, not_true_eq_false, not_false_eq_true, Bool.not_eq_eq_eq_not, Bool.not_true, Bool.not_false, forall_const, imp_self, Bool.true_eq_false, Bool.false_eq_true, reduceCtorEq] at hw)); (try first | (exfalso; omega) | exact ⟨trivial, rfl⟩ | exact (hw hx).elim | exact (hw.2 hx).elim)))
  all_goals first
    | (exfalso; omega)
    | (have ha : alnC (XW.bt t (i + n)) = true := by (rw [e]; have := hw.2; simp [this])
       exact ⟨⟨h0, h1, h2, by omega, he ha⟩, by simp only [rtL5.mu]; omega, fun _ => ⟨trivial, by rw [twN_step (by omega) h4 ha]⟩, trivial⟩)
    | exact ⟨trivial, by rw [twN_end (by omega) h4 (by rw [e, hw.1.1.2, hw.2]; rfl)]⟩
    | trace_state
theorem rtL5.lp   : LpAt Tryd.prog 13 5 rtL5 := lp_evalH (l := []) (lf := 1000) (fun _ => cfOf_ok (fns_cons letF.fn (fns_cons digF.fn (fns_nil _)))) (lps_nil _ _) (by kernel_rfl) _ (rtL5.mu ) (fun ⟨t, o, no, col, i, c, n⟩ hx => Hid.of (rtL5.eq  t o no col i c n) (rtL5.ok  t o no col i c n hx))
def refAt (t : ByteArray) (no col i : Int) : Scn := refL (t.size + 1) no col ((bI t).drop i.toNat)
theorem twN_tw {p : Int → Bool} {t : ByteArray} {i : Int} (h0 : 0 ≤ i) (h : i < (t.size : Int)) (hc : p (XW.bt t i) = true) :
    twN p t i 1 = ((((bI t).drop i.toNat).takeWhile p).length : Int) ∧ 1 ≤ twN p t i 1 ∧ i + twN p t i 1 ≤ (t.size : Int) ∧ (bI t).drop (i + twN p t i 1).toNat = ((bI t).drop i.toNat).dropWhile p := by
  have hd : (bI t).drop i.toNat = XW.bt t i :: (bI t).drop (i + 1).toNat := by
    rw [bt_bI h0 h]; exact drop_int 0 h0 (by rw [bI_len]; exact h)
  have e : twN p t i 1 = ((((bI t).drop i.toNat).takeWhile p).length : Int) := by
    rw [twN, hd, List.takeWhile, hc, List.length_cons]; omega
  have h1 := drop_len (p := p) ((bI t).drop i.toNat)
  rw [List.length_drop, bI_len] at h1
  have h2 : 1 ≤ (((bI t).drop i.toNat).takeWhile p).length := by rw [hd, List.takeWhile, hc]; simp
  refine ⟨e, by omega, by omega, ?_⟩
  rw [e, show (i + ((((bI t).drop i.toNat).takeWhile p).length : Int)).toNat = i.toNat + (((bI t).drop i.toNat).takeWhile p).length by omega, ← List.drop_drop, drop_tw]
theorem refAt_end {t : ByteArray} {no col i : Int} (h : ¬ i < (t.size : Int)) : refAt t no col i = ([], 0, 0) := by
  rw [refAt, List.drop_eq_nil_of_le (by rw [bI_len]; omega), refL]
theorem refAt_step {t : ByteArray} {no col i : Int} (h0 : 0 ≤ i) (h : i < (t.size : Int)) :
    (XW.bt t i = 32 → refAt t no col i = refAt t no (col + 1) (i + 1))
    ∧ (XW.bt t i = 35 → refAt t no col i = refAt t no (col + twN noNl t i 1) (i + twN noNl t i 1))
    ∧ (XW.bt t i = 10 → refAt t no col i = consS [(5, ofB [], no, col)] (refAt t (no + 1) 1 (i + 1)))
    ∧ (XW.bt t i = 58 → refAt t no col i = consS [(3, ofB [58], no, col)] (refAt t no (col + 1) (i + 1)))
    ∧ (XW.bt t i = 124 → refAt t no col i = consS [(4, ofB [124], no, col)] (refAt t no (col + 1) (i + 1)))
    ∧ (alnC (XW.bt t i) = true → nameL (((bI t).drop i.toNat).takeWhile alnC) = true → refAt t no col i = consS [(kindL (((bI t).drop i.toNat).takeWhile alnC), ofB (((bI t).drop i.toNat).takeWhile alnC), no, col)] (refAt t no (col + twN alnC t i 1) (i + twN alnC t i 1)))
    ∧ (alnC (XW.bt t i) = true → nameL (((bI t).drop i.toNat).takeWhile alnC) = false → refAt t no col i = ([], no, col))
    ∧ (¬ XW.bt t i = 32 → ¬ XW.bt t i = 35 → ¬ XW.bt t i = 10 → ¬ XW.bt t i = 58 → ¬ XW.bt t i = 124 → alnC (XW.bt t i) = false → refAt t no col i = ([], no, col)) := by
  have hd : (bI t).drop i.toNat = XW.bt t i :: (bI t).drop (i + 1).toNat := by
    rw [bt_bI h0 h]; exact drop_int 0 h0 (by rw [bI_len]; exact h)
  have hf : ∀ a b j : Int, i + 1 ≤ j → refL t.size a b ((bI t).drop j.toNat) = refAt t a b j := fun a b j hj => by
    have hl := bI_len t
    rw [refAt]
    exact refL_fuel _ _ _ _ _ (by rw [List.length_drop]; omega) (by rw [List.length_drop]; omega)
  have e0 : refAt t no col i = refL (t.size + 1) no col (XW.bt t i :: (bI t).drop (i + 1).toNat) := by rw [refAt, hd]
  have hT := fun p hc => twN_tw (p := p) h0 h hc
  refine ⟨fun c => ?_, fun c => ?_, fun c => ?_, fun c => ?_, fun c => ?_, fun c g => ?_, fun c g => ?_, fun c1 c2 c3 c4 c5 c6 => ?_⟩
  · rw [e0, refL, if_pos c, hf _ _ _ (Int.le_refl _)]
  · obtain ⟨t1, t2, t3, t4⟩ := hT noNl (by rw [c]; rfl)
    rw [e0, refL, if_neg (by omega), if_pos c, ← hd, ← t1, ← t4, hf _ _ _ (by omega)]
  · rw [e0, refL, if_neg (by omega), if_neg (by omega), if_pos c, hf _ _ _ (Int.le_refl _)]
  · rw [e0, refL, if_neg (by omega), if_neg (by omega), if_neg (by omega), if_pos c, hf _ _ _ (Int.le_refl _)]
  · rw [e0, refL, if_neg (by omega), if_neg (by omega), if_neg (by omega), if_neg (by omega), if_pos c, hf _ _ _ (Int.le_refl _)]
  · obtain ⟨a1, a2, a3, a4, a5⟩ := aln_parts c
    obtain ⟨t1, t2, t3, t4⟩ := hT alnC c
    rw [e0, refL, if_neg a1, if_neg a2, if_neg a3, if_neg a4, if_neg a5, if_pos c, ← hd, if_pos g, ← t1, ← t4, hf _ _ _ (by omega)]
  · obtain ⟨a1, a2, a3, a4, a5⟩ := aln_parts c
    rw [e0, refL, if_neg a1, if_neg a2, if_neg a3, if_neg a4, if_neg a5, if_pos c, ← hd, if_neg (by rw [g]; exact Bool.false_ne_true)]
  · rw [e0, refL, if_neg c1, if_neg c2, if_neg c3, if_neg c4, if_neg c5, if_neg (by rw [c6]; exact Bool.false_ne_true)]
theorem word_at {t : ByteArray} {i : Int} (h0 : 0 ≤ i) (h : i < (t.size : Int)) (hc : alnC (XW.bt t i) = true) :
    t.extract i.toNat (i + twN alnC t i 1).toNat = ofB (((bI t).drop i.toNat).takeWhile alnC) ∧ bI (t.extract i.toNat (i + twN alnC t i 1).toNat) = ((bI t).drop i.toNat).takeWhile alnC ∧ kindL (((bI t).drop i.toNat).takeWhile alnC) = (if XW.bt t i < 97 then 1 else 2) := by
  obtain ⟨t1, t2, t3, t4⟩ := twN_tw (p := alnC) h0 h hc
  have hd : (bI t).drop i.toNat = XW.bt t i :: (bI t).drop (i + 1).toNat := by
    rw [bt_bI h0 h]; exact drop_int 0 h0 (by rw [bI_len]; exact h)
  have e1 : bI (t.extract i.toNat (i + twN alnC t i 1).toNat) = ((bI t).drop i.toNat).takeWhile alnC := by
    rw [ext_toB, bI_toB, List.map_drop, List.map_take, show t.data.toList.map (fun b => (b.toNat : Int)) = bI t from rfl, List.drop_take]
    rw [show (i + twN alnC t i 1).toNat - i.toNat = (((bI t).drop i.toNat).takeWhile alnC).length by omega, take_tw]
  refine ⟨by rw [← e1, ofB_bI], e1, ?_⟩
  rw [hd, List.takeWhile, hc, kindL]; rfl
noncomputable def rtL0  : LFace := ⟨[0, 5, 6, 7, 8], [.v .str, .row TK 42, .v (.int .i64), .v (.int .i64), .v (.int .i64)], fun (t, o, no, col, i) => some ((0 < t.size → endsNl t) ∧ t.size ≤ 2000 ∧ 0 ≤ i ∧ i ≤ t.size ∧ 1 ≤ no ∧ no ≤ i + 1 ∧ 1 ≤ col ∧ col ≤ i + 1 ∧ (o.length : Int) ≤ i),
  [⟨.normal, [5], [.row TK 42], fun (t, o, no, col, i) => o ++ (refAt t no col i).1, fun (t, o, no, col, i) => some ((refAt t no col i).2.1 = 0)⟩,
   ⟨.ret, [2, 3, 4], [.v (.sl TK), .v (.int .i64), .v (.int .i64)], fun (t, o, no, col, i) => ([], (refAt t no col i).2.1, (refAt t no col i).2.2), fun (t, o, no, col, i) => some ((refAt t no col i).2.1 ≠ 0)⟩]⟩
noncomputable def rtL0.mu  : dens rtL0.sh → Nat := fun (t, o, no, col, i) => ((t.size : Int) - i).toNat
noncomputable def rtL0.g  (t : ByteArray) (o : List (Int × ByteArray × Int × Int)) (no : Int) (col : Int) (i : Int) : Prop := GoodLA Tryd.prog (cfOf [letF, digF, rnF]) [(3, rtL3), (5, rtL5)] 1000 13 0 rtL0 rtL0.mu (t, o, no, col, i)
noncomputable def rtL0.T (t : ByteArray) (o : List (Int × ByteArray × Int × Int)) (no : Int) (col : Int) (i : Int) : Prop := ((((True ∧ decide (i < (↑t.size : Int)) = true) ∧ (0 : Int) ≤ i ∧ i < (↑t.size : Int)) ∧ (XW.bt t i == (32 : Int)) = true) ∧ (XW.bt t i == (10 : Int)) = true →
  (((0 : Nat) < t.size → endsNl t) ∧ t.size ≤ (2000 : Nat) ∧ (0 : Int) ≤ IntKind.i64.wrap (i + (1 : Int)) ∧ IntKind.i64.wrap (i + (1 : Int)) ≤ (↑t.size : Int) ∧ (1 : Int) ≤ IntKind.i64.wrap (no + (1 : Int)) ∧ IntKind.i64.wrap (no + (1 : Int)) ≤ IntKind.i64.wrap (i + (1 : Int)) + (1 : Int) ∧ (1 : Int) ≤ (1 : Int) ∧ (1 : Int) ≤ IntKind.i64.wrap (i + (1 : Int)) + (1 : Int) ∧ (↑o.length : Int) ≤ IntKind.i64.wrap (i + (1 : Int))) ∧ rtL0.mu (t, o, IntKind.i64.wrap (no + (1 : Int)), (1 : Int), IntKind.i64.wrap (i + (1 : Int))) < rtL0.mu (t, o, no, col, i) ∧ ((refAt t (IntKind.i64.wrap (no + (1 : Int))) (1 : Int) (IntKind.i64.wrap (i + (1 : Int)))).snd.fst = (0 : Int) → (refAt t no col i).snd.fst = (0 : Int) ∧ o ++ (refAt t (IntKind.i64.wrap (no + (1 : Int))) (1 : Int) (IntKind.i64.wrap (i + (1 : Int)))).fst = o ++ (refAt t no col i).fst) ∧ ((refAt t (IntKind.i64.wrap (no + (1 : Int))) (1 : Int) (IntKind.i64.wrap (i + (1 : Int)))).snd.fst ≠ (0 : Int) → (refAt t no col i).snd.fst ≠ (0 : Int) ∧ (([] : List (Int × ByteArray × Int × Int)), (refAt t (IntKind.i64.wrap (no + (1 : Int))) (1 : Int) (IntKind.i64.wrap (i + (1 : Int)))).snd) = (([] : List (Int × ByteArray × Int × Int)), (refAt t no col i).snd)) ∧ True) ∧ ((((True ∧ decide (i < (↑t.size : Int)) = true) ∧ (0 : Int) ≤ i ∧ i < (↑t.size : Int)) ∧ (XW.bt t i == (32 : Int)) = true) ∧ (XW.bt t i == (10 : Int)) = false →
  (((0 : Nat) < t.size → endsNl t) ∧ t.size ≤ (2000 : Nat) ∧ (0 : Int) ≤ IntKind.i64.wrap (i + (1 : Int)) ∧ IntKind.i64.wrap (i + (1 : Int)) ≤ (↑t.size : Int) ∧ (1 : Int) ≤ no ∧ no ≤ IntKind.i64.wrap (i + (1 : Int)) + (1 : Int) ∧ (1 : Int) ≤ IntKind.i64.wrap (col + (1 : Int)) ∧ IntKind.i64.wrap (col + (1 : Int)) ≤ IntKind.i64.wrap (i + (1 : Int)) + (1 : Int) ∧ (↑o.length : Int) ≤ IntKind.i64.wrap (i + (1 : Int))) ∧ rtL0.mu (t, o, no, IntKind.i64.wrap (col + (1 : Int)), IntKind.i64.wrap (i + (1 : Int))) < rtL0.mu (t, o, no, col, i) ∧ ((refAt t no (IntKind.i64.wrap (col + (1 : Int))) (IntKind.i64.wrap (i + (1 : Int)))).snd.fst = (0 : Int) → (refAt t no col i).snd.fst = (0 : Int) ∧ o ++ (refAt t no (IntKind.i64.wrap (col + (1 : Int))) (IntKind.i64.wrap (i + (1 : Int)))).fst = o ++ (refAt t no col i).fst) ∧ ((refAt t no (IntKind.i64.wrap (col + (1 : Int))) (IntKind.i64.wrap (i + (1 : Int)))).snd.fst ≠ (0 : Int) → (refAt t no col i).snd.fst ≠ (0 : Int) ∧ (([] : List (Int × ByteArray × Int × Int)), (refAt t no (IntKind.i64.wrap (col + (1 : Int))) (IntKind.i64.wrap (i + (1 : Int)))).snd) = (([] : List (Int × ByteArray × Int × Int)), (refAt t no col i).snd)) ∧ True) ∧ (((((True ∧ decide (i < (↑t.size : Int)) = true) ∧ (0 : Int) ≤ i ∧ i < (↑t.size : Int)) ∧ (XW.bt t i == (32 : Int)) = false) ∧ (XW.bt t i == (35 : Int)) = true) ∧ ¬(endsNl t ∧ t.size ≤ (2000 : Nat) ∧ (0 : Int) ≤ i ∧ (1 : Int) ≤ (1 : Int) ∧ i + (1 : Int) < (↑t.size : Int)) →
  False) ∧ ((((((True ∧ decide (i < (↑t.size : Int)) = true) ∧ (0 : Int) ≤ i ∧ i < (↑t.size : Int)) ∧ (XW.bt t i == (32 : Int)) = false) ∧ (XW.bt t i == (35 : Int)) = true) ∧ endsNl t ∧ t.size ≤ (2000 : Nat) ∧ (0 : Int) ≤ i ∧ (1 : Int) ≤ (1 : Int) ∧ i + (1 : Int) < (↑t.size : Int)) ∧ (XW.bt t i == (10 : Int)) = true →
  (((0 : Nat) < t.size → endsNl t) ∧ t.size ≤ (2000 : Nat) ∧ (0 : Int) ≤ IntKind.i64.wrap (i + twN noNl t i (1 : Int)) ∧ IntKind.i64.wrap (i + twN noNl t i (1 : Int)) ≤ (↑t.size : Int) ∧ (1 : Int) ≤ IntKind.i64.wrap (no + (1 : Int)) ∧ IntKind.i64.wrap (no + (1 : Int)) ≤ IntKind.i64.wrap (i + twN noNl t i (1 : Int)) + (1 : Int) ∧ (1 : Int) ≤ (1 : Int) ∧ (1 : Int) ≤ IntKind.i64.wrap (i + twN noNl t i (1 : Int)) + (1 : Int) ∧ (↑o.length : Int) ≤ IntKind.i64.wrap (i + twN noNl t i (1 : Int))) ∧ rtL0.mu (t, o, IntKind.i64.wrap (no + (1 : Int)), (1 : Int), IntKind.i64.wrap (i + twN noNl t i (1 : Int))) < rtL0.mu (t, o, no, col, i) ∧ ((refAt t (IntKind.i64.wrap (no + (1 : Int))) (1 : Int) (IntKind.i64.wrap (i + twN noNl t i (1 : Int)))).snd.fst = (0 : Int) → (refAt t no col i).snd.fst = (0 : Int) ∧ o ++ (refAt t (IntKind.i64.wrap (no + (1 : Int))) (1 : Int) (IntKind.i64.wrap (i + twN noNl t i (1 : Int)))).fst = o ++ (refAt t no col i).fst) ∧ ((refAt t (IntKind.i64.wrap (no + (1 : Int))) (1 : Int) (IntKind.i64.wrap (i + twN noNl t i (1 : Int)))).snd.fst ≠ (0 : Int) → (refAt t no col i).snd.fst ≠ (0 : Int) ∧ (([] : List (Int × ByteArray × Int × Int)), (refAt t (IntKind.i64.wrap (no + (1 : Int))) (1 : Int) (IntKind.i64.wrap (i + twN noNl t i (1 : Int)))).snd) = (([] : List (Int × ByteArray × Int × Int)), (refAt t no col i).snd)) ∧ True) ∧ ((((((True ∧ decide (i < (↑t.size : Int)) = true) ∧ (0 : Int) ≤ i ∧ i < (↑t.size : Int)) ∧ (XW.bt t i == (32 : Int)) = false) ∧ (XW.bt t i == (35 : Int)) = true) ∧ endsNl t ∧ t.size ≤ (2000 : Nat) ∧ (0 : Int) ≤ i ∧ (1 : Int) ≤ (1 : Int) ∧ i + (1 : Int) < (↑t.size : Int)) ∧ (XW.bt t i == (10 : Int)) = false →
  (((0 : Nat) < t.size → endsNl t) ∧ t.size ≤ (2000 : Nat) ∧ (0 : Int) ≤ IntKind.i64.wrap (i + twN noNl t i (1 : Int)) ∧ IntKind.i64.wrap (i + twN noNl t i (1 : Int)) ≤ (↑t.size : Int) ∧ (1 : Int) ≤ no ∧ no ≤ IntKind.i64.wrap (i + twN noNl t i (1 : Int)) + (1 : Int) ∧ (1 : Int) ≤ IntKind.i64.wrap (col + twN noNl t i (1 : Int)) ∧ IntKind.i64.wrap (col + twN noNl t i (1 : Int)) ≤ IntKind.i64.wrap (i + twN noNl t i (1 : Int)) + (1 : Int) ∧ (↑o.length : Int) ≤ IntKind.i64.wrap (i + twN noNl t i (1 : Int))) ∧ rtL0.mu (t, o, no, IntKind.i64.wrap (col + twN noNl t i (1 : Int)), IntKind.i64.wrap (i + twN noNl t i (1 : Int))) < rtL0.mu (t, o, no, col, i) ∧ ((refAt t no (IntKind.i64.wrap (col + twN noNl t i (1 : Int))) (IntKind.i64.wrap (i + twN noNl t i (1 : Int)))).snd.fst = (0 : Int) → (refAt t no col i).snd.fst = (0 : Int) ∧ o ++ (refAt t no (IntKind.i64.wrap (col + twN noNl t i (1 : Int))) (IntKind.i64.wrap (i + twN noNl t i (1 : Int)))).fst = o ++ (refAt t no col i).fst) ∧ ((refAt t no (IntKind.i64.wrap (col + twN noNl t i (1 : Int))) (IntKind.i64.wrap (i + twN noNl t i (1 : Int)))).snd.fst ≠ (0 : Int) → (refAt t no col i).snd.fst ≠ (0 : Int) ∧ (([] : List (Int × ByteArray × Int × Int)), (refAt t no (IntKind.i64.wrap (col + twN noNl t i (1 : Int))) (IntKind.i64.wrap (i + twN noNl t i (1 : Int)))).snd) = (([] : List (Int × ByteArray × Int × Int)), (refAt t no col i).snd)) ∧ True) ∧ (((((((True ∧ decide (i < (↑t.size : Int)) = true) ∧ (0 : Int) ≤ i ∧ i < (↑t.size : Int)) ∧ (XW.bt t i == (32 : Int)) = false) ∧ (XW.bt t i == (35 : Int)) = false) ∧ (XW.bt t i == (10 : Int)) = true) ∧ (o.length + (1 : Nat)) * (40 : Nat) ≤ (140737488355328 : Nat)) ∧ (XW.bt t i == (10 : Int)) = true →
  (((0 : Nat) < t.size → endsNl t) ∧ t.size ≤ (2000 : Nat) ∧ (0 : Int) ≤ IntKind.i64.wrap (i + (1 : Int)) ∧ IntKind.i64.wrap (i + (1 : Int)) ≤ (↑t.size : Int) ∧ (1 : Int) ≤ IntKind.i64.wrap (no + (1 : Int)) ∧ IntKind.i64.wrap (no + (1 : Int)) ≤ IntKind.i64.wrap (i + (1 : Int)) + (1 : Int) ∧ (1 : Int) ≤ (1 : Int) ∧ (1 : Int) ≤ IntKind.i64.wrap (i + (1 : Int)) + (1 : Int) ∧ (↑(o ++ [((5 : Int), ByteArray.mk #[], no, col)]).length : Int) ≤ IntKind.i64.wrap (i + (1 : Int))) ∧ rtL0.mu (t, o ++ [((5 : Int), ByteArray.mk #[], no, col)], IntKind.i64.wrap (no + (1 : Int)), (1 : Int), IntKind.i64.wrap (i + (1 : Int))) < rtL0.mu (t, o, no, col, i) ∧ ((refAt t (IntKind.i64.wrap (no + (1 : Int))) (1 : Int) (IntKind.i64.wrap (i + (1 : Int)))).snd.fst = (0 : Int) → (refAt t no col i).snd.fst = (0 : Int) ∧ o ++ [((5 : Int), ByteArray.mk #[], no, col)] ++ (refAt t (IntKind.i64.wrap (no + (1 : Int))) (1 : Int) (IntKind.i64.wrap (i + (1 : Int)))).fst = o ++ (refAt t no col i).fst) ∧ ((refAt t (IntKind.i64.wrap (no + (1 : Int))) (1 : Int) (IntKind.i64.wrap (i + (1 : Int)))).snd.fst ≠ (0 : Int) → (refAt t no col i).snd.fst ≠ (0 : Int) ∧ (([] : List (Int × ByteArray × Int × Int)), (refAt t (IntKind.i64.wrap (no + (1 : Int))) (1 : Int) (IntKind.i64.wrap (i + (1 : Int)))).snd) = (([] : List (Int × ByteArray × Int × Int)), (refAt t no col i).snd)) ∧ True) ∧ (((((((True ∧ decide (i < (↑t.size : Int)) = true) ∧ (0 : Int) ≤ i ∧ i < (↑t.size : Int)) ∧ (XW.bt t i == (32 : Int)) = false) ∧ (XW.bt t i == (35 : Int)) = false) ∧ (XW.bt t i == (10 : Int)) = true) ∧ (o.length + (1 : Nat)) * (40 : Nat) ≤ (140737488355328 : Nat)) ∧ (XW.bt t i == (10 : Int)) = false →
  (((0 : Nat) < t.size → endsNl t) ∧ t.size ≤ (2000 : Nat) ∧ (0 : Int) ≤ IntKind.i64.wrap (i + (1 : Int)) ∧ IntKind.i64.wrap (i + (1 : Int)) ≤ (↑t.size : Int) ∧ (1 : Int) ≤ no ∧ no ≤ IntKind.i64.wrap (i + (1 : Int)) + (1 : Int) ∧ (1 : Int) ≤ IntKind.i64.wrap (col + (1 : Int)) ∧ IntKind.i64.wrap (col + (1 : Int)) ≤ IntKind.i64.wrap (i + (1 : Int)) + (1 : Int) ∧ (↑(o ++ [((5 : Int), ByteArray.mk #[], no, col)]).length : Int) ≤ IntKind.i64.wrap (i + (1 : Int))) ∧ rtL0.mu (t, o ++ [((5 : Int), ByteArray.mk #[], no, col)], no, IntKind.i64.wrap (col + (1 : Int)), IntKind.i64.wrap (i + (1 : Int))) < rtL0.mu (t, o, no, col, i) ∧ ((refAt t no (IntKind.i64.wrap (col + (1 : Int))) (IntKind.i64.wrap (i + (1 : Int)))).snd.fst = (0 : Int) → (refAt t no col i).snd.fst = (0 : Int) ∧ o ++ [((5 : Int), ByteArray.mk #[], no, col)] ++ (refAt t no (IntKind.i64.wrap (col + (1 : Int))) (IntKind.i64.wrap (i + (1 : Int)))).fst = o ++ (refAt t no col i).fst) ∧ ((refAt t no (IntKind.i64.wrap (col + (1 : Int))) (IntKind.i64.wrap (i + (1 : Int)))).snd.fst ≠ (0 : Int) → (refAt t no col i).snd.fst ≠ (0 : Int) ∧ (([] : List (Int × ByteArray × Int × Int)), (refAt t no (IntKind.i64.wrap (col + (1 : Int))) (IntKind.i64.wrap (i + (1 : Int)))).snd) = (([] : List (Int × ByteArray × Int × Int)), (refAt t no col i).snd)) ∧ True) ∧ ((((((True ∧ decide (i < (↑t.size : Int)) = true) ∧ (0 : Int) ≤ i ∧ i < (↑t.size : Int)) ∧ (XW.bt t i == (32 : Int)) = false) ∧ (XW.bt t i == (35 : Int)) = false) ∧ (XW.bt t i == (10 : Int)) = true) ∧ ¬(o.length + (1 : Nat)) * (40 : Nat) ≤ (140737488355328 : Nat) →
  False) ∧ ((((((((True ∧ decide (i < (↑t.size : Int)) = true) ∧ (0 : Int) ≤ i ∧ i < (↑t.size : Int)) ∧ (XW.bt t i == (32 : Int)) = false) ∧ (XW.bt t i == (35 : Int)) = false) ∧ (XW.bt t i == (10 : Int)) = false) ∧ (XW.bt t i == (58 : Int)) = true) ∧ (o.length + (1 : Nat)) * (40 : Nat) ≤ (140737488355328 : Nat)) ∧ (XW.bt t i == (10 : Int)) = true →
  (((0 : Nat) < t.size → endsNl t) ∧ t.size ≤ (2000 : Nat) ∧ (0 : Int) ≤ IntKind.i64.wrap (i + (1 : Int)) ∧ IntKind.i64.wrap (i + (1 : Int)) ≤ (↑t.size : Int) ∧ (1 : Int) ≤ IntKind.i64.wrap (no + (1 : Int)) ∧ IntKind.i64.wrap (no + (1 : Int)) ≤ IntKind.i64.wrap (i + (1 : Int)) + (1 : Int) ∧ (1 : Int) ≤ (1 : Int) ∧ (1 : Int) ≤ IntKind.i64.wrap (i + (1 : Int)) + (1 : Int) ∧ (↑(o ++ [((3 : Int), ByteArray.mk #[(58 : UInt8)], no, col)]).length : Int) ≤ IntKind.i64.wrap (i + (1 : Int))) ∧ rtL0.mu (t, o ++ [((3 : Int), ByteArray.mk #[(58 : UInt8)], no, col)], IntKind.i64.wrap (no + (1 : Int)), (1 : Int), IntKind.i64.wrap (i + (1 : Int))) < rtL0.mu (t, o, no, col, i) ∧ ((refAt t (IntKind.i64.wrap (no + (1 : Int))) (1 : Int) (IntKind.i64.wrap (i + (1 : Int)))).snd.fst = (0 : Int) → (refAt t no col i).snd.fst = (0 : Int) ∧ o ++ [((3 : Int), ByteArray.mk #[(58 : UInt8)], no, col)] ++ (refAt t (IntKind.i64.wrap (no + (1 : Int))) (1 : Int) (IntKind.i64.wrap (i + (1 : Int)))).fst = o ++ (refAt t no col i).fst) ∧ ((refAt t (IntKind.i64.wrap (no + (1 : Int))) (1 : Int) (IntKind.i64.wrap (i + (1 : Int)))).snd.fst ≠ (0 : Int) → (refAt t no col i).snd.fst ≠ (0 : Int) ∧ (([] : List (Int × ByteArray × Int × Int)), (refAt t (IntKind.i64.wrap (no + (1 : Int))) (1 : Int) (IntKind.i64.wrap (i + (1 : Int)))).snd) = (([] : List (Int × ByteArray × Int × Int)), (refAt t no col i).snd)) ∧ True) ∧ ((((((((True ∧ decide (i < (↑t.size : Int)) = true) ∧ (0 : Int) ≤ i ∧ i < (↑t.size : Int)) ∧ (XW.bt t i == (32 : Int)) = false) ∧ (XW.bt t i == (35 : Int)) = false) ∧ (XW.bt t i == (10 : Int)) = false) ∧ (XW.bt t i == (58 : Int)) = true) ∧ (o.length + (1 : Nat)) * (40 : Nat) ≤ (140737488355328 : Nat)) ∧ (XW.bt t i == (10 : Int)) = false →
  (((0 : Nat) < t.size → endsNl t) ∧ t.size ≤ (2000 : Nat) ∧ (0 : Int) ≤ IntKind.i64.wrap (i + (1 : Int)) ∧ IntKind.i64.wrap (i + (1 : Int)) ≤ (↑t.size : Int) ∧ (1 : Int) ≤ no ∧ no ≤ IntKind.i64.wrap (i + (1 : Int)) + (1 : Int) ∧ (1 : Int) ≤ IntKind.i64.wrap (col + (1 : Int)) ∧ IntKind.i64.wrap (col + (1 : Int)) ≤ IntKind.i64.wrap (i + (1 : Int)) + (1 : Int) ∧ (↑(o ++ [((3 : Int), ByteArray.mk #[(58 : UInt8)], no, col)]).length : Int) ≤ IntKind.i64.wrap (i + (1 : Int))) ∧ rtL0.mu (t, o ++ [((3 : Int), ByteArray.mk #[(58 : UInt8)], no, col)], no, IntKind.i64.wrap (col + (1 : Int)), IntKind.i64.wrap (i + (1 : Int))) < rtL0.mu (t, o, no, col, i) ∧ ((refAt t no (IntKind.i64.wrap (col + (1 : Int))) (IntKind.i64.wrap (i + (1 : Int)))).snd.fst = (0 : Int) → (refAt t no col i).snd.fst = (0 : Int) ∧ o ++ [((3 : Int), ByteArray.mk #[(58 : UInt8)], no, col)] ++ (refAt t no (IntKind.i64.wrap (col + (1 : Int))) (IntKind.i64.wrap (i + (1 : Int)))).fst = o ++ (refAt t no col i).fst) ∧ ((refAt t no (IntKind.i64.wrap (col + (1 : Int))) (IntKind.i64.wrap (i + (1 : Int)))).snd.fst ≠ (0 : Int) → (refAt t no col i).snd.fst ≠ (0 : Int) ∧ (([] : List (Int × ByteArray × Int × Int)), (refAt t no (IntKind.i64.wrap (col + (1 : Int))) (IntKind.i64.wrap (i + (1 : Int)))).snd) = (([] : List (Int × ByteArray × Int × Int)), (refAt t no col i).snd)) ∧ True) ∧ (((((((True ∧ decide (i < (↑t.size : Int)) = true) ∧ (0 : Int) ≤ i ∧ i < (↑t.size : Int)) ∧ (XW.bt t i == (32 : Int)) = false) ∧ (XW.bt t i == (35 : Int)) = false) ∧ (XW.bt t i == (10 : Int)) = false) ∧ (XW.bt t i == (58 : Int)) = true) ∧ ¬(o.length + (1 : Nat)) * (40 : Nat) ≤ (140737488355328 : Nat) →
  False) ∧ (((((((((True ∧ decide (i < (↑t.size : Int)) = true) ∧ (0 : Int) ≤ i ∧ i < (↑t.size : Int)) ∧ (XW.bt t i == (32 : Int)) = false) ∧ (XW.bt t i == (35 : Int)) = false) ∧ (XW.bt t i == (10 : Int)) = false) ∧ (XW.bt t i == (58 : Int)) = false) ∧ (XW.bt t i == (124 : Int)) = true) ∧ (o.length + (1 : Nat)) * (40 : Nat) ≤ (140737488355328 : Nat)) ∧ (XW.bt t i == (10 : Int)) = true →
  (((0 : Nat) < t.size → endsNl t) ∧ t.size ≤ (2000 : Nat) ∧ (0 : Int) ≤ IntKind.i64.wrap (i + (1 : Int)) ∧ IntKind.i64.wrap (i + (1 : Int)) ≤ (↑t.size : Int) ∧ (1 : Int) ≤ IntKind.i64.wrap (no + (1 : Int)) ∧ IntKind.i64.wrap (no + (1 : Int)) ≤ IntKind.i64.wrap (i + (1 : Int)) + (1 : Int) ∧ (1 : Int) ≤ (1 : Int) ∧ (1 : Int) ≤ IntKind.i64.wrap (i + (1 : Int)) + (1 : Int) ∧ (↑(o ++ [((4 : Int), ByteArray.mk #[(124 : UInt8)], no, col)]).length : Int) ≤ IntKind.i64.wrap (i + (1 : Int))) ∧ rtL0.mu (t, o ++ [((4 : Int), ByteArray.mk #[(124 : UInt8)], no, col)], IntKind.i64.wrap (no + (1 : Int)), (1 : Int), IntKind.i64.wrap (i + (1 : Int))) < rtL0.mu (t, o, no, col, i) ∧ ((refAt t (IntKind.i64.wrap (no + (1 : Int))) (1 : Int) (IntKind.i64.wrap (i + (1 : Int)))).snd.fst = (0 : Int) → (refAt t no col i).snd.fst = (0 : Int) ∧ o ++ [((4 : Int), ByteArray.mk #[(124 : UInt8)], no, col)] ++ (refAt t (IntKind.i64.wrap (no + (1 : Int))) (1 : Int) (IntKind.i64.wrap (i + (1 : Int)))).fst = o ++ (refAt t no col i).fst) ∧ ((refAt t (IntKind.i64.wrap (no + (1 : Int))) (1 : Int) (IntKind.i64.wrap (i + (1 : Int)))).snd.fst ≠ (0 : Int) → (refAt t no col i).snd.fst ≠ (0 : Int) ∧ (([] : List (Int × ByteArray × Int × Int)), (refAt t (IntKind.i64.wrap (no + (1 : Int))) (1 : Int) (IntKind.i64.wrap (i + (1 : Int)))).snd) = (([] : List (Int × ByteArray × Int × Int)), (refAt t no col i).snd)) ∧ True) ∧ (((((((((True ∧ decide (i < (↑t.size : Int)) = true) ∧ (0 : Int) ≤ i ∧ i < (↑t.size : Int)) ∧ (XW.bt t i == (32 : Int)) = false) ∧ (XW.bt t i == (35 : Int)) = false) ∧ (XW.bt t i == (10 : Int)) = false) ∧ (XW.bt t i == (58 : Int)) = false) ∧ (XW.bt t i == (124 : Int)) = true) ∧ (o.length + (1 : Nat)) * (40 : Nat) ≤ (140737488355328 : Nat)) ∧ (XW.bt t i == (10 : Int)) = false →
  (((0 : Nat) < t.size → endsNl t) ∧ t.size ≤ (2000 : Nat) ∧ (0 : Int) ≤ IntKind.i64.wrap (i + (1 : Int)) ∧ IntKind.i64.wrap (i + (1 : Int)) ≤ (↑t.size : Int) ∧ (1 : Int) ≤ no ∧ no ≤ IntKind.i64.wrap (i + (1 : Int)) + (1 : Int) ∧ (1 : Int) ≤ IntKind.i64.wrap (col + (1 : Int)) ∧ IntKind.i64.wrap (col + (1 : Int)) ≤ IntKind.i64.wrap (i + (1 : Int)) + (1 : Int) ∧ (↑(o ++ [((4 : Int), ByteArray.mk #[(124 : UInt8)], no, col)]).length : Int) ≤ IntKind.i64.wrap (i + (1 : Int))) ∧ rtL0.mu (t, o ++ [((4 : Int), ByteArray.mk #[(124 : UInt8)], no, col)], no, IntKind.i64.wrap (col + (1 : Int)), IntKind.i64.wrap (i + (1 : Int))) < rtL0.mu (t, o, no, col, i) ∧ ((refAt t no (IntKind.i64.wrap (col + (1 : Int))) (IntKind.i64.wrap (i + (1 : Int)))).snd.fst = (0 : Int) → (refAt t no col i).snd.fst = (0 : Int) ∧ o ++ [((4 : Int), ByteArray.mk #[(124 : UInt8)], no, col)] ++ (refAt t no (IntKind.i64.wrap (col + (1 : Int))) (IntKind.i64.wrap (i + (1 : Int)))).fst = o ++ (refAt t no col i).fst) ∧ ((refAt t no (IntKind.i64.wrap (col + (1 : Int))) (IntKind.i64.wrap (i + (1 : Int)))).snd.fst ≠ (0 : Int) → (refAt t no col i).snd.fst ≠ (0 : Int) ∧ (([] : List (Int × ByteArray × Int × Int)), (refAt t no (IntKind.i64.wrap (col + (1 : Int))) (IntKind.i64.wrap (i + (1 : Int)))).snd) = (([] : List (Int × ByteArray × Int × Int)), (refAt t no col i).snd)) ∧ True) ∧ ((((((((True ∧ decide (i < (↑t.size : Int)) = true) ∧ (0 : Int) ≤ i ∧ i < (↑t.size : Int)) ∧ (XW.bt t i == (32 : Int)) = false) ∧ (XW.bt t i == (35 : Int)) = false) ∧ (XW.bt t i == (10 : Int)) = false) ∧ (XW.bt t i == (58 : Int)) = false) ∧ (XW.bt t i == (124 : Int)) = true) ∧ ¬(o.length + (1 : Nat)) * (40 : Nat) ≤ (140737488355328 : Nat) →
  False) ∧ (((((((((True ∧ decide (i < (↑t.size : Int)) = true) ∧ (0 : Int) ≤ i ∧ i < (↑t.size : Int)) ∧ (XW.bt t i == (32 : Int)) = false) ∧ (XW.bt t i == (35 : Int)) = false) ∧ (XW.bt t i == (10 : Int)) = false) ∧ (XW.bt t i == (58 : Int)) = false) ∧ (XW.bt t i == (124 : Int)) = false) ∧ letC (XW.bt t i) = true) ∧ ¬(endsNl t ∧ t.size ≤ (2000 : Nat) ∧ (0 : Int) ≤ i ∧ (1 : Int) ≤ (1 : Int) ∧ i + (1 : Int) < (↑t.size : Int)) →
  False) ∧ (((((((((((True ∧ decide (i < (↑t.size : Int)) = true) ∧ (0 : Int) ≤ i ∧ i < (↑t.size : Int)) ∧ (XW.bt t i == (32 : Int)) = false) ∧ (XW.bt t i == (35 : Int)) = false) ∧ (XW.bt t i == (10 : Int)) = false) ∧ (XW.bt t i == (58 : Int)) = false) ∧ (XW.bt t i == (124 : Int)) = false) ∧ letC (XW.bt t i) = true) ∧ endsNl t ∧ t.size ≤ (2000 : Nat) ∧ (0 : Int) ≤ i ∧ (1 : Int) ≤ (1 : Int) ∧ i + (1 : Int) < (↑t.size : Int)) ∧ (0 : Int) ≤ i ∧ i ≤ IntKind.i64.wrap (i + twN alnC t i (1 : Int)) ∧ IntKind.i64.wrap (i + twN alnC t i (1 : Int)) ≤ (↑t.size : Int)) ∧ ¬(t.extract i.toNat (IntKind.i64.wrap (i + twN alnC t i (1 : Int))).toNat).size ≤ (4000000 : Nat) →
  False) ∧ ((((((((((((True ∧ decide (i < (↑t.size : Int)) = true) ∧ (0 : Int) ≤ i ∧ i < (↑t.size : Int)) ∧ (XW.bt t i == (32 : Int)) = false) ∧ (XW.bt t i == (35 : Int)) = false) ∧ (XW.bt t i == (10 : Int)) = false) ∧ (XW.bt t i == (58 : Int)) = false) ∧ (XW.bt t i == (124 : Int)) = false) ∧ letC (XW.bt t i) = true) ∧ endsNl t ∧ t.size ≤ (2000 : Nat) ∧ (0 : Int) ≤ i ∧ (1 : Int) ≤ (1 : Int) ∧ i + (1 : Int) < (↑t.size : Int)) ∧ (0 : Int) ≤ i ∧ i ≤ IntKind.i64.wrap (i + twN alnC t i (1 : Int)) ∧ IntKind.i64.wrap (i + twN alnC t i (1 : Int)) ≤ (↑t.size : Int)) ∧ (t.extract i.toNat (IntKind.i64.wrap (i + twN alnC t i (1 : Int))).toNat).size ≤ (4000000 : Nat)) ∧ (!nameL (bI (t.extract i.toNat (IntKind.i64.wrap (i + twN alnC t i (1 : Int))).toNat))) = true →
  (refAt t no col i).snd.fst ≠ (0 : Int) ∧ (([] : List (Int × ByteArray × Int × Int)), no, col) = (([] : List (Int × ByteArray × Int × Int)), (refAt t no col i).snd)) ∧ (((((((((((((((True ∧ decide (i < (↑t.size : Int)) = true) ∧ (0 : Int) ≤ i ∧ i < (↑t.size : Int)) ∧ (XW.bt t i == (32 : Int)) = false) ∧ (XW.bt t i == (35 : Int)) = false) ∧ (XW.bt t i == (10 : Int)) = false) ∧ (XW.bt t i == (58 : Int)) = false) ∧ (XW.bt t i == (124 : Int)) = false) ∧ letC (XW.bt t i) = true) ∧ endsNl t ∧ t.size ≤ (2000 : Nat) ∧ (0 : Int) ≤ i ∧ (1 : Int) ≤ (1 : Int) ∧ i + (1 : Int) < (↑t.size : Int)) ∧ (0 : Int) ≤ i ∧ i ≤ IntKind.i64.wrap (i + twN alnC t i (1 : Int)) ∧ IntKind.i64.wrap (i + twN alnC t i (1 : Int)) ≤ (↑t.size : Int)) ∧ (t.extract i.toNat (IntKind.i64.wrap (i + twN alnC t i (1 : Int))).toNat).size ≤ (4000000 : Nat)) ∧ (!nameL (bI (t.extract i.toNat (IntKind.i64.wrap (i + twN alnC t i (1 : Int))).toNat))) = false) ∧ decide (XW.bt t i < (97 : Int)) = true) ∧ (o.length + (1 : Nat)) * (40 : Nat) ≤ (140737488355328 : Nat)) ∧ (XW.bt t i == (10 : Int)) = true →
  (((0 : Nat) < t.size → endsNl t) ∧ t.size ≤ (2000 : Nat) ∧ (0 : Int) ≤ IntKind.i64.wrap (i + twN alnC t i (1 : Int)) ∧ IntKind.i64.wrap (i + twN alnC t i (1 : Int)) ≤ (↑t.size : Int) ∧ (1 : Int) ≤ IntKind.i64.wrap (no + (1 : Int)) ∧ IntKind.i64.wrap (no + (1 : Int)) ≤ IntKind.i64.wrap (i + twN alnC t i (1 : Int)) + (1 : Int) ∧ (1 : Int) ≤ (1 : Int) ∧ (1 : Int) ≤ IntKind.i64.wrap (i + twN alnC t i (1 : Int)) + (1 : Int) ∧ (↑(o ++ [((1 : Int), t.extract i.toNat (IntKind.i64.wrap (i + twN alnC t i (1 : Int))).toNat, no, col)]).length : Int) ≤ IntKind.i64.wrap (i + twN alnC t i (1 : Int))) ∧ rtL0.mu (t, o ++ [((1 : Int), t.extract i.toNat (IntKind.i64.wrap (i + twN alnC t i (1 : Int))).toNat, no, col)], IntKind.i64.wrap (no + (1 : Int)), (1 : Int), IntKind.i64.wrap (i + twN alnC t i (1 : Int))) < rtL0.mu (t, o, no, col, i) ∧ ((refAt t (IntKind.i64.wrap (no + (1 : Int))) (1 : Int) (IntKind.i64.wrap (i + twN alnC t i (1 : Int)))).snd.fst = (0 : Int) → (refAt t no col i).snd.fst = (0 : Int) ∧ o ++ [((1 : Int), t.extract i.toNat (IntKind.i64.wrap (i + twN alnC t i (1 : Int))).toNat, no, col)] ++ (refAt t (IntKind.i64.wrap (no + (1 : Int))) (1 : Int) (IntKind.i64.wrap (i + twN alnC t i (1 : Int)))).fst = o ++ (refAt t no col i).fst) ∧ ((refAt t (IntKind.i64.wrap (no + (1 : Int))) (1 : Int) (IntKind.i64.wrap (i + twN alnC t i (1 : Int)))).snd.fst ≠ (0 : Int) → (refAt t no col i).snd.fst ≠ (0 : Int) ∧ (([] : List (Int × ByteArray × Int × Int)), (refAt t (IntKind.i64.wrap (no + (1 : Int))) (1 : Int) (IntKind.i64.wrap (i + twN alnC t i (1 : Int)))).snd) = (([] : List (Int × ByteArray × Int × Int)), (refAt t no col i).snd)) ∧ True) ∧ (((((((((((((((True ∧ decide (i < (↑t.size : Int)) = true) ∧ (0 : Int) ≤ i ∧ i < (↑t.size : Int)) ∧ (XW.bt t i == (32 : Int)) = false) ∧ (XW.bt t i == (35 : Int)) = false) ∧ (XW.bt t i == (10 : Int)) = false) ∧ (XW.bt t i == (58 : Int)) = false) ∧ (XW.bt t i == (124 : Int)) = false) ∧ letC (XW.bt t i) = true) ∧ endsNl t ∧ t.size ≤ (2000 : Nat) ∧ (0 : Int) ≤ i ∧ (1 : Int) ≤ (1 : Int) ∧ i + (1 : Int) < (↑t.size : Int)) ∧ (0 : Int) ≤ i ∧ i ≤ IntKind.i64.wrap (i + twN alnC t i (1 : Int)) ∧ IntKind.i64.wrap (i + twN alnC t i (1 : Int)) ≤ (↑t.size : Int)) ∧ (t.extract i.toNat (IntKind.i64.wrap (i + twN alnC t i (1 : Int))).toNat).size ≤ (4000000 : Nat)) ∧ (!nameL (bI (t.extract i.toNat (IntKind.i64.wrap (i + twN alnC t i (1 : Int))).toNat))) = false) ∧ decide (XW.bt t i < (97 : Int)) = true) ∧ (o.length + (1 : Nat)) * (40 : Nat) ≤ (140737488355328 : Nat)) ∧ (XW.bt t i == (10 : Int)) = false →
  (((0 : Nat) < t.size → endsNl t) ∧ t.size ≤ (2000 : Nat) ∧ (0 : Int) ≤ IntKind.i64.wrap (i + twN alnC t i (1 : Int)) ∧ IntKind.i64.wrap (i + twN alnC t i (1 : Int)) ≤ (↑t.size : Int) ∧ (1 : Int) ≤ no ∧ no ≤ IntKind.i64.wrap (i + twN alnC t i (1 : Int)) + (1 : Int) ∧ (1 : Int) ≤ IntKind.i64.wrap (col + twN alnC t i (1 : Int)) ∧ IntKind.i64.wrap (col + twN alnC t i (1 : Int)) ≤ IntKind.i64.wrap (i + twN alnC t i (1 : Int)) + (1 : Int) ∧ (↑(o ++ [((1 : Int), t.extract i.toNat (IntKind.i64.wrap (i + twN alnC t i (1 : Int))).toNat, no, col)]).length : Int) ≤ IntKind.i64.wrap (i + twN alnC t i (1 : Int))) ∧ rtL0.mu (t, o ++ [((1 : Int), t.extract i.toNat (IntKind.i64.wrap (i + twN alnC t i (1 : Int))).toNat, no, col)], no, IntKind.i64.wrap (col + twN alnC t i (1 : Int)), IntKind.i64.wrap (i + twN alnC t i (1 : Int))) < rtL0.mu (t, o, no, col, i) ∧ ((refAt t no (IntKind.i64.wrap (col + twN alnC t i (1 : Int))) (IntKind.i64.wrap (i + twN alnC t i (1 : Int)))).snd.fst = (0 : Int) → (refAt t no col i).snd.fst = (0 : Int) ∧ o ++ [((1 : Int), t.extract i.toNat (IntKind.i64.wrap (i + twN alnC t i (1 : Int))).toNat, no, col)] ++ (refAt t no (IntKind.i64.wrap (col + twN alnC t i (1 : Int))) (IntKind.i64.wrap (i + twN alnC t i (1 : Int)))).fst = o ++ (refAt t no col i).fst) ∧ ((refAt t no (IntKind.i64.wrap (col + twN alnC t i (1 : Int))) (IntKind.i64.wrap (i + twN alnC t i (1 : Int)))).snd.fst ≠ (0 : Int) → (refAt t no col i).snd.fst ≠ (0 : Int) ∧ (([] : List (Int × ByteArray × Int × Int)), (refAt t no (IntKind.i64.wrap (col + twN alnC t i (1 : Int))) (IntKind.i64.wrap (i + twN alnC t i (1 : Int)))).snd) = (([] : List (Int × ByteArray × Int × Int)), (refAt t no col i).snd)) ∧ True) ∧ ((((((((((((((True ∧ decide (i < (↑t.size : Int)) = true) ∧ (0 : Int) ≤ i ∧ i < (↑t.size : Int)) ∧ (XW.bt t i == (32 : Int)) = false) ∧ (XW.bt t i == (35 : Int)) = false) ∧ (XW.bt t i == (10 : Int)) = false) ∧ (XW.bt t i == (58 : Int)) = false) ∧ (XW.bt t i == (124 : Int)) = false) ∧ letC (XW.bt t i) = true) ∧ endsNl t ∧ t.size ≤ (2000 : Nat) ∧ (0 : Int) ≤ i ∧ (1 : Int) ≤ (1 : Int) ∧ i + (1 : Int) < (↑t.size : Int)) ∧ (0 : Int) ≤ i ∧ i ≤ IntKind.i64.wrap (i + twN alnC t i (1 : Int)) ∧ IntKind.i64.wrap (i + twN alnC t i (1 : Int)) ≤ (↑t.size : Int)) ∧ (t.extract i.toNat (IntKind.i64.wrap (i + twN alnC t i (1 : Int))).toNat).size ≤ (4000000 : Nat)) ∧ (!nameL (bI (t.extract i.toNat (IntKind.i64.wrap (i + twN alnC t i (1 : Int))).toNat))) = false) ∧ decide (XW.bt t i < (97 : Int)) = true) ∧ ¬(o.length + (1 : Nat)) * (40 : Nat) ≤ (140737488355328 : Nat) →
  False) ∧ (((((((((((((((True ∧ decide (i < (↑t.size : Int)) = true) ∧ (0 : Int) ≤ i ∧ i < (↑t.size : Int)) ∧ (XW.bt t i == (32 : Int)) = false) ∧ (XW.bt t i == (35 : Int)) = false) ∧ (XW.bt t i == (10 : Int)) = false) ∧ (XW.bt t i == (58 : Int)) = false) ∧ (XW.bt t i == (124 : Int)) = false) ∧ letC (XW.bt t i) = true) ∧ endsNl t ∧ t.size ≤ (2000 : Nat) ∧ (0 : Int) ≤ i ∧ (1 : Int) ≤ (1 : Int) ∧ i + (1 : Int) < (↑t.size : Int)) ∧ (0 : Int) ≤ i ∧ i ≤ IntKind.i64.wrap (i + twN alnC t i (1 : Int)) ∧ IntKind.i64.wrap (i + twN alnC t i (1 : Int)) ≤ (↑t.size : Int)) ∧ (t.extract i.toNat (IntKind.i64.wrap (i + twN alnC t i (1 : Int))).toNat).size ≤ (4000000 : Nat)) ∧ (!nameL (bI (t.extract i.toNat (IntKind.i64.wrap (i + twN alnC t i (1 : Int))).toNat))) = false) ∧ decide (XW.bt t i < (97 : Int)) = false) ∧ (o.length + (1 : Nat)) * (40 : Nat) ≤ (140737488355328 : Nat)) ∧ (XW.bt t i == (10 : Int)) = true →
  (((0 : Nat) < t.size → endsNl t) ∧ t.size ≤ (2000 : Nat) ∧ (0 : Int) ≤ IntKind.i64.wrap (i + twN alnC t i (1 : Int)) ∧ IntKind.i64.wrap (i + twN alnC t i (1 : Int)) ≤ (↑t.size : Int) ∧ (1 : Int) ≤ IntKind.i64.wrap (no + (1 : Int)) ∧ IntKind.i64.wrap (no + (1 : Int)) ≤ IntKind.i64.wrap (i + twN alnC t i (1 : Int)) + (1 : Int) ∧ (1 : Int) ≤ (1 : Int) ∧ (1 : Int) ≤ IntKind.i64.wrap (i + twN alnC t i (1 : Int)) + (1 : Int) ∧ (↑(o ++ [((2 : Int), t.extract i.toNat (IntKind.i64.wrap (i + twN alnC t i (1 : Int))).toNat, no, col)]).length : Int) ≤ IntKind.i64.wrap (i + twN alnC t i (1 : Int))) ∧ rtL0.mu (t, o ++ [((2 : Int), t.extract i.toNat (IntKind.i64.wrap (i + twN alnC t i (1 : Int))).toNat, no, col)], IntKind.i64.wrap (no + (1 : Int)), (1 : Int), IntKind.i64.wrap (i + twN alnC t i (1 : Int))) < rtL0.mu (t, o, no, col, i) ∧ ((refAt t (IntKind.i64.wrap (no + (1 : Int))) (1 : Int) (IntKind.i64.wrap (i + twN alnC t i (1 : Int)))).snd.fst = (0 : Int) → (refAt t no col i).snd.fst = (0 : Int) ∧ o ++ [((2 : Int), t.extract i.toNat (IntKind.i64.wrap (i + twN alnC t i (1 : Int))).toNat, no, col)] ++ (refAt t (IntKind.i64.wrap (no + (1 : Int))) (1 : Int) (IntKind.i64.wrap (i + twN alnC t i (1 : Int)))).fst = o ++ (refAt t no col i).fst) ∧ ((refAt t (IntKind.i64.wrap (no + (1 : Int))) (1 : Int) (IntKind.i64.wrap (i + twN alnC t i (1 : Int)))).snd.fst ≠ (0 : Int) → (refAt t no col i).snd.fst ≠ (0 : Int) ∧ (([] : List (Int × ByteArray × Int × Int)), (refAt t (IntKind.i64.wrap (no + (1 : Int))) (1 : Int) (IntKind.i64.wrap (i + twN alnC t i (1 : Int)))).snd) = (([] : List (Int × ByteArray × Int × Int)), (refAt t no col i).snd)) ∧ True) ∧ (((((((((((((((True ∧ decide (i < (↑t.size : Int)) = true) ∧ (0 : Int) ≤ i ∧ i < (↑t.size : Int)) ∧ (XW.bt t i == (32 : Int)) = false) ∧ (XW.bt t i == (35 : Int)) = false) ∧ (XW.bt t i == (10 : Int)) = false) ∧ (XW.bt t i == (58 : Int)) = false) ∧ (XW.bt t i == (124 : Int)) = false) ∧ letC (XW.bt t i) = true) ∧ endsNl t ∧ t.size ≤ (2000 : Nat) ∧ (0 : Int) ≤ i ∧ (1 : Int) ≤ (1 : Int) ∧ i + (1 : Int) < (↑t.size : Int)) ∧ (0 : Int) ≤ i ∧ i ≤ IntKind.i64.wrap (i + twN alnC t i (1 : Int)) ∧ IntKind.i64.wrap (i + twN alnC t i (1 : Int)) ≤ (↑t.size : Int)) ∧ (t.extract i.toNat (IntKind.i64.wrap (i + twN alnC t i (1 : Int))).toNat).size ≤ (4000000 : Nat)) ∧ (!nameL (bI (t.extract i.toNat (IntKind.i64.wrap (i + twN alnC t i (1 : Int))).toNat))) = false) ∧ decide (XW.bt t i < (97 : Int)) = false) ∧ (o.length + (1 : Nat)) * (40 : Nat) ≤ (140737488355328 : Nat)) ∧ (XW.bt t i == (10 : Int)) = false →
  (((0 : Nat) < t.size → endsNl t) ∧ t.size ≤ (2000 : Nat) ∧ (0 : Int) ≤ IntKind.i64.wrap (i + twN alnC t i (1 : Int)) ∧ IntKind.i64.wrap (i + twN alnC t i (1 : Int)) ≤ (↑t.size : Int) ∧ (1 : Int) ≤ no ∧ no ≤ IntKind.i64.wrap (i + twN alnC t i (1 : Int)) + (1 : Int) ∧ (1 : Int) ≤ IntKind.i64.wrap (col + twN alnC t i (1 : Int)) ∧ IntKind.i64.wrap (col + twN alnC t i (1 : Int)) ≤ IntKind.i64.wrap (i + twN alnC t i (1 : Int)) + (1 : Int) ∧ (↑(o ++ [((2 : Int), t.extract i.toNat (IntKind.i64.wrap (i + twN alnC t i (1 : Int))).toNat, no, col)]).length : Int) ≤ IntKind.i64.wrap (i + twN alnC t i (1 : Int))) ∧ rtL0.mu (t, o ++ [((2 : Int), t.extract i.toNat (IntKind.i64.wrap (i + twN alnC t i (1 : Int))).toNat, no, col)], no, IntKind.i64.wrap (col + twN alnC t i (1 : Int)), IntKind.i64.wrap (i + twN alnC t i (1 : Int))) < rtL0.mu (t, o, no, col, i) ∧ ((refAt t no (IntKind.i64.wrap (col + twN alnC t i (1 : Int))) (IntKind.i64.wrap (i + twN alnC t i (1 : Int)))).snd.fst = (0 : Int) → (refAt t no col i).snd.fst = (0 : Int) ∧ o ++ [((2 : Int), t.extract i.toNat (IntKind.i64.wrap (i + twN alnC t i (1 : Int))).toNat, no, col)] ++ (refAt t no (IntKind.i64.wrap (col + twN alnC t i (1 : Int))) (IntKind.i64.wrap (i + twN alnC t i (1 : Int)))).fst = o ++ (refAt t no col i).fst) ∧ ((refAt t no (IntKind.i64.wrap (col + twN alnC t i (1 : Int))) (IntKind.i64.wrap (i + twN alnC t i (1 : Int)))).snd.fst ≠ (0 : Int) → (refAt t no col i).snd.fst ≠ (0 : Int) ∧ (([] : List (Int × ByteArray × Int × Int)), (refAt t no (IntKind.i64.wrap (col + twN alnC t i (1 : Int))) (IntKind.i64.wrap (i + twN alnC t i (1 : Int)))).snd) = (([] : List (Int × ByteArray × Int × Int)), (refAt t no col i).snd)) ∧ True) ∧ ((((((((((((((True ∧ decide (i < (↑t.size : Int)) = true) ∧ (0 : Int) ≤ i ∧ i < (↑t.size : Int)) ∧ (XW.bt t i == (32 : Int)) = false) ∧ (XW.bt t i == (35 : Int)) = false) ∧ (XW.bt t i == (10 : Int)) = false) ∧ (XW.bt t i == (58 : Int)) = false) ∧ (XW.bt t i == (124 : Int)) = false) ∧ letC (XW.bt t i) = true) ∧ endsNl t ∧ t.size ≤ (2000 : Nat) ∧ (0 : Int) ≤ i ∧ (1 : Int) ≤ (1 : Int) ∧ i + (1 : Int) < (↑t.size : Int)) ∧ (0 : Int) ≤ i ∧ i ≤ IntKind.i64.wrap (i + twN alnC t i (1 : Int)) ∧ IntKind.i64.wrap (i + twN alnC t i (1 : Int)) ≤ (↑t.size : Int)) ∧ (t.extract i.toNat (IntKind.i64.wrap (i + twN alnC t i (1 : Int))).toNat).size ≤ (4000000 : Nat)) ∧ (!nameL (bI (t.extract i.toNat (IntKind.i64.wrap (i + twN alnC t i (1 : Int))).toNat))) = false) ∧ decide (XW.bt t i < (97 : Int)) = false) ∧ ¬(o.length + (1 : Nat)) * (40 : Nat) ≤ (140737488355328 : Nat) →
  False) ∧ ((((((((((True ∧ decide (i < (↑t.size : Int)) = true) ∧ (0 : Int) ≤ i ∧ i < (↑t.size : Int)) ∧ (XW.bt t i == (32 : Int)) = false) ∧ (XW.bt t i == (35 : Int)) = false) ∧ (XW.bt t i == (10 : Int)) = false) ∧ (XW.bt t i == (58 : Int)) = false) ∧ (XW.bt t i == (124 : Int)) = false) ∧ letC (XW.bt t i) = true) ∧ endsNl t ∧ t.size ≤ (2000 : Nat) ∧ (0 : Int) ≤ i ∧ (1 : Int) ≤ (1 : Int) ∧ i + (1 : Int) < (↑t.size : Int)) ∧ ¬((0 : Int) ≤ i ∧ i ≤ IntKind.i64.wrap (i + twN alnC t i (1 : Int)) ∧ IntKind.i64.wrap (i + twN alnC t i (1 : Int)) ≤ (↑t.size : Int)) →
  False) ∧ ((((((((((True ∧ decide (i < (↑t.size : Int)) = true) ∧ (0 : Int) ≤ i ∧ i < (↑t.size : Int)) ∧ (XW.bt t i == (32 : Int)) = false) ∧ (XW.bt t i == (35 : Int)) = false) ∧ (XW.bt t i == (10 : Int)) = false) ∧ (XW.bt t i == (58 : Int)) = false) ∧ (XW.bt t i == (124 : Int)) = false) ∧ letC (XW.bt t i) = false) ∧ digC (XW.bt t i) = true) ∧ ¬(endsNl t ∧ t.size ≤ (2000 : Nat) ∧ (0 : Int) ≤ i ∧ (1 : Int) ≤ (1 : Int) ∧ i + (1 : Int) < (↑t.size : Int)) →
  False) ∧ ((((((((((((True ∧ decide (i < (↑t.size : Int)) = true) ∧ (0 : Int) ≤ i ∧ i < (↑t.size : Int)) ∧ (XW.bt t i == (32 : Int)) = false) ∧ (XW.bt t i == (35 : Int)) = false) ∧ (XW.bt t i == (10 : Int)) = false) ∧ (XW.bt t i == (58 : Int)) = false) ∧ (XW.bt t i == (124 : Int)) = false) ∧ letC (XW.bt t i) = false) ∧ digC (XW.bt t i) = true) ∧ endsNl t ∧ t.size ≤ (2000 : Nat) ∧ (0 : Int) ≤ i ∧ (1 : Int) ≤ (1 : Int) ∧ i + (1 : Int) < (↑t.size : Int)) ∧ (0 : Int) ≤ i ∧ i ≤ IntKind.i64.wrap (i + twN alnC t i (1 : Int)) ∧ IntKind.i64.wrap (i + twN alnC t i (1 : Int)) ≤ (↑t.size : Int)) ∧ ¬(t.extract i.toNat (IntKind.i64.wrap (i + twN alnC t i (1 : Int))).toNat).size ≤ (4000000 : Nat) →
  False) ∧ (((((((((((((True ∧ decide (i < (↑t.size : Int)) = true) ∧ (0 : Int) ≤ i ∧ i < (↑t.size : Int)) ∧ (XW.bt t i == (32 : Int)) = false) ∧ (XW.bt t i == (35 : Int)) = false) ∧ (XW.bt t i == (10 : Int)) = false) ∧ (XW.bt t i == (58 : Int)) = false) ∧ (XW.bt t i == (124 : Int)) = false) ∧ letC (XW.bt t i) = false) ∧ digC (XW.bt t i) = true) ∧ endsNl t ∧ t.size ≤ (2000 : Nat) ∧ (0 : Int) ≤ i ∧ (1 : Int) ≤ (1 : Int) ∧ i + (1 : Int) < (↑t.size : Int)) ∧ (0 : Int) ≤ i ∧ i ≤ IntKind.i64.wrap (i + twN alnC t i (1 : Int)) ∧ IntKind.i64.wrap (i + twN alnC t i (1 : Int)) ≤ (↑t.size : Int)) ∧ (t.extract i.toNat (IntKind.i64.wrap (i + twN alnC t i (1 : Int))).toNat).size ≤ (4000000 : Nat)) ∧ (!nameL (bI (t.extract i.toNat (IntKind.i64.wrap (i + twN alnC t i (1 : Int))).toNat))) = true →
  (refAt t no col i).snd.fst ≠ (0 : Int) ∧ (([] : List (Int × ByteArray × Int × Int)), no, col) = (([] : List (Int × ByteArray × Int × Int)), (refAt t no col i).snd)) ∧ ((((((((((((((((True ∧ decide (i < (↑t.size : Int)) = true) ∧ (0 : Int) ≤ i ∧ i < (↑t.size : Int)) ∧ (XW.bt t i == (32 : Int)) = false) ∧ (XW.bt t i == (35 : Int)) = false) ∧ (XW.bt t i == (10 : Int)) = false) ∧ (XW.bt t i == (58 : Int)) = false) ∧ (XW.bt t i == (124 : Int)) = false) ∧ letC (XW.bt t i) = false) ∧ digC (XW.bt t i) = true) ∧ endsNl t ∧ t.size ≤ (2000 : Nat) ∧ (0 : Int) ≤ i ∧ (1 : Int) ≤ (1 : Int) ∧ i + (1 : Int) < (↑t.size : Int)) ∧ (0 : Int) ≤ i ∧ i ≤ IntKind.i64.wrap (i + twN alnC t i (1 : Int)) ∧ IntKind.i64.wrap (i + twN alnC t i (1 : Int)) ≤ (↑t.size : Int)) ∧ (t.extract i.toNat (IntKind.i64.wrap (i + twN alnC t i (1 : Int))).toNat).size ≤ (4000000 : Nat)) ∧ (!nameL (bI (t.extract i.toNat (IntKind.i64.wrap (i + twN alnC t i (1 : Int))).toNat))) = false) ∧ decide (XW.bt t i < (97 : Int)) = true) ∧ (o.length + (1 : Nat)) * (40 : Nat) ≤ (140737488355328 : Nat)) ∧ (XW.bt t i == (10 : Int)) = true →
  (((0 : Nat) < t.size → endsNl t) ∧ t.size ≤ (2000 : Nat) ∧ (0 : Int) ≤ IntKind.i64.wrap (i + twN alnC t i (1 : Int)) ∧ IntKind.i64.wrap (i + twN alnC t i (1 : Int)) ≤ (↑t.size : Int) ∧ (1 : Int) ≤ IntKind.i64.wrap (no + (1 : Int)) ∧ IntKind.i64.wrap (no + (1 : Int)) ≤ IntKind.i64.wrap (i + twN alnC t i (1 : Int)) + (1 : Int) ∧ (1 : Int) ≤ (1 : Int) ∧ (1 : Int) ≤ IntKind.i64.wrap (i + twN alnC t i (1 : Int)) + (1 : Int) ∧ (↑(o ++ [((1 : Int), t.extract i.toNat (IntKind.i64.wrap (i + twN alnC t i (1 : Int))).toNat, no, col)]).length : Int) ≤ IntKind.i64.wrap (i + twN alnC t i (1 : Int))) ∧ rtL0.mu (t, o ++ [((1 : Int), t.extract i.toNat (IntKind.i64.wrap (i + twN alnC t i (1 : Int))).toNat, no, col)], IntKind.i64.wrap (no + (1 : Int)), (1 : Int), IntKind.i64.wrap (i + twN alnC t i (1 : Int))) < rtL0.mu (t, o, no, col, i) ∧ ((refAt t (IntKind.i64.wrap (no + (1 : Int))) (1 : Int) (IntKind.i64.wrap (i + twN alnC t i (1 : Int)))).snd.fst = (0 : Int) → (refAt t no col i).snd.fst = (0 : Int) ∧ o ++ [((1 : Int), t.extract i.toNat (IntKind.i64.wrap (i + twN alnC t i (1 : Int))).toNat, no, col)] ++ (refAt t (IntKind.i64.wrap (no + (1 : Int))) (1 : Int) (IntKind.i64.wrap (i + twN alnC t i (1 : Int)))).fst = o ++ (refAt t no col i).fst) ∧ ((refAt t (IntKind.i64.wrap (no + (1 : Int))) (1 : Int) (IntKind.i64.wrap (i + twN alnC t i (1 : Int)))).snd.fst ≠ (0 : Int) → (refAt t no col i).snd.fst ≠ (0 : Int) ∧ (([] : List (Int × ByteArray × Int × Int)), (refAt t (IntKind.i64.wrap (no + (1 : Int))) (1 : Int) (IntKind.i64.wrap (i + twN alnC t i (1 : Int)))).snd) = (([] : List (Int × ByteArray × Int × Int)), (refAt t no col i).snd)) ∧ True) ∧ ((((((((((((((((True ∧ decide (i < (↑t.size : Int)) = true) ∧ (0 : Int) ≤ i ∧ i < (↑t.size : Int)) ∧ (XW.bt t i == (32 : Int)) = false) ∧ (XW.bt t i == (35 : Int)) = false) ∧ (XW.bt t i == (10 : Int)) = false) ∧ (XW.bt t i == (58 : Int)) = false) ∧ (XW.bt t i == (124 : Int)) = false) ∧ letC (XW.bt t i) = false) ∧ digC (XW.bt t i) = true) ∧ endsNl t ∧ t.size ≤ (2000 : Nat) ∧ (0 : Int) ≤ i ∧ (1 : Int) ≤ (1 : Int) ∧ i + (1 : Int) < (↑t.size : Int)) ∧ (0 : Int) ≤ i ∧ i ≤ IntKind.i64.wrap (i + twN alnC t i (1 : Int)) ∧ IntKind.i64.wrap (i + twN alnC t i (1 : Int)) ≤ (↑t.size : Int)) ∧ (t.extract i.toNat (IntKind.i64.wrap (i + twN alnC t i (1 : Int))).toNat).size ≤ (4000000 : Nat)) ∧ (!nameL (bI (t.extract i.toNat (IntKind.i64.wrap (i + twN alnC t i (1 : Int))).toNat))) = false) ∧ decide (XW.bt t i < (97 : Int)) = true) ∧ (o.length + (1 : Nat)) * (40 : Nat) ≤ (140737488355328 : Nat)) ∧ (XW.bt t i == (10 : Int)) = false →
  (((0 : Nat) < t.size → endsNl t) ∧ t.size ≤ (2000 : Nat) ∧ (0 : Int) ≤ IntKind.i64.wrap (i + twN alnC t i (1 : Int)) ∧ IntKind.i64.wrap (i + twN alnC t i (1 : Int)) ≤ (↑t.size : Int) ∧ (1 : Int) ≤ no ∧ no ≤ IntKind.i64.wrap (i + twN alnC t i (1 : Int)) + (1 : Int) ∧ (1 : Int) ≤ IntKind.i64.wrap (col + twN alnC t i (1 : Int)) ∧ IntKind.i64.wrap (col + twN alnC t i (1 : Int)) ≤ IntKind.i64.wrap (i + twN alnC t i (1 : Int)) + (1 : Int) ∧ (↑(o ++ [((1 : Int), t.extract i.toNat (IntKind.i64.wrap (i + twN alnC t i (1 : Int))).toNat, no, col)]).length : Int) ≤ IntKind.i64.wrap (i + twN alnC t i (1 : Int))) ∧ rtL0.mu (t, o ++ [((1 : Int), t.extract i.toNat (IntKind.i64.wrap (i + twN alnC t i (1 : Int))).toNat, no, col)], no, IntKind.i64.wrap (col + twN alnC t i (1 : Int)), IntKind.i64.wrap (i + twN alnC t i (1 : Int))) < rtL0.mu (t, o, no, col, i) ∧ ((refAt t no (IntKind.i64.wrap (col + twN alnC t i (1 : Int))) (IntKind.i64.wrap (i + twN alnC t i (1 : Int)))).snd.fst = (0 : Int) → (refAt t no col i).snd.fst = (0 : Int) ∧ o ++ [((1 : Int), t.extract i.toNat (IntKind.i64.wrap (i + twN alnC t i (1 : Int))).toNat, no, col)] ++ (refAt t no (IntKind.i64.wrap (col + twN alnC t i (1 : Int))) (IntKind.i64.wrap (i + twN alnC t i (1 : Int)))).fst = o ++ (refAt t no col i).fst) ∧ ((refAt t no (IntKind.i64.wrap (col + twN alnC t i (1 : Int))) (IntKind.i64.wrap (i + twN alnC t i (1 : Int)))).snd.fst ≠ (0 : Int) → (refAt t no col i).snd.fst ≠ (0 : Int) ∧ (([] : List (Int × ByteArray × Int × Int)), (refAt t no (IntKind.i64.wrap (col + twN alnC t i (1 : Int))) (IntKind.i64.wrap (i + twN alnC t i (1 : Int)))).snd) = (([] : List (Int × ByteArray × Int × Int)), (refAt t no col i).snd)) ∧ True) ∧ (((((((((((((((True ∧ decide (i < (↑t.size : Int)) = true) ∧ (0 : Int) ≤ i ∧ i < (↑t.size : Int)) ∧ (XW.bt t i == (32 : Int)) = false) ∧ (XW.bt t i == (35 : Int)) = false) ∧ (XW.bt t i == (10 : Int)) = false) ∧ (XW.bt t i == (58 : Int)) = false) ∧ (XW.bt t i == (124 : Int)) = false) ∧ letC (XW.bt t i) = false) ∧ digC (XW.bt t i) = true) ∧ endsNl t ∧ t.size ≤ (2000 : Nat) ∧ (0 : Int) ≤ i ∧ (1 : Int) ≤ (1 : Int) ∧ i + (1 : Int) < (↑t.size : Int)) ∧ (0 : Int) ≤ i ∧ i ≤ IntKind.i64.wrap (i + twN alnC t i (1 : Int)) ∧ IntKind.i64.wrap (i + twN alnC t i (1 : Int)) ≤ (↑t.size : Int)) ∧ (t.extract i.toNat (IntKind.i64.wrap (i + twN alnC t i (1 : Int))).toNat).size ≤ (4000000 : Nat)) ∧ (!nameL (bI (t.extract i.toNat (IntKind.i64.wrap (i + twN alnC t i (1 : Int))).toNat))) = false) ∧ decide (XW.bt t i < (97 : Int)) = true) ∧ ¬(o.length + (1 : Nat)) * (40 : Nat) ≤ (140737488355328 : Nat) →
  False) ∧ ((((((((((((((((True ∧ decide (i < (↑t.size : Int)) = true) ∧ (0 : Int) ≤ i ∧ i < (↑t.size : Int)) ∧ (XW.bt t i == (32 : Int)) = false) ∧ (XW.bt t i == (35 : Int)) = false) ∧ (XW.bt t i == (10 : Int)) = false) ∧ (XW.bt t i == (58 : Int)) = false) ∧ (XW.bt t i == (124 : Int)) = false) ∧ letC (XW.bt t i) = false) ∧ digC (XW.bt t i) = true) ∧ endsNl t ∧ t.size ≤ (2000 : Nat) ∧ (0 : Int) ≤ i ∧ (1 : Int) ≤ (1 : Int) ∧ i + (1 : Int) < (↑t.size : Int)) ∧ (0 : Int) ≤ i ∧ i ≤ IntKind.i64.wrap (i + twN alnC t i (1 : Int)) ∧ IntKind.i64.wrap (i + twN alnC t i (1 : Int)) ≤ (↑t.size : Int)) ∧ (t.extract i.toNat (IntKind.i64.wrap (i + twN alnC t i (1 : Int))).toNat).size ≤ (4000000 : Nat)) ∧ (!nameL (bI (t.extract i.toNat (IntKind.i64.wrap (i + twN alnC t i (1 : Int))).toNat))) = false) ∧ decide (XW.bt t i < (97 : Int)) = false) ∧ (o.length + (1 : Nat)) * (40 : Nat) ≤ (140737488355328 : Nat)) ∧ (XW.bt t i == (10 : Int)) = true →
  (((0 : Nat) < t.size → endsNl t) ∧ t.size ≤ (2000 : Nat) ∧ (0 : Int) ≤ IntKind.i64.wrap (i + twN alnC t i (1 : Int)) ∧ IntKind.i64.wrap (i + twN alnC t i (1 : Int)) ≤ (↑t.size : Int) ∧ (1 : Int) ≤ IntKind.i64.wrap (no + (1 : Int)) ∧ IntKind.i64.wrap (no + (1 : Int)) ≤ IntKind.i64.wrap (i + twN alnC t i (1 : Int)) + (1 : Int) ∧ (1 : Int) ≤ (1 : Int) ∧ (1 : Int) ≤ IntKind.i64.wrap (i + twN alnC t i (1 : Int)) + (1 : Int) ∧ (↑(o ++ [((2 : Int), t.extract i.toNat (IntKind.i64.wrap (i + twN alnC t i (1 : Int))).toNat, no, col)]).length : Int) ≤ IntKind.i64.wrap (i + twN alnC t i (1 : Int))) ∧ rtL0.mu (t, o ++ [((2 : Int), t.extract i.toNat (IntKind.i64.wrap (i + twN alnC t i (1 : Int))).toNat, no, col)], IntKind.i64.wrap (no + (1 : Int)), (1 : Int), IntKind.i64.wrap (i + twN alnC t i (1 : Int))) < rtL0.mu (t, o, no, col, i) ∧ ((refAt t (IntKind.i64.wrap (no + (1 : Int))) (1 : Int) (IntKind.i64.wrap (i + twN alnC t i (1 : Int)))).snd.fst = (0 : Int) → (refAt t no col i).snd.fst = (0 : Int) ∧ o ++ [((2 : Int), t.extract i.toNat (IntKind.i64.wrap (i + twN alnC t i (1 : Int))).toNat, no, col)] ++ (refAt t (IntKind.i64.wrap (no + (1 : Int))) (1 : Int) (IntKind.i64.wrap (i + twN alnC t i (1 : Int)))).fst = o ++ (refAt t no col i).fst) ∧ ((refAt t (IntKind.i64.wrap (no + (1 : Int))) (1 : Int) (IntKind.i64.wrap (i + twN alnC t i (1 : Int)))).snd.fst ≠ (0 : Int) → (refAt t no col i).snd.fst ≠ (0 : Int) ∧ (([] : List (Int × ByteArray × Int × Int)), (refAt t (IntKind.i64.wrap (no + (1 : Int))) (1 : Int) (IntKind.i64.wrap (i + twN alnC t i (1 : Int)))).snd) = (([] : List (Int × ByteArray × Int × Int)), (refAt t no col i).snd)) ∧ True) ∧ ((((((((((((((((True ∧ decide (i < (↑t.size : Int)) = true) ∧ (0 : Int) ≤ i ∧ i < (↑t.size : Int)) ∧ (XW.bt t i == (32 : Int)) = false) ∧ (XW.bt t i == (35 : Int)) = false) ∧ (XW.bt t i == (10 : Int)) = false) ∧ (XW.bt t i == (58 : Int)) = false) ∧ (XW.bt t i == (124 : Int)) = false) ∧ letC (XW.bt t i) = false) ∧ digC (XW.bt t i) = true) ∧ endsNl t ∧ t.size ≤ (2000 : Nat) ∧ (0 : Int) ≤ i ∧ (1 : Int) ≤ (1 : Int) ∧ i + (1 : Int) < (↑t.size : Int)) ∧ (0 : Int) ≤ i ∧ i ≤ IntKind.i64.wrap (i + twN alnC t i (1 : Int)) ∧ IntKind.i64.wrap (i + twN alnC t i (1 : Int)) ≤ (↑t.size : Int)) ∧ (t.extract i.toNat (IntKind.i64.wrap (i + twN alnC t i (1 : Int))).toNat).size ≤ (4000000 : Nat)) ∧ (!nameL (bI (t.extract i.toNat (IntKind.i64.wrap (i + twN alnC t i (1 : Int))).toNat))) = false) ∧ decide (XW.bt t i < (97 : Int)) = false) ∧ (o.length + (1 : Nat)) * (40 : Nat) ≤ (140737488355328 : Nat)) ∧ (XW.bt t i == (10 : Int)) = false →
  (((0 : Nat) < t.size → endsNl t) ∧ t.size ≤ (2000 : Nat) ∧ (0 : Int) ≤ IntKind.i64.wrap (i + twN alnC t i (1 : Int)) ∧ IntKind.i64.wrap (i + twN alnC t i (1 : Int)) ≤ (↑t.size : Int) ∧ (1 : Int) ≤ no ∧ no ≤ IntKind.i64.wrap (i + twN alnC t i (1 : Int)) + (1 : Int) ∧ (1 : Int) ≤ IntKind.i64.wrap (col + twN alnC t i (1 : Int)) ∧ IntKind.i64.wrap (col + twN alnC t i (1 : Int)) ≤ IntKind.i64.wrap (i + twN alnC t i (1 : Int)) + (1 : Int) ∧ (↑(o ++ [((2 : Int), t.extract i.toNat (IntKind.i64.wrap (i + twN alnC t i (1 : Int))).toNat, no, col)]).length : Int) ≤ IntKind.i64.wrap (i + twN alnC t i (1 : Int))) ∧ rtL0.mu (t, o ++ [((2 : Int), t.extract i.toNat (IntKind.i64.wrap (i + twN alnC t i (1 : Int))).toNat, no, col)], no, IntKind.i64.wrap (col + twN alnC t i (1 : Int)), IntKind.i64.wrap (i + twN alnC t i (1 : Int))) < rtL0.mu (t, o, no, col, i) ∧ ((refAt t no (IntKind.i64.wrap (col + twN alnC t i (1 : Int))) (IntKind.i64.wrap (i + twN alnC t i (1 : Int)))).snd.fst = (0 : Int) → (refAt t no col i).snd.fst = (0 : Int) ∧ o ++ [((2 : Int), t.extract i.toNat (IntKind.i64.wrap (i + twN alnC t i (1 : Int))).toNat, no, col)] ++ (refAt t no (IntKind.i64.wrap (col + twN alnC t i (1 : Int))) (IntKind.i64.wrap (i + twN alnC t i (1 : Int)))).fst = o ++ (refAt t no col i).fst) ∧ ((refAt t no (IntKind.i64.wrap (col + twN alnC t i (1 : Int))) (IntKind.i64.wrap (i + twN alnC t i (1 : Int)))).snd.fst ≠ (0 : Int) → (refAt t no col i).snd.fst ≠ (0 : Int) ∧ (([] : List (Int × ByteArray × Int × Int)), (refAt t no (IntKind.i64.wrap (col + twN alnC t i (1 : Int))) (IntKind.i64.wrap (i + twN alnC t i (1 : Int)))).snd) = (([] : List (Int × ByteArray × Int × Int)), (refAt t no col i).snd)) ∧ True) ∧ (((((((((((((((True ∧ decide (i < (↑t.size : Int)) = true) ∧ (0 : Int) ≤ i ∧ i < (↑t.size : Int)) ∧ (XW.bt t i == (32 : Int)) = false) ∧ (XW.bt t i == (35 : Int)) = false) ∧ (XW.bt t i == (10 : Int)) = false) ∧ (XW.bt t i == (58 : Int)) = false) ∧ (XW.bt t i == (124 : Int)) = false) ∧ letC (XW.bt t i) = false) ∧ digC (XW.bt t i) = true) ∧ endsNl t ∧ t.size ≤ (2000 : Nat) ∧ (0 : Int) ≤ i ∧ (1 : Int) ≤ (1 : Int) ∧ i + (1 : Int) < (↑t.size : Int)) ∧ (0 : Int) ≤ i ∧ i ≤ IntKind.i64.wrap (i + twN alnC t i (1 : Int)) ∧ IntKind.i64.wrap (i + twN alnC t i (1 : Int)) ≤ (↑t.size : Int)) ∧ (t.extract i.toNat (IntKind.i64.wrap (i + twN alnC t i (1 : Int))).toNat).size ≤ (4000000 : Nat)) ∧ (!nameL (bI (t.extract i.toNat (IntKind.i64.wrap (i + twN alnC t i (1 : Int))).toNat))) = false) ∧ decide (XW.bt t i < (97 : Int)) = false) ∧ ¬(o.length + (1 : Nat)) * (40 : Nat) ≤ (140737488355328 : Nat) →
  False) ∧ (((((((((((True ∧ decide (i < (↑t.size : Int)) = true) ∧ (0 : Int) ≤ i ∧ i < (↑t.size : Int)) ∧ (XW.bt t i == (32 : Int)) = false) ∧ (XW.bt t i == (35 : Int)) = false) ∧ (XW.bt t i == (10 : Int)) = false) ∧ (XW.bt t i == (58 : Int)) = false) ∧ (XW.bt t i == (124 : Int)) = false) ∧ letC (XW.bt t i) = false) ∧ digC (XW.bt t i) = true) ∧ endsNl t ∧ t.size ≤ (2000 : Nat) ∧ (0 : Int) ≤ i ∧ (1 : Int) ≤ (1 : Int) ∧ i + (1 : Int) < (↑t.size : Int)) ∧ ¬((0 : Int) ≤ i ∧ i ≤ IntKind.i64.wrap (i + twN alnC t i (1 : Int)) ∧ IntKind.i64.wrap (i + twN alnC t i (1 : Int)) ≤ (↑t.size : Int)) →
  False) ∧ (((((((((True ∧ decide (i < (↑t.size : Int)) = true) ∧ (0 : Int) ≤ i ∧ i < (↑t.size : Int)) ∧ (XW.bt t i == (32 : Int)) = false) ∧ (XW.bt t i == (35 : Int)) = false) ∧ (XW.bt t i == (10 : Int)) = false) ∧ (XW.bt t i == (58 : Int)) = false) ∧ (XW.bt t i == (124 : Int)) = false) ∧ letC (XW.bt t i) = false) ∧ digC (XW.bt t i) = false →
  (refAt t no col i).snd.fst ≠ (0 : Int) ∧ (([] : List (Int × ByteArray × Int × Int)), no, col) = (([] : List (Int × ByteArray × Int × Int)), (refAt t no col i).snd)) ∧ ((True ∧ decide (i < (↑t.size : Int)) = true) ∧ ¬((0 : Int) ≤ i ∧ i < (↑t.size : Int)) → False) ∧ (True ∧ decide (i < (↑t.size : Int)) = false → (refAt t no col i).snd.fst = (0 : Int) ∧ o = o ++ (refAt t no col i).fst) ∧ (True)
theorem rtL0.eq  (t : ByteArray) (o : List (Int × ByteArray × Int × Int)) (no : Int) (col : Int) (i : Int) : rtL0.g  t o no col i = rtL0.T  t o no col i := by kernel_rfl
theorem rtL0.ok  (t : ByteArray) (o : List (Int × ByteArray × Int × Int)) (no : Int) (col : Int) (i : Int) (hx : (0 < t.size → endsNl t) ∧ t.size ≤ 2000 ∧ 0 ≤ i ∧ i ≤ t.size ∧ 1 ≤ no ∧ no ≤ i + 1 ∧ 1 ≤ col ∧ col ≤ i + 1 ∧ (o.length : Int) ≤ i) : rtL0.T  t o no col i := by
  obtain ⟨h0, h1, h2, h3, h4, h5, h6, h7, h8⟩ := hx
  by_cases hi : i < (t.size : Int)
  · have hE := h0 (by omega)
    have he := ends_at hE (j := i) h2 hi
    obtain ⟨s1, s2, s3, s4, s5, s6, s7, s8⟩ := refAt_step (no := no) (col := col) h2 hi
    have tA := fun hc => twN_tw (p := alnC) h2 hi hc
    have tN := fun hc => twN_tw (p := noNl) h2 hi hc
    have hW := word_at h2 hi
    have eA : alnC (XW.bt t i) = (letC (XW.bt t i) || digC (XW.bt t i)) := rfl
    have eN : noNl (XW.bt t i) = !(decide (XW.bt t i = 10)) := rfl
    rw [rtL0.T, wrapI64 (x := i + 1) (by omega) (by omega), wrapI64 (x := no + 1) (by omega) (by omega), wrapI64 (x := col + 1) (by omega) (by omega)]
    by_cases c1 : XW.bt t i = 32
    · rw [s1 c1]
      clear hW tA tN eA eN s1 s2 s3 s4 s5 s6 s7 s8
      ((repeat' (first | exact trivial | apply And.intro)) <;> (intro hw; (try (simp only [true_and, and_true, decide_eq_true_eq, decide_eq_false_iff_not, beq_iff_eq, bne_iff_ne, beq_eq_false_iff_ne, bne_eq_false_iff_eq, ne_eq, Bool.not_eq_true, Bool.not_eq_false, not_true_eq_false, not_false_eq_true, Bool.not_eq_eq_eq_not, Bool.not_true, Bool.not_false, forall_const, imp_self, Bool.true_eq_false, Bool.false_eq_true, reduceCtorEq] at hw)); (try first | (exfalso; omega) | exact ⟨trivial, rfl⟩ | exact (hw hx).elim | exact (hw.2 hx).elim)))
      all_goals first
        | (exfalso; omega)
        | exact hw.2.elim
        | (simp only [and_false, false_and] at hw; done)
        | exact ⟨⟨h0, h1, by omega, by omega, by omega, by omega, by omega, by omega, by (try simp only [List.length_append, List.length_cons, List.length_nil]); omega⟩, by simp only [rtL0.mu]; omega, fun h => ⟨by first | exact h | (rw [consS_2]; exact h), by first | rfl | (rw [consS_1 _ h, List.append_assoc]; done) | (rw [consS_1 _ h, List.append_assoc]; rfl)⟩, fun h => ⟨by first | exact h | (rw [consS_2]; exact h), by first | rfl | (rw [consS_22 _ h])⟩, trivial⟩
        | exact ⟨by show no ≠ 0; omega, by first | rfl | trivial⟩
        | trace_state
    by_cases c2 : XW.bt t i = 35
    · obtain ⟨t1, t2, t3, t4⟩ := tN (by rw [eN, decide_eq_false (by omega)]; rfl)
      rw [s2 c2, wrapI64 (x := i + twN noNl t i 1) (by omega) (by omega), wrapI64 (x := col + twN noNl t i 1) (by omega) (by omega)]
      have he := he (by omega)
      clear hW tA tN eA eN s1 s2 s3 s4 s5 s6 s7 s8 t1 t4
      ((repeat' (first | exact trivial | apply And.intro)) <;> (intro hw; (try (simp only [true_and, and_true, decide_eq_true_eq, decide_eq_false_iff_not, beq_iff_eq, bne_iff_ne, beq_eq_false_iff_ne, bne_eq_false_iff_eq, ne_eq, Bool.not_eq_true, Bool.not_eq_false, not_true_eq_false, not_false_eq_true, Bool.not_eq_eq_eq_not, Bool.not_true, Bool.not_false, forall_const, imp_self, Bool.true_eq_false, Bool.false_eq_true, reduceCtorEq] at hw)); (try first | (exfalso; omega) | exact ⟨trivial, rfl⟩ | exact (hw hx).elim | exact (hw.2 hx).elim)))
      all_goals first
        | (exfalso; omega)
        | exact hw.2 ⟨hE, h1, h2, by omega, he⟩
        | exact ⟨⟨h0, h1, by omega, by omega, by omega, by omega, by omega, by omega, by omega⟩, by simp only [rtL0.mu]; omega, fun h => ⟨h, rfl⟩, fun h => ⟨h, rfl⟩, trivial⟩
        | trace_state
    by_cases c3 : XW.bt t i = 10
    · rw [s3 c3]
      clear hW tA tN eA eN s1 s2 s3 s4 s5 s6 s7 s8
      ((repeat' (first | exact trivial | apply And.intro)) <;> (intro hw; (try (simp only [true_and, and_true, decide_eq_true_eq, decide_eq_false_iff_not, beq_iff_eq, bne_iff_ne, beq_eq_false_iff_ne, bne_eq_false_iff_eq, ne_eq, Bool.not_eq_true, Bool.not_eq_false, not_true_eq_false, not_false_eq_true, Bool.not_eq_eq_eq_not, Bool.not_true, Bool.not_false, forall_const, imp_self, Bool.true_eq_false, Bool.false_eq_true, reduceCtorEq] at hw)); (try first | (exfalso; omega) | exact ⟨trivial, rfl⟩ | exact (hw hx).elim | exact (hw.2 hx).elim)))
      all_goals first
        | (exfalso; omega)
        | exact hw.2.elim
        | (simp only [and_false, false_and] at hw; done)
        | exact ⟨⟨h0, h1, by omega, by omega, by omega, by omega, by omega, by omega, by (try simp only [List.length_append, List.length_cons, List.length_nil]); omega⟩, by simp only [rtL0.mu]; omega, fun h => ⟨by first | exact h | (rw [consS_2]; exact h), by first | rfl | (rw [consS_1 _ h, List.append_assoc]; done) | (rw [consS_1 _ h, List.append_assoc]; rfl)⟩, fun h => ⟨by first | exact h | (rw [consS_2]; exact h), by first | rfl | (rw [consS_22 _ h])⟩, trivial⟩
        | exact ⟨by show no ≠ 0; omega, by first | rfl | trivial⟩
        | trace_state
    by_cases c4 : XW.bt t i = 58
    · rw [s4 c4]
      clear hW tA tN eA eN s1 s2 s3 s4 s5 s6 s7 s8
      ((repeat' (first | exact trivial | apply And.intro)) <;> (intro hw; (try (simp only [true_and, and_true, decide_eq_true_eq, decide_eq_false_iff_not, beq_iff_eq, bne_iff_ne, beq_eq_false_iff_ne, bne_eq_false_iff_eq, ne_eq, Bool.not_eq_true, Bool.not_eq_false, not_true_eq_false, not_false_eq_true, Bool.not_eq_eq_eq_not, Bool.not_true, Bool.not_false, forall_const, imp_self, Bool.true_eq_false, Bool.false_eq_true, reduceCtorEq] at hw)); (try first | (exfalso; omega) | exact ⟨trivial, rfl⟩ | exact (hw hx).elim | exact (hw.2 hx).elim)))
      all_goals first
        | (exfalso; omega)
        | exact hw.2.elim
        | (simp only [and_false, false_and] at hw; done)
        | exact ⟨⟨h0, h1, by omega, by omega, by omega, by omega, by omega, by omega, by (try simp only [List.length_append, List.length_cons, List.length_nil]); omega⟩, by simp only [rtL0.mu]; omega, fun h => ⟨by first | exact h | (rw [consS_2]; exact h), by first | rfl | (rw [consS_1 _ h, List.append_assoc]; done) | (rw [consS_1 _ h, List.append_assoc]; rfl)⟩, fun h => ⟨by first | exact h | (rw [consS_2]; exact h), by first | rfl | (rw [consS_22 _ h])⟩, trivial⟩
        | exact ⟨by show no ≠ 0; omega, by first | rfl | trivial⟩
        | trace_state
    by_cases c5 : XW.bt t i = 124
    · rw [s5 c5]
      clear hW tA tN eA eN s1 s2 s3 s4 s5 s6 s7 s8
      ((repeat' (first | exact trivial | apply And.intro)) <;> (intro hw; (try (simp only [true_and, and_true, decide_eq_true_eq, decide_eq_false_iff_not, beq_iff_eq, bne_iff_ne, beq_eq_false_iff_ne, bne_eq_false_iff_eq, ne_eq, Bool.not_eq_true, Bool.not_eq_false, not_true_eq_false, not_false_eq_true, Bool.not_eq_eq_eq_not, Bool.not_true, Bool.not_false, forall_const, imp_self, Bool.true_eq_false, Bool.false_eq_true, reduceCtorEq] at hw)); (try first | (exfalso; omega) | exact ⟨trivial, rfl⟩ | exact (hw hx).elim | exact (hw.2 hx).elim)))
      all_goals first
        | (exfalso; omega)
        | exact hw.2.elim
        | (simp only [and_false, false_and] at hw; done)
        | exact ⟨⟨h0, h1, by omega, by omega, by omega, by omega, by omega, by omega, by (try simp only [List.length_append, List.length_cons, List.length_nil]); omega⟩, by simp only [rtL0.mu]; omega, fun h => ⟨by first | exact h | (rw [consS_2]; exact h), by first | rfl | (rw [consS_1 _ h, List.append_assoc]; done) | (rw [consS_1 _ h, List.append_assoc]; rfl)⟩, fun h => ⟨by first | exact h | (rw [consS_2]; exact h), by first | rfl | (rw [consS_22 _ h])⟩, trivial⟩
        | exact ⟨by show no ≠ 0; omega, by first | rfl | trivial⟩
        | trace_state
    have he := he c3
    by_cases c6 : alnC (XW.bt t i) = true
    · obtain ⟨t1, t2, t3, t4⟩ := tA c6
      obtain ⟨w1, w2, w3⟩ := hW c6
      have s6 := s6 c6
      have s7 := s7 c6
      rw [wrapI64 (x := i + twN alnC t i 1) (by omega) (by omega), wrapI64 (x := col + twN alnC t i 1) (by omega) (by omega)]
      have w4 : bI (ofB (((bI t).drop i.toNat).takeWhile alnC)) = ((bI t).drop i.toNat).takeWhile alnC := by rw [← w1]; exact w2
      simp only [w1, w4, ofB_size]
      generalize ((bI t).drop i.toNat).takeWhile alnC = W at *
      cases hn : nameL W with
      | true =>
        rw [s6 hn, w3]
        have hA : letC (XW.bt t i) = true ∨ (letC (XW.bt t i) = false ∧ digC (XW.bt t i) = true) := by
          rw [c6] at eA
          cases hl : letC (XW.bt t i) with
          | true => exact .inl rfl
          | false => rw [hl, Bool.false_or] at eA; exact .inr ⟨rfl, eA.symm⟩
        clear hW tA tN eA eN s1 s2 s3 s4 s5 s6 s7 s8 w1 w2 w3 w4 t4
        by_cases h97 : XW.bt t i < 97
        · rw [if_pos h97]
          rcases hA with hA | ⟨hA, hB⟩
          · simp only [hA]
            ((repeat' (first | exact trivial | apply And.intro)) <;> (intro hw; (try (simp only [true_and, and_true, decide_eq_true_eq, decide_eq_false_iff_not, beq_iff_eq, bne_iff_ne, beq_eq_false_iff_ne, bne_eq_false_iff_eq, ne_eq, Bool.not_eq_true, Bool.not_eq_false, not_true_eq_false, not_false_eq_true, Bool.not_eq_eq_eq_not, Bool.not_true, Bool.not_false, forall_const, imp_self, Bool.true_eq_false, Bool.false_eq_true, reduceCtorEq] at hw)); (try first | (exfalso; omega) | exact ⟨trivial, rfl⟩ | exact (hw hx).elim | exact (hw.2 hx).elim)))
            all_goals first
              | (exfalso; omega)
              | exact hw.2.elim
              | (simp only [and_false, false_and] at hw; done)
              | exact hw.2 ⟨hE, h1, h2, by omega, he⟩
              | exact hw.1.2.elim
              | exact hw.1.1.2.elim
              | exact hw.1.1.1.2.elim
              | exact hw.1.1.1.1.2.elim
              | exact ⟨⟨h0, h1, by omega, by omega, by omega, by omega, by omega, by omega, by (try simp only [List.length_append, List.length_cons, List.length_nil]); omega⟩, by simp only [rtL0.mu]; omega, fun h => ⟨by first | exact h | (rw [consS_2]; exact h), by first | rfl | (rw [consS_1 _ h, List.append_assoc]; done) | (rw [consS_1 _ h, List.append_assoc]; rfl)⟩, fun h => ⟨by first | exact h | (rw [consS_2]; exact h), by first | rfl | (rw [consS_22 _ h])⟩, trivial⟩
              | exact ⟨by show no ≠ 0; omega, by first | rfl | trivial⟩
              | trace_state
          · simp only [hA, hB]
            ((repeat' (first | exact trivial | apply And.intro)) <;> (intro hw; (try (simp only [true_and, and_true, decide_eq_true_eq, decide_eq_false_iff_not, beq_iff_eq, bne_iff_ne, beq_eq_false_iff_ne, bne_eq_false_iff_eq, ne_eq, Bool.not_eq_true, Bool.not_eq_false, not_true_eq_false, not_false_eq_true, Bool.not_eq_eq_eq_not, Bool.not_true, Bool.not_false, forall_const, imp_self, Bool.true_eq_false, Bool.false_eq_true, reduceCtorEq] at hw)); (try first | (exfalso; omega) | exact ⟨trivial, rfl⟩ | exact (hw hx).elim | exact (hw.2 hx).elim)))
            all_goals first
              | (exfalso; omega)
              | exact hw.2.elim
              | (simp only [and_false, false_and] at hw; done)
              | exact hw.2 ⟨hE, h1, h2, by omega, he⟩
              | exact hw.1.2.elim
              | exact hw.1.1.2.elim
              | exact hw.1.1.1.2.elim
              | exact hw.1.1.1.1.2.elim
              | exact ⟨⟨h0, h1, by omega, by omega, by omega, by omega, by omega, by omega, by (try simp only [List.length_append, List.length_cons, List.length_nil]); omega⟩, by simp only [rtL0.mu]; omega, fun h => ⟨by first | exact h | (rw [consS_2]; exact h), by first | rfl | (rw [consS_1 _ h, List.append_assoc]; done) | (rw [consS_1 _ h, List.append_assoc]; rfl)⟩, fun h => ⟨by first | exact h | (rw [consS_2]; exact h), by first | rfl | (rw [consS_22 _ h])⟩, trivial⟩
              | exact ⟨by show no ≠ 0; omega, by first | rfl | trivial⟩
              | trace_state
        · rw [if_neg h97]
          rcases hA with hA | ⟨hA, hB⟩
          · simp only [hA]
            ((repeat' (first | exact trivial | apply And.intro)) <;> (intro hw; (try (simp only [true_and, and_true, decide_eq_true_eq, decide_eq_false_iff_not, beq_iff_eq, bne_iff_ne, beq_eq_false_iff_ne, bne_eq_false_iff_eq, ne_eq, Bool.not_eq_true, Bool.not_eq_false, not_true_eq_false, not_false_eq_true, Bool.not_eq_eq_eq_not, Bool.not_true, Bool.not_false, forall_const, imp_self, Bool.true_eq_false, Bool.false_eq_true, reduceCtorEq] at hw)); (try first | (exfalso; omega) | exact ⟨trivial, rfl⟩ | exact (hw hx).elim | exact (hw.2 hx).elim)))
            all_goals first
              | (exfalso; omega)
              | exact hw.2.elim
              | (simp only [and_false, false_and] at hw; done)
              | exact hw.2 ⟨hE, h1, h2, by omega, he⟩
              | exact hw.1.2.elim
              | exact hw.1.1.2.elim
              | exact hw.1.1.1.2.elim
              | exact hw.1.1.1.1.2.elim
              | exact ⟨⟨h0, h1, by omega, by omega, by omega, by omega, by omega, by omega, by (try simp only [List.length_append, List.length_cons, List.length_nil]); omega⟩, by simp only [rtL0.mu]; omega, fun h => ⟨by first | exact h | (rw [consS_2]; exact h), by first | rfl | (rw [consS_1 _ h, List.append_assoc]; done) | (rw [consS_1 _ h, List.append_assoc]; rfl)⟩, fun h => ⟨by first | exact h | (rw [consS_2]; exact h), by first | rfl | (rw [consS_22 _ h])⟩, trivial⟩
              | exact ⟨by show no ≠ 0; omega, by first | rfl | trivial⟩
              | trace_state
          · simp only [hA, hB]
            ((repeat' (first | exact trivial | apply And.intro)) <;> (intro hw; (try (simp only [true_and, and_true, decide_eq_true_eq, decide_eq_false_iff_not, beq_iff_eq, bne_iff_ne, beq_eq_false_iff_ne, bne_eq_false_iff_eq, ne_eq, Bool.not_eq_true, Bool.not_eq_false, not_true_eq_false, not_false_eq_true, Bool.not_eq_eq_eq_not, Bool.not_true, Bool.not_false, forall_const, imp_self, Bool.true_eq_false, Bool.false_eq_true, reduceCtorEq] at hw)); (try first | (exfalso; omega) | exact ⟨trivial, rfl⟩ | exact (hw hx).elim | exact (hw.2 hx).elim)))
            all_goals first
              | (exfalso; omega)
              | exact hw.2.elim
              | (simp only [and_false, false_and] at hw; done)
              | exact hw.2 ⟨hE, h1, h2, by omega, he⟩
              | exact hw.1.2.elim
              | exact hw.1.1.2.elim
              | exact hw.1.1.1.2.elim
              | exact hw.1.1.1.1.2.elim
              | exact ⟨⟨h0, h1, by omega, by omega, by omega, by omega, by omega, by omega, by (try simp only [List.length_append, List.length_cons, List.length_nil]); omega⟩, by simp only [rtL0.mu]; omega, fun h => ⟨by first | exact h | (rw [consS_2]; exact h), by first | rfl | (rw [consS_1 _ h, List.append_assoc]; done) | (rw [consS_1 _ h, List.append_assoc]; rfl)⟩, fun h => ⟨by first | exact h | (rw [consS_2]; exact h), by first | rfl | (rw [consS_22 _ h])⟩, trivial⟩
              | exact ⟨by show no ≠ 0; omega, by first | rfl | trivial⟩
              | trace_state
      | false =>
        rw [s7 hn]
        have hA : letC (XW.bt t i) = true ∨ (letC (XW.bt t i) = false ∧ digC (XW.bt t i) = true) := by
          rw [c6] at eA
          cases hl : letC (XW.bt t i) with
          | true => exact .inl rfl
          | false => rw [hl, Bool.false_or] at eA; exact .inr ⟨rfl, eA.symm⟩
        clear hW tA tN eA eN s1 s2 s3 s4 s5 s6 s7 s8 w1 w2 w3 w4 t4
        rcases hA with hA | ⟨hA, hB⟩
        · simp only [hA]
          ((repeat' (first | exact trivial | apply And.intro)) <;> (intro hw; (try (simp only [true_and, and_true, decide_eq_true_eq, decide_eq_false_iff_not, beq_iff_eq, bne_iff_ne, beq_eq_false_iff_ne, bne_eq_false_iff_eq, ne_eq, Bool.not_eq_true, Bool.not_eq_false, not_true_eq_false, not_false_eq_true, Bool.not_eq_eq_eq_not, Bool.not_true, Bool.not_false, forall_const, imp_self, Bool.true_eq_false, Bool.false_eq_true, reduceCtorEq] at hw)); (try first | (exfalso; omega) | exact ⟨trivial, rfl⟩ | exact (hw hx).elim | exact (hw.2 hx).elim)))
          all_goals first
            | (exfalso; omega)
            | exact hw.2.elim
            | (simp only [and_false, false_and] at hw; done)
            | exact hw.2 ⟨hE, h1, h2, by omega, he⟩
            | exact hw.1.2.elim
            | exact hw.1.1.2.elim
            | exact hw.1.1.1.2.elim
            | exact hw.1.1.1.1.2.elim
            | exact ⟨⟨h0, h1, by omega, by omega, by omega, by omega, by omega, by omega, by (try simp only [List.length_append, List.length_cons, List.length_nil]); omega⟩, by simp only [rtL0.mu]; omega, fun h => ⟨by first | exact h | (rw [consS_2]; exact h), by first | rfl | (rw [consS_1 _ h, List.append_assoc]; done) | (rw [consS_1 _ h, List.append_assoc]; rfl)⟩, fun h => ⟨by first | exact h | (rw [consS_2]; exact h), by first | rfl | (rw [consS_22 _ h])⟩, trivial⟩
            | exact ⟨by show no ≠ 0; omega, by first | rfl | trivial⟩
            | trace_state
        · simp only [hA, hB]
          ((repeat' (first | exact trivial | apply And.intro)) <;> (intro hw; (try (simp only [true_and, and_true, decide_eq_true_eq, decide_eq_false_iff_not, beq_iff_eq, bne_iff_ne, beq_eq_false_iff_ne, bne_eq_false_iff_eq, ne_eq, Bool.not_eq_true, Bool.not_eq_false, not_true_eq_false, not_false_eq_true, Bool.not_eq_eq_eq_not, Bool.not_true, Bool.not_false, forall_const, imp_self, Bool.true_eq_false, Bool.false_eq_true, reduceCtorEq] at hw)); (try first | (exfalso; omega) | exact ⟨trivial, rfl⟩ | exact (hw hx).elim | exact (hw.2 hx).elim)))
          all_goals first
            | (exfalso; omega)
            | exact hw.2.elim
            | (simp only [and_false, false_and] at hw; done)
            | exact hw.2 ⟨hE, h1, h2, by omega, he⟩
            | exact hw.1.2.elim
            | exact hw.1.1.2.elim
            | exact hw.1.1.1.2.elim
            | exact hw.1.1.1.1.2.elim
            | exact ⟨⟨h0, h1, by omega, by omega, by omega, by omega, by omega, by omega, by (try simp only [List.length_append, List.length_cons, List.length_nil]); omega⟩, by simp only [rtL0.mu]; omega, fun h => ⟨by first | exact h | (rw [consS_2]; exact h), by first | rfl | (rw [consS_1 _ h, List.append_assoc]; done) | (rw [consS_1 _ h, List.append_assoc]; rfl)⟩, fun h => ⟨by first | exact h | (rw [consS_2]; exact h), by first | rfl | (rw [consS_22 _ h])⟩, trivial⟩
            | exact ⟨by show no ≠ 0; omega, by first | rfl | trivial⟩
            | trace_state
    · have c6 : alnC (XW.bt t i) = false := by simpa using c6
      rw [s8 c1 c2 c3 c4 c5 c6]
      rw [c6] at eA
      have hA : letC (XW.bt t i) = false := by
        cases hl : letC (XW.bt t i) with
        | false => rfl
        | true => rw [hl] at eA; cases eA
      have hB : digC (XW.bt t i) = false := by
        cases hl : digC (XW.bt t i) with
        | false => rfl
        | true => rw [hl, Bool.or_true] at eA; cases eA
      clear hW tA tN eA eN s1 s2 s3 s4 s5 s6 s7 s8
      simp only [hA, hB]
      ((repeat' (first | exact trivial | apply And.intro)) <;> (intro hw; (try (simp only [true_and, and_true, decide_eq_true_eq, decide_eq_false_iff_not, beq_iff_eq, bne_iff_ne, beq_eq_false_iff_ne, bne_eq_false_iff_eq, ne_eq, Bool.not_eq_true, Bool.not_eq_false, not_true_eq_false, not_false_eq_true, Bool.not_eq_eq_eq_not, Bool.not_true, Bool.not_false, forall_const, imp_self, Bool.true_eq_false, Bool.false_eq_true, reduceCtorEq] at hw)); (try first | (exfalso; omega) | exact ⟨trivial, rfl⟩ | exact (hw hx).elim | exact (hw.2 hx).elim)))
      all_goals first
        | (exfalso; omega)
        | exact hw.2.elim
        | (simp only [and_false, false_and] at hw; done)
        | exact ⟨⟨h0, h1, by omega, by omega, by omega, by omega, by omega, by omega, by (try simp only [List.length_append, List.length_cons, List.length_nil]); omega⟩, by simp only [rtL0.mu]; omega, fun h => ⟨by first | exact h | (rw [consS_2]; exact h), by first | rfl | (rw [consS_1 _ h, List.append_assoc]; done) | (rw [consS_1 _ h, List.append_assoc]; rfl)⟩, fun h => ⟨by first | exact h | (rw [consS_2]; exact h), by first | rfl | (rw [consS_22 _ h])⟩, trivial⟩
        | exact ⟨by show no ≠ 0; omega, by first | rfl | trivial⟩
        | trace_state
  · rw [rtL0.T, refAt_end hi]
    ((repeat' (first | exact trivial | apply And.intro)) <;> (intro hw; (try (simp only [true_and, and_true, decide_eq_true_eq, decide_eq_false_iff_not, beq_iff_eq, bne_iff_ne, beq_eq_false_iff_ne, bne_eq_false_iff_eq, ne_eq, Bool.not_eq_true, Bool.not_eq_false, not_true_eq_false, not_false_eq_true, Bool.not_eq_eq_eq_not, Bool.not_true, Bool.not_false, forall_const, imp_self, Bool.true_eq_false, Bool.false_eq_true, reduceCtorEq] at hw)); (try first | (exfalso; omega) | exact ⟨trivial, rfl⟩ | exact (hw hx).elim | exact (hw.2 hx).elim)))
    all_goals first
      | (exfalso; omega)
      | exact ⟨rfl, (List.append_nil _).symm⟩
      | trace_state
theorem rtL0.lp   : LpAt Tryd.prog 13 0 rtL0 := lp_evalH (l := [(3, rtL3), (5, rtL5)]) (lf := 1000) (fun _ => cfOf_ok (fns_cons letF.fn (fns_cons digF.fn (fns_cons rnF.fn (fns_nil _))))) (lps_cons (rtL3.lp) (lps_cons (rtL5.lp) (lps_nil _ _))) (by kernel_rfl) _ (rtL0.mu ) (fun ⟨t, o, no, col, i⟩ hx => Hid.of (rtL0.eq  t o no col i) (rtL0.ok  t o no col i hx))
def addNl (t : ByteArray) : ByteArray := if 0 < t.size ∧ ¬ XW.bt t ((t.size : Int) - 1) = 10 then t ++ nlB else t
def refS (t : ByteArray) : Scn := refAt (addNl t) 1 1 0
theorem bI_inj {a b : ByteArray} (h : bI a = bI b) : a = b := by
  have := (List.map_inj_right (fun x y e => by
    have e2 : (x.toNat : Int) = (y.toNat : Int) := e
    exact UInt8.toNat_inj.1 (by omega))).1 h
  exact ByteArray.ext (Array.ext' this)
theorem toList_bI (a b : ByteArray) : (a.toList == b.toList) = decide (bI a = bI b) := by
  rw [Bool.eq_iff_iff, beq_iff_eq, decide_eq_true_eq, toList_data, toList_data]
  constructor
  · intro h; rw [bI, bI, h]
  · intro h; rw [bI_inj h]
theorem bI_app (a b : ByteArray) : bI (a ++ b) = bI a ++ bI b := by unfold bI; rw [ByteArray.toList_data_append, List.map_append]
theorem bI_nl : bI nlB = [10] := by decide
theorem last_bI {t : ByteArray} (h : 0 < t.size) : (bI t).drop (t.size - 1) = [XW.bt t ((t.size : Int) - 1)] ∧ bI t = (bI t).take (t.size - 1) ++ [XW.bt t ((t.size : Int) - 1)] := by
  have hl := bI_len t
  have e : (bI t).drop (t.size - 1) = [XW.bt t ((t.size : Int) - 1)] := by
    have h1 := drop_int (l := bI t) 0 (i := (t.size : Int) - 1) (by omega) (by omega)
    rw [← bt_bI (by omega) (by omega), show ((t.size : Int) - 1).toNat = t.size - 1 by omega] at h1
    rw [h1, List.drop_eq_nil_of_le (by omega)]
  exact ⟨e, by rw [← e, List.take_append_drop]⟩
theorem sufS_nl {t : ByteArray} (h : 0 < t.size) : sufS t nlB = decide (XW.bt t ((t.size : Int) - 1) = 10) := by
  have h1 : nlB.size = 1 := rfl
  rw [sufS, h1, decide_eq_true (show 1 ≤ t.size by omega), Bool.true_and, toList_bI, bI_ext, (last_bI h).1, bI_nl, decide_eq_decide]
  simp
theorem add_bI {t : ByteArray} (h : 0 < t.size) : bI (addNl t) = bI (tsufS t nlB) ++ [10] := by
  have h1 : nlB.size = 1 := rfl
  rw [addNl, tsufS, sufS_nl h, h1]
  by_cases hc : XW.bt t ((t.size : Int) - 1) = 10
  · rw [if_neg (fun h => h.2 hc), if_pos (decide_eq_true hc), ext_toB, bI_toB, List.drop_zero, List.map_take]
    have := (last_bI h).2
    rw [hc] at this
    exact this
  · rw [if_pos ⟨h, hc⟩, if_neg (by simpa using hc), bI_app, bI_nl]
theorem add_ends {t : ByteArray} (h : 0 < t.size) : endsNl (addNl t) := by
  rw [endsNl, add_bI h, List.getLast?_append]; rfl
theorem add_size (t : ByteArray) : (addNl t).size ≤ t.size + 1 := by
  rw [addNl]; split
  · rw [ByteArray.size_append]; exact Nat.le_refl _
  · omega
theorem sp_split : ∀ l : List UInt8, ((spU 10 l).1 ++ [(spU 10 l).2]).map (fun q => q.map fun b => (b.toNat : Int)) = splitL (l.map fun b => (b.toNat : Int))
  | [] => rfl
  | c :: r => by
    have ih := sp_split r
    have hc : (c = 10) = ((c.toNat : Int) = 10) := by
      apply propext
      exact ⟨fun h => by rw [h]; rfl, fun h => UInt8.toNat_inj.1 (by have : (10 : UInt8).toNat = 10 := rfl; omega)⟩
    rw [spU, List.map_cons, splitL]
    by_cases h : c = 10
    · rw [if_pos h, if_pos (hc ▸ h), ← ih]; rfl
    · rw [if_neg h, if_neg (hc ▸ h), ← ih]
      cases hq : (spU 10 r).1 with
      | nil => rfl
      | cons p t => rfl
theorem pieces_split (s : ByteArray) : (piecesP s nlB).map bI = splitL (bI s) := by
  have h10 : nlB.get! 0 = 10 := rfl
  rw [piecesP, initP, lastP, h10, bI, ← sp_split, List.map_append, List.map_append, List.map_map]
  congr 1
theorem ref_is {t : ByteArray} (h : 0 < t.size) : refS t = linesAt (piecesP (tsufS t nlB) nlB) 0 := by
  have hj : joinL (splitL (bI (tsufS t nlB))) = bI (addNl t) := by rw [join_split, add_bI h]
  have hl := bI_len (addNl t)
  rw [refS, refAt, linesAt, pieces_split, show Int.toNat 0 = 0 from rfl, List.drop_zero, List.drop_zero, ← hj, refL_fuel _ ((joinL (splitL (bI (tsufS t nlB)))).length + 2) _ _ _ (by rw [hj]; omega) (by omega)]
  exact ref_lines _ (split_no _) _ 1 (by decide) (Nat.le_refl _)
theorem ref_nil {t : ByteArray} (h : t.size = 0) : refS t = ([], 0, 0) := by
  have : addNl t = t := by rw [addNl, if_neg (by omega)]
  rw [refS, this]; exact refAt_end (by omega)
theorem ref_fact (t : ByteArray) : ((refS t).2.1 = 0 → (refS t).2.2 = 0) ∧ (¬ (refS t).2.1 = 0 → (refS t).1 = [] ∧ 0 < (refS t).2.1) := by
  rcases Nat.eq_zero_or_pos t.size with h | h
  · rw [ref_nil h]; exact ⟨fun _ => rfl, fun h => absurd rfl h⟩
  · rw [ref_is h]; exact linesL_fact _ _ (by decide)
theorem tok_ref (t : ByteArray) : tokS t = ((refS t).1, (refS t).2.1, (refS t).2.2, if (refS t).2.1 = 0 then 0 else 2) := by
  rcases Nat.eq_zero_or_pos t.size with h | h
  · rw [ref_nil h, tokS, if_pos h]; rfl
  · rw [ref_is h, tokS, if_neg (by omega)]
noncomputable def rtF  : Face := ⟨13, [.v .str], fun t => some (t.size ≤ 900),
  [⟨false, [.v (.sl TK), .v (.int .i64), .v (.int .i64)], fun t => refS t, fun t => none⟩]⟩
noncomputable def rtF.g  (t : ByteArray) : Prop := GoodFA Tryd.prog (cfOf [letF]) [(0, rtL0)] 1000 rtF t
noncomputable def rtF.T (t : ByteArray) : Prop := (((((True ∧ decide ((↑t.size : Int) > (0 : Int)) = true) ∧ (0 : Int) ≤ IntKind.i64.wrap ((↑t.size : Int) - (1 : Int)) ∧ IntKind.i64.wrap ((↑t.size : Int) - (1 : Int)) < (↑t.size : Int)) ∧ (XW.bt t (IntKind.i64.wrap ((↑t.size : Int) - (1 : Int))) != (10 : Int)) = true) ∧ t.size + (nlB).size ≤ (9223372036854775807 : Nat)) ∧ ¬(((0 : Nat) < (t ++ nlB).size → endsNl (t ++ nlB)) ∧ (t ++ nlB).size ≤ (2000 : Nat) ∧ (0 : Int) ≤ (0 : Int) ∧ (0 : Int) ≤ (↑(t ++ nlB).size : Int) ∧ (1 : Int) ≤ (1 : Int) ∧ (1 : Int) ≤ (0 : Int) + (1 : Int) ∧ (1 : Int) ≤ (1 : Int) ∧ (1 : Int) ≤ (0 : Int) + (1 : Int) ∧ (↑(0 : Nat) : Int) ≤ (0 : Int)) →
  False) ∧ ((((((True ∧ decide ((↑t.size : Int) > (0 : Int)) = true) ∧ (0 : Int) ≤ IntKind.i64.wrap ((↑t.size : Int) - (1 : Int)) ∧ IntKind.i64.wrap ((↑t.size : Int) - (1 : Int)) < (↑t.size : Int)) ∧ (XW.bt t (IntKind.i64.wrap ((↑t.size : Int) - (1 : Int))) != (10 : Int)) = true) ∧ t.size + (nlB).size ≤ (9223372036854775807 : Nat)) ∧ ((0 : Nat) < (t ++ nlB).size → endsNl (t ++ nlB)) ∧ (t ++ nlB).size ≤ (2000 : Nat) ∧ (0 : Int) ≤ (0 : Int) ∧ (0 : Int) ≤ (↑(t ++ nlB).size : Int) ∧ (1 : Int) ≤ (1 : Int) ∧ (1 : Int) ≤ (0 : Int) + (1 : Int) ∧ (1 : Int) ≤ (1 : Int) ∧ (1 : Int) ≤ (0 : Int) + (1 : Int) ∧ (↑(0 : Nat) : Int) ≤ (0 : Int)) ∧ (refAt (t ++ nlB) (1 : Int) (1 : Int) (0 : Int)).snd.fst = (0 : Int) →
  True ∧ ([] ++ (refAt (t ++ nlB) (1 : Int) (1 : Int) (0 : Int)).fst, (0 : Int), (0 : Int)) = refS t) ∧ ((((((True ∧ decide ((↑t.size : Int) > (0 : Int)) = true) ∧ (0 : Int) ≤ IntKind.i64.wrap ((↑t.size : Int) - (1 : Int)) ∧ IntKind.i64.wrap ((↑t.size : Int) - (1 : Int)) < (↑t.size : Int)) ∧ (XW.bt t (IntKind.i64.wrap ((↑t.size : Int) - (1 : Int))) != (10 : Int)) = true) ∧ t.size + (nlB).size ≤ (9223372036854775807 : Nat)) ∧ ((0 : Nat) < (t ++ nlB).size → endsNl (t ++ nlB)) ∧ (t ++ nlB).size ≤ (2000 : Nat) ∧ (0 : Int) ≤ (0 : Int) ∧ (0 : Int) ≤ (↑(t ++ nlB).size : Int) ∧ (1 : Int) ≤ (1 : Int) ∧ (1 : Int) ≤ (0 : Int) + (1 : Int) ∧ (1 : Int) ≤ (1 : Int) ∧ (1 : Int) ≤ (0 : Int) + (1 : Int) ∧ (↑(0 : Nat) : Int) ≤ (0 : Int)) ∧ (refAt (t ++ nlB) (1 : Int) (1 : Int) (0 : Int)).snd.fst ≠ (0 : Int) →
  True ∧ (([] : List (Int × ByteArray × Int × Int)), (refAt (t ++ nlB) (1 : Int) (1 : Int) (0 : Int)).snd) = refS t) ∧ ((((True ∧ decide ((↑t.size : Int) > (0 : Int)) = true) ∧ (0 : Int) ≤ IntKind.i64.wrap ((↑t.size : Int) - (1 : Int)) ∧ IntKind.i64.wrap ((↑t.size : Int) - (1 : Int)) < (↑t.size : Int)) ∧ (XW.bt t (IntKind.i64.wrap ((↑t.size : Int) - (1 : Int))) != (10 : Int)) = true) ∧ ¬t.size + (nlB).size ≤ (9223372036854775807 : Nat) →
  False) ∧ ((((True ∧ decide ((↑t.size : Int) > (0 : Int)) = true) ∧ (0 : Int) ≤ IntKind.i64.wrap ((↑t.size : Int) - (1 : Int)) ∧ IntKind.i64.wrap ((↑t.size : Int) - (1 : Int)) < (↑t.size : Int)) ∧ (XW.bt t (IntKind.i64.wrap ((↑t.size : Int) - (1 : Int))) != (10 : Int)) = false) ∧ ¬(((0 : Nat) < t.size → endsNl t) ∧ t.size ≤ (2000 : Nat) ∧ (0 : Int) ≤ (0 : Int) ∧ (0 : Int) ≤ (↑t.size : Int) ∧ (1 : Int) ≤ (1 : Int) ∧ (1 : Int) ≤ (0 : Int) + (1 : Int) ∧ (1 : Int) ≤ (1 : Int) ∧ (1 : Int) ≤ (0 : Int) + (1 : Int) ∧ (↑(0 : Nat) : Int) ≤ (0 : Int)) →
  False) ∧ (((((True ∧ decide ((↑t.size : Int) > (0 : Int)) = true) ∧ (0 : Int) ≤ IntKind.i64.wrap ((↑t.size : Int) - (1 : Int)) ∧ IntKind.i64.wrap ((↑t.size : Int) - (1 : Int)) < (↑t.size : Int)) ∧ (XW.bt t (IntKind.i64.wrap ((↑t.size : Int) - (1 : Int))) != (10 : Int)) = false) ∧ ((0 : Nat) < t.size → endsNl t) ∧ t.size ≤ (2000 : Nat) ∧ (0 : Int) ≤ (0 : Int) ∧ (0 : Int) ≤ (↑t.size : Int) ∧ (1 : Int) ≤ (1 : Int) ∧ (1 : Int) ≤ (0 : Int) + (1 : Int) ∧ (1 : Int) ≤ (1 : Int) ∧ (1 : Int) ≤ (0 : Int) + (1 : Int) ∧ (↑(0 : Nat) : Int) ≤ (0 : Int)) ∧ (refAt t (1 : Int) (1 : Int) (0 : Int)).snd.fst = (0 : Int) →
  True ∧ ([] ++ (refAt t (1 : Int) (1 : Int) (0 : Int)).fst, (0 : Int), (0 : Int)) = refS t) ∧ (((((True ∧ decide ((↑t.size : Int) > (0 : Int)) = true) ∧ (0 : Int) ≤ IntKind.i64.wrap ((↑t.size : Int) - (1 : Int)) ∧ IntKind.i64.wrap ((↑t.size : Int) - (1 : Int)) < (↑t.size : Int)) ∧ (XW.bt t (IntKind.i64.wrap ((↑t.size : Int) - (1 : Int))) != (10 : Int)) = false) ∧ ((0 : Nat) < t.size → endsNl t) ∧ t.size ≤ (2000 : Nat) ∧ (0 : Int) ≤ (0 : Int) ∧ (0 : Int) ≤ (↑t.size : Int) ∧ (1 : Int) ≤ (1 : Int) ∧ (1 : Int) ≤ (0 : Int) + (1 : Int) ∧ (1 : Int) ≤ (1 : Int) ∧ (1 : Int) ≤ (0 : Int) + (1 : Int) ∧ (↑(0 : Nat) : Int) ≤ (0 : Int)) ∧ (refAt t (1 : Int) (1 : Int) (0 : Int)).snd.fst ≠ (0 : Int) →
  True ∧ (([] : List (Int × ByteArray × Int × Int)), (refAt t (1 : Int) (1 : Int) (0 : Int)).snd) = refS t) ∧ ((True ∧ decide ((↑t.size : Int) > (0 : Int)) = true) ∧ ¬((0 : Int) ≤ IntKind.i64.wrap ((↑t.size : Int) - (1 : Int)) ∧ IntKind.i64.wrap ((↑t.size : Int) - (1 : Int)) < (↑t.size : Int)) → False) ∧ ((True ∧ decide ((↑t.size : Int) > (0 : Int)) = false) ∧ ¬(((0 : Nat) < t.size → endsNl t) ∧ t.size ≤ (2000 : Nat) ∧ (0 : Int) ≤ (0 : Int) ∧ (0 : Int) ≤ (↑t.size : Int) ∧ (1 : Int) ≤ (1 : Int) ∧ (1 : Int) ≤ (0 : Int) + (1 : Int) ∧ (1 : Int) ≤ (1 : Int) ∧ (1 : Int) ≤ (0 : Int) + (1 : Int) ∧ (↑(0 : Nat) : Int) ≤ (0 : Int)) →
  False) ∧ (((True ∧ decide ((↑t.size : Int) > (0 : Int)) = false) ∧ ((0 : Nat) < t.size → endsNl t) ∧ t.size ≤ (2000 : Nat) ∧ (0 : Int) ≤ (0 : Int) ∧ (0 : Int) ≤ (↑t.size : Int) ∧ (1 : Int) ≤ (1 : Int) ∧ (1 : Int) ≤ (0 : Int) + (1 : Int) ∧ (1 : Int) ≤ (1 : Int) ∧ (1 : Int) ≤ (0 : Int) + (1 : Int) ∧ (↑(0 : Nat) : Int) ≤ (0 : Int)) ∧ (refAt t (1 : Int) (1 : Int) (0 : Int)).snd.fst = (0 : Int) →
  True ∧ ([] ++ (refAt t (1 : Int) (1 : Int) (0 : Int)).fst, (0 : Int), (0 : Int)) = refS t) ∧ (((True ∧ decide ((↑t.size : Int) > (0 : Int)) = false) ∧ ((0 : Nat) < t.size → endsNl t) ∧ t.size ≤ (2000 : Nat) ∧ (0 : Int) ≤ (0 : Int) ∧ (0 : Int) ≤ (↑t.size : Int) ∧ (1 : Int) ≤ (1 : Int) ∧ (1 : Int) ≤ (0 : Int) + (1 : Int) ∧ (1 : Int) ≤ (1 : Int) ∧ (1 : Int) ≤ (0 : Int) + (1 : Int) ∧ (↑(0 : Nat) : Int) ≤ (0 : Int)) ∧ (refAt t (1 : Int) (1 : Int) (0 : Int)).snd.fst ≠ (0 : Int) →
  True ∧ (([] : List (Int × ByteArray × Int × Int)), (refAt t (1 : Int) (1 : Int) (0 : Int)).snd) = refS t) ∧ (True)
theorem rtF.eq  (t : ByteArray) : rtF.g  t = rtF.T  t := by kernel_rfl
theorem rtF.ok  (t : ByteArray) (hx : t.size ≤ 900) : rtF.T  t := by
  obtain ⟨f1, f2⟩ := ref_fact t
  have hs := add_size t
  have h1 : nlB.size = 1 := rfl
  have hR : refAt (addNl t) 1 1 0 = refS t := rfl
  by_cases hp : 0 < t.size
  · have hE := add_ends hp
    rw [rtF.T, wrapI64 (x := (t.size : Int) - 1) (by omega) (by omega)]
    by_cases hc : XW.bt t ((t.size : Int) - 1) = 10
    · have e : addNl t = t := by rw [addNl, if_neg (fun h => h.2 hc)]
      rw [e] at hR hE
      rw [hR]
      ((repeat' (first | exact trivial | apply And.intro)) <;> (intro hw; (try (simp only [true_and, and_true, decide_eq_true_eq, decide_eq_false_iff_not, beq_iff_eq, bne_iff_ne, beq_eq_false_iff_ne, bne_eq_false_iff_eq, ne_eq, Bool.not_eq_true, Bool.not_eq_false, not_true_eq_false, not_false_eq_true, Bool.not_eq_eq_eq_not, Bool.not_true, Bool.not_false, forall_const, imp_self, Bool.true_eq_false, Bool.false_eq_true, reduceCtorEq] at hw)); (try first | (exfalso; omega) | exact ⟨trivial, rfl⟩ | exact (hw hx).elim | exact (hw.2 hx).elim)))
      all_goals first
        | (exfalso; omega)
        | exact hw.2 ⟨fun _ => hE, by omega, by omega, by omega, by omega, by omega, by omega, by omega, by omega⟩
        | exact ⟨trivial, Prod.ext rfl (Prod.ext hw.2.symm (f1 hw.2).symm)⟩
        | exact ⟨trivial, Prod.ext (f2 hw.2).1.symm rfl⟩
        | trace_state
    · have e : t ++ nlB = addNl t := by rw [addNl, if_pos ⟨hp, hc⟩]
      rw [e, hR]
      ((repeat' (first | exact trivial | apply And.intro)) <;> (intro hw; (try (simp only [true_and, and_true, decide_eq_true_eq, decide_eq_false_iff_not, beq_iff_eq, bne_iff_ne, beq_eq_false_iff_ne, bne_eq_false_iff_eq, ne_eq, Bool.not_eq_true, Bool.not_eq_false, not_true_eq_false, not_false_eq_true, Bool.not_eq_eq_eq_not, Bool.not_true, Bool.not_false, forall_const, imp_self, Bool.true_eq_false, Bool.false_eq_true, reduceCtorEq] at hw)); (try first | (exfalso; omega) | exact ⟨trivial, rfl⟩ | exact (hw hx).elim | exact (hw.2 hx).elim)))
      all_goals first
        | (exfalso; omega)
        | exact hw.2 ⟨fun _ => hE, by omega, by omega, by omega, by omega, by omega, by omega, by omega, by omega⟩
        | exact ⟨trivial, Prod.ext rfl (Prod.ext hw.2.symm (f1 hw.2).symm)⟩
        | exact ⟨trivial, Prod.ext (f2 hw.2).1.symm rfl⟩
        | trace_state
  · have e : addNl t = t := by rw [addNl, if_neg (fun h => hp h.1)]
    rw [e] at hR
    rw [rtF.T, hR]
    ((repeat' (first | exact trivial | apply And.intro)) <;> (intro hw; (try (simp only [true_and, and_true, decide_eq_true_eq, decide_eq_false_iff_not, beq_iff_eq, bne_iff_ne, beq_eq_false_iff_ne, bne_eq_false_iff_eq, ne_eq, Bool.not_eq_true, Bool.not_eq_false, not_true_eq_false, not_false_eq_true, Bool.not_eq_eq_eq_not, Bool.not_true, Bool.not_false, forall_const, imp_self, Bool.true_eq_false, Bool.false_eq_true, reduceCtorEq] at hw)); (try first | (exfalso; omega) | exact ⟨trivial, rfl⟩ | exact (hw hx).elim | exact (hw.2 hx).elim)))
    all_goals first
      | (exfalso; omega)
      | exact hw.2 ⟨fun h => absurd h hp, by omega, by omega, by omega, by omega, by omega, by omega, by omega, by omega⟩
      | exact ⟨trivial, Prod.ext rfl (Prod.ext hw.2.symm (f1 hw.2).symm)⟩
      | exact ⟨trivial, Prod.ext (f2 hw.2).1.symm rfl⟩
      | trace_state
theorem rtF.fn   : FnOk Tryd.prog rtF := fn_evalH (l := [(0, rtL0)]) (lf := 1000) (fun _ => cfOf_ok (fns_cons letF.fn (fns_nil _))) _ (lps_cons (rtL0.lp) (lps_nil _ _)) (by kernel_rfl) (fun t hx => Hid.of (rtF.eq  t) (rtF.ok  t hx))
noncomputable def keepF  : Face := ⟨15, [.v .str, .v (.int .i64)], fun (s, n) => some (0 ≤ n ∧ n ≤ 1000),
  [⟨false, [.v .str], fun (s, n) => s.extract 0 (min s.size n.toNat), fun (s, n) => none⟩]⟩
noncomputable def keepF.g  (s : ByteArray) (n : Int) : Prop := GoodFA Tryd.prog (cfOf []) [] 1000 keepF (s, n)
noncomputable def keepF.T (s : ByteArray) (n : Int) : Prop := (True ∧ (0 : Int) ≤ (0 : Int) ∧ ((0 : Int) ≤ if n < (↑s.size : Int) then n else (↑s.size : Int)) ∧ (if n < (↑s.size : Int) then n else (↑s.size : Int)) ≤ (↑s.size : Int) →
  True ∧ s.extract (Int.toNat (0 : Int)) (if n < (↑s.size : Int) then n else (↑s.size : Int)).toNat = s.extract (0 : Nat) (min s.size n.toNat)) ∧ (True ∧ ¬((0 : Int) ≤ (0 : Int) ∧ ((0 : Int) ≤ if n < (↑s.size : Int) then n else (↑s.size : Int)) ∧ (if n < (↑s.size : Int) then n else (↑s.size : Int)) ≤ (↑s.size : Int)) → False) ∧ (True)
theorem keepF.eq  (s : ByteArray) (n : Int) : keepF.g  s n = keepF.T  s n := by kernel_rfl
theorem keepF.ok  (s : ByteArray) (n : Int) (hx : 0 ≤ n ∧ n ≤ 1000) : keepF.T  s n := by
  obtain ⟨h1, h2⟩ := hx
  have e : (if n < (s.size : Int) then n else (s.size : Int)) = ((min s.size n.toNat : Nat) : Int) := by
    by_cases h : n < (s.size : Int)
    · rw [if_pos h]; omega
    · rw [if_neg h]; omega
  rw [keepF.T, e]
  ((repeat' (first | exact trivial | apply And.intro)) <;> (intro hw; (try (simp only [true_and, and_true, decide_eq_true_eq, decide_eq_false_iff_not, beq_iff_eq, bne_iff_ne, beq_eq_false_iff_ne, bne_eq_false_iff_eq, ne_eq, Bool.not_eq_true, Bool.not_eq_false, not_true_eq_false, not_false_eq_true, Bool.not_eq_eq_eq_not, Bool.not_true, Bool.not_false, forall_const, imp_self, Bool.true_eq_false, Bool.false_eq_true, reduceCtorEq] at hw)); (try first | (exfalso; omega) | exact ⟨trivial, rfl⟩ | exact (hw hx).elim | exact (hw.2 hx).elim)))
  all_goals first
    | (exfalso; omega)
    | exact ⟨trivial, rfl⟩
    | trace_state
theorem keepF.fn   : FnOk Tryd.prog keepF := fn_evalH (l := []) (lf := 1000) (fun _ => cfOf_ok (fns_nil _)) _ (lps_nil _ _) (by kernel_rfl) (fun ⟨s, n⟩ hx => Hid.of (keepF.eq  s n) (keepF.ok  s n hx))
noncomputable def within  : Face := ⟨10, [.v (.int .i64), .v (.int .i64)], fun (v, n) => some (0 < n ∧ n ≤ 9223372036854775807),
  [⟨false, [.v (.int .i64)], fun (v, n) => v % n, fun (v, n) => none⟩]⟩
noncomputable def within.g  (v : Int) (n : Int) : Prop := GoodFA Tryd.prog (cfOf []) [] 1000 within (v, n)
noncomputable def within.T (v : Int) (n : Int) : Prop := (True ∧ decide (n < (1 : Int)) = true → True ∧ (0 : Int) = v % n) ∧ (((True ∧ decide (n < (1 : Int)) = false) ∧ n ≠ (0 : Int)) ∧ decide (v.tmod n < (0 : Int)) = true → True ∧ IntKind.i64.wrap (v.tmod n + n) = v % n) ∧ (((True ∧ decide (n < (1 : Int)) = false) ∧ n ≠ (0 : Int)) ∧ decide (v.tmod n < (0 : Int)) = false → True ∧ v.tmod n = v % n) ∧ ((True ∧ decide (n < (1 : Int)) = false) ∧ ¬n ≠ (0 : Int) → False) ∧ (True)
theorem within.eq  (v : Int) (n : Int) : within.g  v n = within.T  v n := by kernel_rfl
theorem within.ok  (v : Int) (n : Int) (hx : 0 < n ∧ n ≤ 9223372036854775807) : within.T  v n := by
  obtain ⟨h1, h2⟩ := hx
  have hr := Int.emod_nonneg v (show n ≠ 0 by omega)
  have hl := Int.emod_lt_of_pos v h1
  have ht : v.tmod n = v % n - ((if 0 ≤ v ∨ n ∣ v then 0 else n.natAbs : Nat) : Int) := Int.tmod_eq_emod
  ((repeat' (first | exact trivial | apply And.intro)) <;> (intro hw; (try (simp only [true_and, and_true, decide_eq_true_eq, decide_eq_false_iff_not, beq_iff_eq, bne_iff_ne, beq_eq_false_iff_ne, bne_eq_false_iff_eq, ne_eq, Bool.not_eq_true, Bool.not_eq_false, not_true_eq_false, not_false_eq_true, Bool.not_eq_eq_eq_not, Bool.not_true, Bool.not_false, forall_const, imp_self, Bool.true_eq_false, Bool.false_eq_true, reduceCtorEq] at hw)); (try first | (exfalso; omega) | exact ⟨trivial, rfl⟩ | exact (hw hx).elim | exact (hw.2 hx).elim)))
  · refine ⟨trivial, ?_⟩
    by_cases hc : 0 ≤ v ∨ n ∣ v
    · rw [if_pos hc] at ht; omega
    · rw [if_neg hc] at ht
      rw [wrapI64 (by omega) (by omega)]; omega
  · refine ⟨trivial, ?_⟩
    by_cases hc : 0 ≤ v ∨ n ∣ v
    · rw [if_pos hc] at ht; omega
    · rw [if_neg hc] at ht; omega
theorem within.fn   : FnOk Tryd.prog within := fn_evalH (l := []) (lf := 1000) (fun _ => cfOf_ok (fns_nil _)) _ (lps_nil _ _) (by kernel_rfl) (fun ⟨v, n⟩ hx => Hid.of (within.eq  v n) (within.ok  v n hx))
def pickT (ls : List ByteArray) : List Int → ByteArray → ByteArray
  | [], t => t
  | p :: r, t => pickT ls r (t ++ ls.getD (p % (ls.length : Int)).toNat ByteArray.empty)
def okW (ls : List ByteArray) : Prop := ls.length = 22 ∧ ∀ p ∈ ls, p.size ≤ 11
theorem pickT_size {ls : List ByteArray} (h : okW ls) : ∀ (l : List Int) (t : ByteArray), (pickT ls l t).size ≤ t.size + 11 * l.length
  | [], t => Nat.le_add_right _ _
  | p :: r, t => by
    have ih := pickT_size h r (t ++ ls.getD (p % (ls.length : Int)).toNat ByteArray.empty)
    have hl := Int.emod_lt_of_pos p (show (0 : Int) < (ls.length : Int) by rw [h.1]; decide)
    have hr := Int.emod_nonneg p (show (ls.length : Int) ≠ 0 by rw [h.1]; decide)
    have hi : (p % (ls.length : Int)).toNat < ls.length := by omega
    have := h.2 _ (List.getElem_mem hi)
    rw [ByteArray.size_append, List.getD_eq_getElem?_getD, List.getElem?_eq_getElem hi, Option.getD_some] at ih
    rw [pickT, List.length_cons, List.getD_eq_getElem?_getD, List.getElem?_eq_getElem hi, Option.getD_some]
    omega
noncomputable def txL  : LFace := ⟨[1, 7, 8, 9], [.v (.sl (.int .i64)), .v (.sl .str), .v .str, .v (.int .i64)], fun (l, ls, t, i) => some (okW ls ∧ 0 ≤ i ∧ i ≤ 16 ∧ (t.size : Int) ≤ 11 * i),
  [⟨.normal, [8], [.v .str], fun (l, ls, t, i) => pickT ls ((l.take 16).drop i.toNat) t, fun (l, ls, t, i) => none⟩]⟩
noncomputable def txL.mu  : dens txL.sh → Nat := fun (l, ls, t, i) => (16 - i).toNat
noncomputable def txL.g  (l : List Int) (ls : List ByteArray) (t : ByteArray) (i : Int) : Prop := GoodLA Tryd.prog (cfOf [within]) [] 1000 12 0 txL txL.mu (l, ls, t, i)
noncomputable def txL.T (l : List Int) (ls : List ByteArray) (t : ByteArray) (i : Int) : Prop := ((((((True ∧ l.length ≤ (9223372036854775807 : Nat)) ∧ decide (i < (↑l.length : Int)) = true) ∧ decide (i < (16 : Int)) = true) ∧ (0 : Int) ≤ i ∧ i < (↑l.length : Int)) ∧ ls.length ≤ (9223372036854775807 : Nat)) ∧ ¬((0 : Int) < (↑ls.length : Int) ∧ (↑ls.length : Int) ≤ (9223372036854775807 : Int)) →
  False) ∧ ((((((((True ∧ l.length ≤ (9223372036854775807 : Nat)) ∧ decide (i < (↑l.length : Int)) = true) ∧ decide (i < (16 : Int)) = true) ∧ (0 : Int) ≤ i ∧ i < (↑l.length : Int)) ∧ ls.length ≤ (9223372036854775807 : Nat)) ∧ (0 : Int) < (↑ls.length : Int) ∧ (↑ls.length : Int) ≤ (9223372036854775807 : Int)) ∧ (0 : Int) ≤ l.getD i.toNat (0 : Int) % (↑ls.length : Int) ∧ l.getD i.toNat (0 : Int) % (↑ls.length : Int) < (↑ls.length : Int)) ∧ t.size + (ls.getD (l.getD i.toNat (0 : Int) % (↑ls.length : Int)).toNat ByteArray.empty).size ≤ (9223372036854775807 : Nat) →
  (okW ls ∧ (0 : Int) ≤ IntKind.i64.wrap (i + (1 : Int)) ∧ IntKind.i64.wrap (i + (1 : Int)) ≤ (16 : Int) ∧ (↑(t ++ ls.getD (l.getD i.toNat (0 : Int) % (↑ls.length : Int)).toNat ByteArray.empty).size : Int) ≤ (11 : Int) * IntKind.i64.wrap (i + (1 : Int))) ∧ txL.mu (l, ls, t ++ ls.getD (l.getD i.toNat (0 : Int) % (↑ls.length : Int)).toNat ByteArray.empty, IntKind.i64.wrap (i + (1 : Int))) < txL.mu (l, ls, t, i) ∧ (True → True ∧ pickT ls (List.drop (IntKind.i64.wrap (i + (1 : Int))).toNat (List.take (16 : Nat) l)) (t ++ ls.getD (l.getD i.toNat (0 : Int) % (↑ls.length : Int)).toNat ByteArray.empty) = pickT ls (List.drop i.toNat (List.take (16 : Nat) l)) t) ∧ True) ∧ ((((((((True ∧ l.length ≤ (9223372036854775807 : Nat)) ∧ decide (i < (↑l.length : Int)) = true) ∧ decide (i < (16 : Int)) = true) ∧ (0 : Int) ≤ i ∧ i < (↑l.length : Int)) ∧ ls.length ≤ (9223372036854775807 : Nat)) ∧ (0 : Int) < (↑ls.length : Int) ∧ (↑ls.length : Int) ≤ (9223372036854775807 : Int)) ∧ (0 : Int) ≤ l.getD i.toNat (0 : Int) % (↑ls.length : Int) ∧ l.getD i.toNat (0 : Int) % (↑ls.length : Int) < (↑ls.length : Int)) ∧ ¬t.size + (ls.getD (l.getD i.toNat (0 : Int) % (↑ls.length : Int)).toNat ByteArray.empty).size ≤ (9223372036854775807 : Nat) →
  False) ∧ (((((((True ∧ l.length ≤ (9223372036854775807 : Nat)) ∧ decide (i < (↑l.length : Int)) = true) ∧ decide (i < (16 : Int)) = true) ∧ (0 : Int) ≤ i ∧ i < (↑l.length : Int)) ∧ ls.length ≤ (9223372036854775807 : Nat)) ∧ (0 : Int) < (↑ls.length : Int) ∧ (↑ls.length : Int) ≤ (9223372036854775807 : Int)) ∧ ¬((0 : Int) ≤ l.getD i.toNat (0 : Int) % (↑ls.length : Int) ∧ l.getD i.toNat (0 : Int) % (↑ls.length : Int) < (↑ls.length : Int)) →
  False) ∧ ((((True ∧ l.length ≤ (9223372036854775807 : Nat)) ∧ decide (i < (↑l.length : Int)) = true) ∧ decide (i < (16 : Int)) = true) ∧ ¬((0 : Int) ≤ i ∧ i < (↑l.length : Int)) → False) ∧ (((True ∧ l.length ≤ (9223372036854775807 : Nat)) ∧ decide (i < (↑l.length : Int)) = true) ∧ decide (i < (16 : Int)) = false → True ∧ t = pickT ls (List.drop i.toNat (List.take (16 : Nat) l)) t) ∧ ((True ∧ l.length ≤ (9223372036854775807 : Nat)) ∧ decide (i < (↑l.length : Int)) = false → True ∧ t = pickT ls (List.drop i.toNat (List.take (16 : Nat) l)) t) ∧ (True)
theorem txL.eq  (l : List Int) (ls : List ByteArray) (t : ByteArray) (i : Int) : txL.g  l ls t i = txL.T  l ls t i := by kernel_rfl
theorem txL.ok  (l : List Int) (ls : List ByteArray) (t : ByteArray) (i : Int) (hx : okW ls ∧ 0 ≤ i ∧ i ≤ 16 ∧ (t.size : Int) ≤ 11 * i) : txL.T  l ls t i := by
  obtain ⟨⟨h0, h1⟩, h2, h3, h4⟩ := hx
  rw [txL.T, wrapI64 (x := i + 1) (by omega) (by omega)]
  by_cases hi : i < (l.length : Int) ∧ i < 16
  · have hl := Int.emod_lt_of_pos (l.getD i.toNat 0) (show (0 : Int) < (ls.length : Int) by rw [h0]; decide)
    have hr := Int.emod_nonneg (l.getD i.toNat 0) (show (ls.length : Int) ≠ 0 by rw [h0]; decide)
    have hk : (l.getD i.toNat 0 % (ls.length : Int)).toNat < ls.length := by omega
    have hs : (ls.getD (l.getD i.toNat 0 % (ls.length : Int)).toNat ByteArray.empty).size ≤ 11 := by
      rw [List.getD_eq_getElem?_getD, List.getElem?_eq_getElem hk]; exact h1 _ (List.getElem_mem hk)
    have hd : (l.take 16).drop i.toNat = l.getD i.toNat 0 :: (l.take 16).drop (i + 1).toNat := by
      have e := drop_int (l := l.take 16) 0 h2 (by rw [List.length_take]; omega)
      rw [List.getD_eq_getElem?_getD, List.getElem?_take_of_lt (by omega), ← List.getD_eq_getElem?_getD] at e
      exact e
    rw [hd, pickT, ByteArray.size_append]
    generalize ls.getD (l.getD i.toNat 0 % (ls.length : Int)).toNat ByteArray.empty = q at *
    generalize l.getD i.toNat 0 % (ls.length : Int) = k at *
    ((repeat' (first | exact trivial | apply And.intro)) <;> (intro hw; (try (simp only [true_and, and_true, decide_eq_true_eq, decide_eq_false_iff_not, beq_iff_eq, bne_iff_ne, beq_eq_false_iff_ne, bne_eq_false_iff_eq, ne_eq, Bool.not_eq_true, Bool.not_eq_false, not_true_eq_false, not_false_eq_true, Bool.not_eq_eq_eq_not, Bool.not_true, Bool.not_false, forall_const, imp_self, Bool.true_eq_false, Bool.false_eq_true, reduceCtorEq] at hw)); (try first | (exfalso; omega) | exact ⟨trivial, rfl⟩ | exact (hw hx).elim | exact (hw.2 hx).elim)))
    all_goals first
      | (exfalso; omega)
      | exact ⟨⟨⟨h0, h1⟩, by omega, by omega, by omega⟩, by simp only [txL.mu]; omega, fun _ => ⟨trivial, rfl⟩, trivial⟩
      | trace_state
  · rw [show (l.take 16).drop i.toNat = [] from List.drop_eq_nil_of_le (by rw [List.length_take]; omega), pickT]
    ((repeat' (first | exact trivial | apply And.intro)) <;> (intro hw; (try (simp only [true_and, and_true, decide_eq_true_eq, decide_eq_false_iff_not, beq_iff_eq, bne_iff_ne, beq_eq_false_iff_ne, bne_eq_false_iff_eq, ne_eq, Bool.not_eq_true, Bool.not_eq_false, not_true_eq_false, not_false_eq_true, Bool.not_eq_eq_eq_not, Bool.not_true, Bool.not_false, forall_const, imp_self, Bool.true_eq_false, Bool.false_eq_true, reduceCtorEq] at hw)); (try first | (exfalso; omega) | exact ⟨trivial, rfl⟩ | exact (hw hx).elim | exact (hw.2 hx).elim)))
    all_goals first
      | (exfalso; omega)
      | exact ⟨trivial, trivial⟩
      | trace_state
theorem txL.lp   : LpAt Tryd.prog 12 0 txL := lp_evalH (l := []) (lf := 1000) (fun _ => cfOf_ok (fns_cons within.fn (fns_nil _))) (lps_nil _ _) (by kernel_rfl) _ (txL.mu ) (fun ⟨l, ls, t, i⟩ hx => Hid.of (txL.eq  l ls t i) (txL.ok  l ls t i hx))
def wordsW : List ByteArray := [⟨#[83]⟩, ⟨#[97]⟩, ⟨#[65, 98, 99]⟩, ⟨#[98, 49]⟩, ⟨#[58]⟩, ⟨#[124]⟩, ⟨#[32]⟩, ⟨#[32, 32]⟩, ⟨#[10]⟩, ⟨#[35, 32, 110, 111, 32, 58, 32, 124, 32, 65, 10]⟩, ⟨#[83, 58, 32, 97, 32, 83, 32, 124, 32, 98, 10]⟩, ⟨#[65, 58]⟩, ⟨#[84]⟩, ⟨#[97, 98, 99, 100, 101, 102, 103, 104]⟩, ⟨#[97, 98, 99, 100, 101, 102, 103, 104, 105]⟩, ⟨#[49, 97]⟩, ⟨#[120, 57, 90]⟩, ⟨#[35]⟩, ⟨#[59]⟩, ⟨#[195, 169]⟩, ⟨#[9]⟩, ⟨#[65, 98, 95]⟩]
theorem wordsW_ok : okW wordsW := ⟨rfl, by decide⟩
def textS (s : ByteArray) (l : List Int) (r : Bool) : ByteArray := if r = true then s.extract 0 (min s.size 90) else pickT wordsW (l.take 16) ⟨#[]⟩
theorem textS_size (s : ByteArray) (l : List Int) (r : Bool) : (textS s l r).size ≤ 200 := by
  rw [textS]; split
  · rw [ByteArray.size_extract]; omega
  · have := pickT_size wordsW_ok (l.take 16) ⟨#[]⟩
    have h2 : (l.take 16).length ≤ 16 := List.length_take_le _ _
    have h3 : (ByteArray.mk #[]).size = 0 := rfl
    omega
noncomputable def textF  : Face := ⟨12, [.v .str, .v (.sl (.int .i64)), .v .bool], fun (s, l, r) => none,
  [⟨false, [.v .str], fun (s, l, r) => textS s l r, fun (s, l, r) => none⟩]⟩
noncomputable def textF.g  (s : ByteArray) (l : List Int) (r : Bool) : Prop := GoodFA Tryd.prog (cfOf [keepF]) [(0, txL)] 1000 textF (s, l, r)
noncomputable def textF.T (s : ByteArray) (l : List Int) (r : Bool) : Prop := ((True ∧ r = true) ∧ ¬((0 : Int) ≤ (90 : Int) ∧ (90 : Int) ≤ (1000 : Int)) → False) ∧ ((True ∧ r = true) ∧ (0 : Int) ≤ (90 : Int) ∧ (90 : Int) ≤ (1000 : Int) → True ∧ s.extract (0 : Nat) (min s.size (Int.toNat (90 : Int))) = textS s l r) ∧ ((True ∧ r = false) ∧ ¬(okW [ByteArray.mk #[(83 : UInt8)], ByteArray.mk #[(97 : UInt8)], ByteArray.mk #[(65 : UInt8), (98 : UInt8), (99 : UInt8)], ByteArray.mk #[(98 : UInt8), (49 : UInt8)], ByteArray.mk #[(58 : UInt8)], ByteArray.mk #[(124 : UInt8)], ByteArray.mk #[(32 : UInt8)], ByteArray.mk #[(32 : UInt8), (32 : UInt8)], nlB, ByteArray.mk #[(35 : UInt8), (32 : UInt8), (110 : UInt8), (111 : UInt8), (32 : UInt8), (58 : UInt8), (32 : UInt8), (124 : UInt8), (32 : UInt8), (65 : UInt8), (10 : UInt8)], ByteArray.mk #[(83 : UInt8), (58 : UInt8), (32 : UInt8), (97 : UInt8), (32 : UInt8), (83 : UInt8), (32 : UInt8), (124 : UInt8), (32 : UInt8), (98 : UInt8), (10 : UInt8)], ByteArray.mk #[(65 : UInt8), (58 : UInt8)], ByteArray.mk #[(84 : UInt8)], ByteArray.mk #[(97 : UInt8), (98 : UInt8), (99 : UInt8), (100 : UInt8), (101 : UInt8), (102 : UInt8), (103 : UInt8), (104 : UInt8)], ByteArray.mk #[(97 : UInt8), (98 : UInt8), (99 : UInt8), (100 : UInt8), (101 : UInt8), (102 : UInt8), (103 : UInt8), (104 : UInt8), (105 : UInt8)], ByteArray.mk #[(49 : UInt8), (97 : UInt8)], ByteArray.mk #[(120 : UInt8), (57 : UInt8), (90 : UInt8)], ByteArray.mk #[(35 : UInt8)], ByteArray.mk #[(59 : UInt8)], ByteArray.mk #[(195 : UInt8), (169 : UInt8)], ByteArray.mk #[(9 : UInt8)], ByteArray.mk #[(65 : UInt8), (98 : UInt8), (95 : UInt8)]] ∧ (0 : Int) ≤ (0 : Int) ∧ (0 : Int) ≤ (16 : Int) ∧ (↑(ByteArray.mk #[]).size : Int) ≤ (11 : Int) * (0 : Int)) →
  False) ∧ ((True ∧ r = false) ∧ okW [ByteArray.mk #[(83 : UInt8)], ByteArray.mk #[(97 : UInt8)], ByteArray.mk #[(65 : UInt8), (98 : UInt8), (99 : UInt8)], ByteArray.mk #[(98 : UInt8), (49 : UInt8)], ByteArray.mk #[(58 : UInt8)], ByteArray.mk #[(124 : UInt8)], ByteArray.mk #[(32 : UInt8)], ByteArray.mk #[(32 : UInt8), (32 : UInt8)], nlB, ByteArray.mk #[(35 : UInt8), (32 : UInt8), (110 : UInt8), (111 : UInt8), (32 : UInt8), (58 : UInt8), (32 : UInt8), (124 : UInt8), (32 : UInt8), (65 : UInt8), (10 : UInt8)], ByteArray.mk #[(83 : UInt8), (58 : UInt8), (32 : UInt8), (97 : UInt8), (32 : UInt8), (83 : UInt8), (32 : UInt8), (124 : UInt8), (32 : UInt8), (98 : UInt8), (10 : UInt8)], ByteArray.mk #[(65 : UInt8), (58 : UInt8)], ByteArray.mk #[(84 : UInt8)], ByteArray.mk #[(97 : UInt8), (98 : UInt8), (99 : UInt8), (100 : UInt8), (101 : UInt8), (102 : UInt8), (103 : UInt8), (104 : UInt8)], ByteArray.mk #[(97 : UInt8), (98 : UInt8), (99 : UInt8), (100 : UInt8), (101 : UInt8), (102 : UInt8), (103 : UInt8), (104 : UInt8), (105 : UInt8)], ByteArray.mk #[(49 : UInt8), (97 : UInt8)], ByteArray.mk #[(120 : UInt8), (57 : UInt8), (90 : UInt8)], ByteArray.mk #[(35 : UInt8)], ByteArray.mk #[(59 : UInt8)], ByteArray.mk #[(195 : UInt8), (169 : UInt8)], ByteArray.mk #[(9 : UInt8)], ByteArray.mk #[(65 : UInt8), (98 : UInt8), (95 : UInt8)]] ∧ (0 : Int) ≤ (0 : Int) ∧ (0 : Int) ≤ (16 : Int) ∧ (↑(ByteArray.mk #[]).size : Int) ≤ (11 : Int) * (0 : Int) →
  True ∧ pickT [ByteArray.mk #[(83 : UInt8)], ByteArray.mk #[(97 : UInt8)], ByteArray.mk #[(65 : UInt8), (98 : UInt8), (99 : UInt8)], ByteArray.mk #[(98 : UInt8), (49 : UInt8)], ByteArray.mk #[(58 : UInt8)], ByteArray.mk #[(124 : UInt8)], ByteArray.mk #[(32 : UInt8)], ByteArray.mk #[(32 : UInt8), (32 : UInt8)], nlB, ByteArray.mk #[(35 : UInt8), (32 : UInt8), (110 : UInt8), (111 : UInt8), (32 : UInt8), (58 : UInt8), (32 : UInt8), (124 : UInt8), (32 : UInt8), (65 : UInt8), (10 : UInt8)], ByteArray.mk #[(83 : UInt8), (58 : UInt8), (32 : UInt8), (97 : UInt8), (32 : UInt8), (83 : UInt8), (32 : UInt8), (124 : UInt8), (32 : UInt8), (98 : UInt8), (10 : UInt8)], ByteArray.mk #[(65 : UInt8), (58 : UInt8)], ByteArray.mk #[(84 : UInt8)], ByteArray.mk #[(97 : UInt8), (98 : UInt8), (99 : UInt8), (100 : UInt8), (101 : UInt8), (102 : UInt8), (103 : UInt8), (104 : UInt8)], ByteArray.mk #[(97 : UInt8), (98 : UInt8), (99 : UInt8), (100 : UInt8), (101 : UInt8), (102 : UInt8), (103 : UInt8), (104 : UInt8), (105 : UInt8)], ByteArray.mk #[(49 : UInt8), (97 : UInt8)], ByteArray.mk #[(120 : UInt8), (57 : UInt8), (90 : UInt8)], ByteArray.mk #[(35 : UInt8)], ByteArray.mk #[(59 : UInt8)], ByteArray.mk #[(195 : UInt8), (169 : UInt8)], ByteArray.mk #[(9 : UInt8)], ByteArray.mk #[(65 : UInt8), (98 : UInt8), (95 : UInt8)]] (List.drop (Int.toNat (0 : Int)) (List.take (16 : Nat) l)) (ByteArray.mk #[]) = textS s l r) ∧ (True)
theorem textF.eq  (s : ByteArray) (l : List Int) (r : Bool) : textF.g  s l r = textF.T  s l r := by kernel_rfl
theorem textF.ok  (s : ByteArray) (l : List Int) (r : Bool) : textF.T  s l r := by
  have hk := wordsW_ok
  have h0 : ((ByteArray.mk #[]).size : Int) ≤ 11 * 0 := by decide
  rw [textF.T]
  ((repeat' (first | exact trivial | apply And.intro)) <;> (intro hw; (try (simp only [true_and, and_true, decide_eq_true_eq, decide_eq_false_iff_not, beq_iff_eq, bne_iff_ne, beq_eq_false_iff_ne, bne_eq_false_iff_eq, ne_eq, Bool.not_eq_true, Bool.not_eq_false, not_true_eq_false, not_false_eq_true, Bool.not_eq_eq_eq_not, Bool.not_true, Bool.not_false, forall_const, imp_self, Bool.true_eq_false, Bool.false_eq_true, reduceCtorEq] at hw)); (try first | (exfalso; omega) | exact ⟨trivial, rfl⟩ | exact (hw hx).elim | exact (hw.2 hx).elim)))
  all_goals first
    | (exfalso; omega)
    | exact hw.2 ⟨hk, by omega, by omega, h0⟩
    | exact ⟨trivial, by rw [textS, if_pos hw.1]; rfl⟩
    | exact ⟨trivial, by rw [textS, if_neg (by rw [hw.1]; exact Bool.false_ne_true)]; rfl⟩
    | trace_state
theorem textF.fn   : FnOk Tryd.prog textF := fn_evalH (l := [(0, txL)]) (lf := 1000) (fun _ => cfOf_ok (fns_cons keepF.fn (fns_nil _))) _ (lps_cons (txL.lp) (lps_nil _ _)) (by kernel_rfl) (fun ⟨s, l, r⟩ hx => Hid.of (textF.eq  s l r) (textF.ok  s l r))
end Go.Proofs.YtcmffeaoailoiaaDoor.D
