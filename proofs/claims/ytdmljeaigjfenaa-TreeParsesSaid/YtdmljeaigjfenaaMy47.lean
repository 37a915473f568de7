/- Texts that the proof of a law rests on, put together: part 47. -/
import Derived.Test.YtdmljeaigjfenaaMy46
import Derived.Test.YtdmljeaigjfenaaProg
namespace Go.Proofs.Ytdmljeaigjfenaa.D
open Go Go.EV Go.TL Go.Proofs
set_option linter.unusedVariables false
set_option linter.unusedSimpArgs false
set_option maxRecDepth 100000
def begS (s p : ByteArray) : Bool := decide (p.size ≤ s.size) && ((s.extract 0 p.size).toList == p.toList)
noncomputable def hpre  : Face := ⟨66, [.v .str, .v .str], fun (s, p) => none,
  [⟨false, [.v .bool], fun (s, p) => begS s p, fun (s, p) => none⟩]⟩
noncomputable def hpre.g  (s : ByteArray) (p : ByteArray) : Prop := GoodFA Try.prog (cfOf []) [] 1000 hpre (s, p)
noncomputable def hpre.T (s : ByteArray) (p : ByteArray) : Prop := ((True ∧ decide ((↑s.size : Int) ≥ (↑p.size : Int)) = true) ∧ (0 : Int) ≤ (0 : Int) ∧ (0 : Int) ≤ (↑p.size : Int) ∧ (↑p.size : Int) ≤ (↑s.size : Int) → True ∧ ((s.extract (Int.toNat (0 : Int)) (↑p.size : Int).toNat).toList == p.toList) = begS s p) ∧ ((True ∧ decide ((↑s.size : Int) ≥ (↑p.size : Int)) = true) ∧ ¬((0 : Int) ≤ (0 : Int) ∧ (0 : Int) ≤ (↑p.size : Int) ∧ (↑p.size : Int) ≤ (↑s.size : Int)) → False) ∧ (True ∧ decide ((↑s.size : Int) ≥ (↑p.size : Int)) = false → True ∧ false = begS s p) ∧ (True)
theorem hpre.eq  (s : ByteArray) (p : ByteArray) : hpre.g  s p = hpre.T  s p := by kernel_rfl
theorem hpre.ok  (s : ByteArray) (p : ByteArray) : hpre.T  s p := by
  rw [hpre.T, begS]
  ((repeat' (first | exact trivial | apply And.intro)) <;> (intro hw; (try (simp only [true_and, and_true, decide_eq_true_eq, decide_eq_false_iff_not, beq_iff_eq, bne_iff_ne, beq_eq_false_iff_ne, bne_eq_false_iff_eq, ne_eq, Bool.not_eq_true, Bool.not_eq_false, not_true_eq_false, not_false_eq_true, Bool.not_eq_eq_eq_not, Bool.not_true, Bool.not_false, forall_const, imp_self, Bool.true_eq_false, Bool.false_eq_true, reduceCtorEq] at hw)); (try first | (exfalso; omega) | exact ⟨trivial, rfl⟩ | exact (hw hx).elim | exact (hw.2 hx).elim)))
  · refine ⟨trivial, ?_⟩
    rw [decide_eq_true (show p.size ≤ s.size by omega), Bool.true_and]; rfl
  · refine ⟨trivial, ?_⟩
    rw [decide_eq_false (show ¬ p.size ≤ s.size by omega), Bool.false_and]
theorem hpre.fn   : FnOk Try.prog hpre := fn_evalH (l := []) (lf := 1000) (fun _ => cfOf_ok (fns_nil _)) _ (lps_nil _ _) (by kernel_rfl) (fun ⟨s, p⟩ hx => Hid.of (hpre.eq  s p) (hpre.ok  s p))
noncomputable def hpre2  : Face := ⟨55, [.v .str, .v .str], fun (s, p) => none,
  [⟨false, [.v .bool], fun (s, p) => begS s p, fun (s, p) => none⟩]⟩
noncomputable def hpre2.g  (s : ByteArray) (p : ByteArray) : Prop := GoodFA Try.prog (cfOf [hpre]) [] 1000 hpre2 (s, p)
noncomputable def hpre2.T (s : ByteArray) (p : ByteArray) : Prop := (True → True ∧ begS s p = begS s p) ∧ (True)
theorem hpre2.eq  (s : ByteArray) (p : ByteArray) : hpre2.g  s p = hpre2.T  s p := by kernel_rfl
theorem hpre2.ok  (s : ByteArray) (p : ByteArray) : hpre2.T  s p := by
  rw [hpre2.T]
  ((repeat' (first | exact trivial | apply And.intro)) <;> (intro hw; (try (simp only [true_and, and_true, decide_eq_true_eq, decide_eq_false_iff_not, beq_iff_eq, bne_iff_ne, beq_eq_false_iff_ne, bne_eq_false_iff_eq, ne_eq, Bool.not_eq_true, Bool.not_eq_false, not_true_eq_false, not_false_eq_true, Bool.not_eq_eq_eq_not, Bool.not_true, Bool.not_false, forall_const, imp_self, Bool.true_eq_false, Bool.false_eq_true, reduceCtorEq] at hw)); (try first | (exfalso; omega) | exact ⟨trivial, rfl⟩ | exact (hw hx).elim | exact (hw.2 hx).elim)))
theorem hpre2.fn   : FnOk Try.prog hpre2 := fn_evalH (l := []) (lf := 1000) (fun _ => cfOf_ok (fns_cons hpre.fn (fns_nil _))) _ (lps_nil _ _) (by kernel_rfl) (fun ⟨s, p⟩ hx => Hid.of (hpre2.eq  s p) (hpre2.ok  s p))
noncomputable def cutp  : Face := ⟨77, [.v .str, .v .str], fun (s, p) => none,
  [⟨false, [.v .str, .v .bool], fun (s, p) => (s.extract p.size s.size, true), fun (s, p) => some (begS s p = true)⟩,
   ⟨false, [.v .str, .v .bool], fun (s, p) => (s, false), fun (s, p) => some (begS s p = false)⟩]⟩
noncomputable def cutp.g  (s : ByteArray) (p : ByteArray) : Prop := GoodFA Try.prog (cfOf [hpre]) [] 1000 cutp (s, p)
noncomputable def cutp.T (s : ByteArray) (p : ByteArray) : Prop := (True ∧ (!begS s p) = true → begS s p = true ∧ (s, false) = (s.extract p.size s.size, true) ∨ begS s p = false ∧ (s, false) = (s, false)) ∧ ((True ∧ (!begS s p) = false) ∧ (0 : Int) ≤ (↑p.size : Int) ∧ (↑p.size : Int) ≤ (↑s.size : Int) ∧ (↑s.size : Int) ≤ (↑s.size : Int) →
  begS s p = true ∧ (s.extract (↑p.size : Int).toNat (↑s.size : Int).toNat, true) = (s.extract p.size s.size, true) ∨ begS s p = false ∧ (s.extract (↑p.size : Int).toNat (↑s.size : Int).toNat, true) = (s, false)) ∧ ((True ∧ (!begS s p) = false) ∧ ¬((0 : Int) ≤ (↑p.size : Int) ∧ (↑p.size : Int) ≤ (↑s.size : Int) ∧ (↑s.size : Int) ≤ (↑s.size : Int)) → False) ∧ (True)
theorem cutp.eq  (s : ByteArray) (p : ByteArray) : cutp.g  s p = cutp.T  s p := by kernel_rfl
theorem cutp.ok  (s : ByteArray) (p : ByteArray) : cutp.T  s p := by
  rw [cutp.T]
  ((repeat' (first | exact trivial | apply And.intro)) <;> (intro hw; (try (simp only [true_and, and_true, decide_eq_true_eq, decide_eq_false_iff_not, beq_iff_eq, bne_iff_ne, beq_eq_false_iff_ne, bne_eq_false_iff_eq, ne_eq, Bool.not_eq_true, Bool.not_eq_false, not_true_eq_false, not_false_eq_true, Bool.not_eq_eq_eq_not, Bool.not_true, Bool.not_false, forall_const, imp_self, Bool.true_eq_false, Bool.false_eq_true, reduceCtorEq] at hw)); (try first | (exfalso; omega) | exact ⟨trivial, rfl⟩ | exact (hw hx).elim | exact (hw.2 hx).elim)))
  · exact .inr ⟨hw, rfl⟩
  · exact .inl ⟨hw.1, rfl⟩
  · have h := hw.1
    rw [begS, Bool.and_eq_true, decide_eq_true_eq] at h
    exact hw.2 ⟨by omega, by omega, by omega⟩
theorem cutp.fn   : FnOk Try.prog cutp := fn_evalH (l := []) (lf := 1000) (fun _ => cfOf_ok (fns_cons hpre.fn (fns_nil _))) _ (lps_nil _ _) (by kernel_rfl) (fun ⟨s, p⟩ hx => Hid.of (cutp.eq  s p) (cutp.ok  s p))
noncomputable def cutp2  : Face := ⟨69, [.v .str, .v .str], fun (s, p) => none,
  [⟨false, [.v .str, .v .bool], fun (s, p) => (s.extract p.size s.size, true), fun (s, p) => some (begS s p = true)⟩,
   ⟨false, [.v .str, .v .bool], fun (s, p) => (s, false), fun (s, p) => some (begS s p = false)⟩]⟩
noncomputable def cutp2.g  (s : ByteArray) (p : ByteArray) : Prop := GoodFA Try.prog (cfOf [cutp]) [] 1000 cutp2 (s, p)
noncomputable def cutp2.T (s : ByteArray) (p : ByteArray) : Prop := (True ∧ begS s p = true → begS s p = true ∧ (s.extract p.size s.size, true) = (s.extract p.size s.size, true) ∨ begS s p = false ∧ (s.extract p.size s.size, true) = (s, false)) ∧ (True ∧ begS s p = false → begS s p = true ∧ (s, false) = (s.extract p.size s.size, true) ∨ begS s p = false ∧ (s, false) = (s, false)) ∧ (True)
theorem cutp2.eq  (s : ByteArray) (p : ByteArray) : cutp2.g  s p = cutp2.T  s p := by kernel_rfl
theorem cutp2.ok  (s : ByteArray) (p : ByteArray) : cutp2.T  s p := by
  rw [cutp2.T]
  ((repeat' (first | exact trivial | apply And.intro)) <;> (intro hw; (try (simp only [true_and, and_true, decide_eq_true_eq, decide_eq_false_iff_not, beq_iff_eq, bne_iff_ne, beq_eq_false_iff_ne, bne_eq_false_iff_eq, ne_eq, Bool.not_eq_true, Bool.not_eq_false, not_true_eq_false, not_false_eq_true, Bool.not_eq_eq_eq_not, Bool.not_true, Bool.not_false, forall_const, imp_self, Bool.true_eq_false, Bool.false_eq_true, reduceCtorEq] at hw)); (try first | (exfalso; omega) | exact ⟨trivial, rfl⟩ | exact (hw hx).elim | exact (hw.2 hx).elim)))
  · exact .inl ⟨hw, rfl⟩
  · exact .inr ⟨hw, rfl⟩
theorem cutp2.fn   : FnOk Try.prog cutp2 := fn_evalH (l := []) (lf := 1000) (fun _ => cfOf_ok (fns_cons cutp.fn (fns_nil _))) _ (lps_nil _ _) (by kernel_rfl) (fun ⟨s, p⟩ hx => Hid.of (cutp2.eq  s p) (cutp2.ok  s p))
noncomputable def needF  : Face := ⟨40, [.v .bool], fun h => none,
  [⟨false, [], fun h => (), fun h => some (h = true)⟩,
   ⟨true, [.k 72], fun h => (), fun h => some (h = false)⟩]⟩
noncomputable def needF.g  (h : Bool) : Prop := GoodFA Try.prog (cfOf []) [] 1000 needF h
noncomputable def needF.T (h : Bool) : Prop := (True ∧ (!h) = true → h = false ∧ () = ()) ∧ (True ∧ (!h) = false → h = true ∧ () = ()) ∧ (True)
theorem needF.eq  (h : Bool) : needF.g  h = needF.T  h := by kernel_rfl
theorem needF.ok  (h : Bool) : needF.T  h := by
  rw [needF.T]
  ((repeat' (first | exact trivial | apply And.intro)) <;> (intro hw; (try (simp only [true_and, and_true, decide_eq_true_eq, decide_eq_false_iff_not, beq_iff_eq, bne_iff_ne, beq_eq_false_iff_ne, bne_eq_false_iff_eq, ne_eq, Bool.not_eq_true, Bool.not_eq_false, not_true_eq_false, not_false_eq_true, Bool.not_eq_eq_eq_not, Bool.not_true, Bool.not_false, forall_const, imp_self, Bool.true_eq_false, Bool.false_eq_true, reduceCtorEq] at hw)); (try first | (exfalso; omega) | exact ⟨trivial, rfl⟩ | exact (hw hx).elim | exact (hw.2 hx).elim)))
  · exact ⟨hw, rfl⟩
  · exact ⟨hw, rfl⟩
theorem needF.fn   : FnOk Try.prog needF := fn_evalH (l := []) (lf := 1000) (fun _ => cfOf_ok (fns_nil _)) _ (lps_nil _ _) (by kernel_rfl) (fun h hx => Hid.of (needF.eq  h) (needF.ok  h))
noncomputable def takeF  : Face := ⟨57, [.box 75 [.v (.sl .str), .v (.sl .str), .v (.sl PR), .v .str, .v (.int .i64)], .v .str], fun (b, p) => none,
  [⟨false, [.box 75 [.v (.sl .str), .v (.sl .str), .v (.sl PR), .v .str, .v (.int .i64)]], fun (b, p) => (b.1, b.2.1, b.2.2.1, b.2.2.2.1.extract p.size b.2.2.2.1.size, b.2.2.2.2), fun (b, p) => some (begS b.2.2.2.1 p = true)⟩,
   ⟨true, [.box 75 [.un, .un, .un, .un, .un], .k 72], fun (b, p) => (((), (), (), (), ()), ()), fun (b, p) => some (begS b.2.2.2.1 p = false)⟩]⟩
noncomputable def takeF.g  (b : List ByteArray × List ByteArray × (List (Int × List Int)) × ByteArray × Int) (p : ByteArray) : Prop := GoodFA Try.prog (cfOf [cutp2, needF]) [] 1000 takeF (b, p)
noncomputable def takeF.T (b : List ByteArray × List ByteArray × List (Int × List Int) × ByteArray × Int) (p : ByteArray) : Prop := ((True ∧ begS b.2.2.2.1 p = true) ∧ true = true →
  begS b.2.2.2.1 p = true ∧ (b.1, b.2.1, b.2.2.1, ByteArray.extract b.2.2.2.1 p.size (ByteArray.size b.2.2.2.1), b.2.2.2.2) = (b.1, b.2.1, b.2.2.1, ByteArray.extract b.2.2.2.1 p.size (ByteArray.size b.2.2.2.1), b.2.2.2.2)) ∧ ((True ∧ begS b.2.2.2.1 p = true) ∧ true = false → begS b.2.2.2.1 p = false ∧ (((), (), (), (), ()), ()) = (((), (), (), (), ()), ())) ∧ ((True ∧ begS b.2.2.2.1 p = false) ∧ false = true → begS b.2.2.2.1 p = true ∧ b = (b.1, b.2.1, b.2.2.1, ByteArray.extract b.2.2.2.1 p.size (ByteArray.size b.2.2.2.1), b.2.2.2.2)) ∧ ((True ∧ begS b.2.2.2.1 p = false) ∧ false = false → begS b.2.2.2.1 p = false ∧ (((), (), (), (), ()), ()) = (((), (), (), (), ()), ())) ∧ (True)
theorem takeF.eq  (b : List ByteArray × List ByteArray × (List (Int × List Int)) × ByteArray × Int) (p : ByteArray) : takeF.g  b p = takeF.T  b p := by kernel_rfl
theorem takeF.ok  (b : List ByteArray × List ByteArray × (List (Int × List Int)) × ByteArray × Int) (p : ByteArray) : takeF.T  b p := by
  rw [takeF.T]
  ((repeat' (first | exact trivial | apply And.intro)) <;> (intro hw; (try (simp only [true_and, and_true, decide_eq_true_eq, decide_eq_false_iff_not, beq_iff_eq, bne_iff_ne, beq_eq_false_iff_ne, bne_eq_false_iff_eq, ne_eq, Bool.not_eq_true, Bool.not_eq_false, not_true_eq_false, not_false_eq_true, Bool.not_eq_eq_eq_not, Bool.not_true, Bool.not_false, forall_const, imp_self, Bool.true_eq_false, Bool.false_eq_true, reduceCtorEq] at hw)); (try first | (exfalso; omega) | exact ⟨trivial, rfl⟩ | exact (hw hx).elim | exact (hw.2 hx).elim)))
  · exact ⟨hw, rfl⟩
  · exact hw.2.elim
  · exact hw.2.elim
  · exact ⟨hw, rfl⟩
theorem takeF.fn   : FnOk Try.prog takeF := fn_evalH (l := []) (lf := 1000) (fun _ => cfOf_ok (fns_cons cutp2.fn (fns_cons needF.fn (fns_nil _)))) _ (lps_nil _ _) (by kernel_rfl) (fun ⟨b, p⟩ hx => Hid.of (takeF.eq  b p) (takeF.ok  b p))
def ixF (v : ByteArray) : List ByteArray → Int → Int
  | [], _ => -1
  | a :: r, i => if v.toList = a.toList then i else ixF v r (i + 1)
theorem ixF_ge (v : ByteArray) : ∀ (l : List ByteArray) (i : Int), 0 ≤ i → ixF v l i = -1 ∨ (i ≤ ixF v l i ∧ ixF v l i < i + (l.length : Int))
  | [], i, _ => .inl rfl
  | a :: r, i, h => by
    rw [ixF]
    split
    · right; simp only [List.length_cons]; omega
    · rcases ixF_ge v r (i + 1) (by omega) with e | e
      · exact .inl e
      · right; simp only [List.length_cons]; omega
noncomputable def ixL0  : LFace := ⟨[0, 1, 7, 8], [.v (.sl .str), .v .str, .v (.int .i64), .v (.int .i64)], fun (l, v, n, i) => some (n = l.length ∧ 0 ≤ i ∧ i ≤ n ∧ l.length ≤ 9223372036854775807),
  [⟨.normal, [], [], fun (l, v, n, i) => (), fun (l, v, n, i) => some (ixF v (l.drop i.toNat) i = -1)⟩,
   ⟨.ret, [4], [.v (.int .i64)], fun (l, v, n, i) => ixF v (l.drop i.toNat) i, fun (l, v, n, i) => some (0 ≤ ixF v (l.drop i.toNat) i)⟩]⟩
noncomputable def ixL0.mu  : dens ixL0.sh → Nat := fun (l, v, n, i) => (n - i).toNat
noncomputable def ixL0.g  (l : List ByteArray) (v : ByteArray) (n : Int) (i : Int) : Prop := GoodLA Try.prog (cfOf []) [] 1000 76 0 ixL0 ixL0.mu (l, v, n, i)
noncomputable def ixL0.T (l : List ByteArray) (v : ByteArray) (n : Int) (i : Int) : Prop := (((True ∧ decide (i < n) = true) ∧ (0 : Int) ≤ i ∧ i < (↑l.length : Int)) ∧ (v.toList == (l.getD i.toNat ByteArray.empty).toList) = true → (0 : Int) ≤ ixF v (List.drop i.toNat l) i ∧ i = ixF v (List.drop i.toNat l) i) ∧ (((True ∧ decide (i < n) = true) ∧ (0 : Int) ≤ i ∧ i < (↑l.length : Int)) ∧ (v.toList == (l.getD i.toNat ByteArray.empty).toList) = false →
  (n = (↑l.length : Int) ∧ (0 : Int) ≤ IntKind.i64.wrap (i + (1 : Int)) ∧ IntKind.i64.wrap (i + (1 : Int)) ≤ n ∧ l.length ≤ (9223372036854775807 : Nat)) ∧ ixL0.mu (l, v, n, IntKind.i64.wrap (i + (1 : Int))) < ixL0.mu (l, v, n, i) ∧ (ixF v (List.drop (IntKind.i64.wrap (i + (1 : Int))).toNat l) (IntKind.i64.wrap (i + (1 : Int))) = (-1 : Int) → ixF v (List.drop i.toNat l) i = (-1 : Int) ∧ () = ()) ∧ ((0 : Int) ≤ ixF v (List.drop (IntKind.i64.wrap (i + (1 : Int))).toNat l) (IntKind.i64.wrap (i + (1 : Int))) → (0 : Int) ≤ ixF v (List.drop i.toNat l) i ∧ ixF v (List.drop (IntKind.i64.wrap (i + (1 : Int))).toNat l) (IntKind.i64.wrap (i + (1 : Int))) = ixF v (List.drop i.toNat l) i) ∧ True) ∧ ((True ∧ decide (i < n) = true) ∧ ¬((0 : Int) ≤ i ∧ i < (↑l.length : Int)) → False) ∧ (True ∧ decide (i < n) = false → ixF v (List.drop i.toNat l) i = (-1 : Int) ∧ () = ()) ∧ (True)
theorem ixL0.eq  (l : List ByteArray) (v : ByteArray) (n : Int) (i : Int) : ixL0.g  l v n i = ixL0.T  l v n i := by kernel_rfl
theorem ixL0.ok  (l : List ByteArray) (v : ByteArray) (n : Int) (i : Int) (hx : n = l.length ∧ 0 ≤ i ∧ i ≤ n ∧ l.length ≤ 9223372036854775807) : ixL0.T  l v n i := by
  obtain ⟨rfl, h1, h2, h3⟩ := hx
  rw [ixL0.T]
  ((repeat' (first | exact trivial | apply And.intro)) <;> (intro hw; (try (simp only [true_and, and_true, decide_eq_true_eq, decide_eq_false_iff_not, beq_iff_eq, bne_iff_ne, beq_eq_false_iff_ne, bne_eq_false_iff_eq, ne_eq, Bool.not_eq_true, Bool.not_eq_false, not_true_eq_false, not_false_eq_true, Bool.not_eq_eq_eq_not, Bool.not_true, Bool.not_false, forall_const, imp_self, Bool.true_eq_false, Bool.false_eq_true, reduceCtorEq] at hw)); (try first | (exfalso; omega) | exact ⟨trivial, rfl⟩ | exact (hw hx).elim | exact (hw.2 hx).elim)))
  · rw [drop_int ByteArray.empty h1 (by omega), ixF, if_pos hw.2]
    exact ⟨h1, rfl⟩
  · rw [wrapI64 (x := i + 1) (by omega) (by omega), drop_int ByteArray.empty h1 (by omega), ixF, if_neg hw.2]
    exact ⟨⟨rfl, by omega, by omega, h3⟩, by simp only [ixL0.mu]; omega, fun h => ⟨h, rfl⟩, fun h => ⟨h, rfl⟩, trivial⟩
  · rw [drop_int_end hw]; exact ⟨rfl, rfl⟩
theorem ixL0.lp   : LpAt Try.prog 76 0 ixL0 := lp_evalH (l := []) (lf := 1000) (fun _ => cfOf_ok (fns_nil _)) (lps_nil _ _) (by kernel_rfl) _ (ixL0.mu ) (fun ⟨l, v, n, i⟩ hx => Hid.of (ixL0.eq  l v n i) (ixL0.ok  l v n i hx))
noncomputable def ixI  : Face := ⟨76, [.v (.sl .str), .v .str], fun (l, v) => none,
  [⟨false, [.v (.int .i64)], fun (l, v) => ixF v l 0, fun (l, v) => none⟩]⟩
noncomputable def ixI.g  (l : List ByteArray) (v : ByteArray) : Prop := GoodFA Try.prog (cfOf []) [(0, ixL0)] 1000 ixI (l, v)
noncomputable def ixI.T (l : List ByteArray) (v : ByteArray) : Prop := ((True ∧ l.length ≤ (9223372036854775807 : Nat)) ∧ ¬((↑l.length : Int) = (↑l.length : Int) ∧ (0 : Int) ≤ (0 : Int) ∧ (0 : Int) ≤ (↑l.length : Int) ∧ l.length ≤ (9223372036854775807 : Nat)) → False) ∧ (((True ∧ l.length ≤ (9223372036854775807 : Nat)) ∧ (↑l.length : Int) = (↑l.length : Int) ∧ (0 : Int) ≤ (0 : Int) ∧ (0 : Int) ≤ (↑l.length : Int) ∧ l.length ≤ (9223372036854775807 : Nat)) ∧ ixF v (List.drop (Int.toNat (0 : Int)) l) (0 : Int) = (-1 : Int) →
  True ∧ (-1 : Int) = ixF v l (0 : Int)) ∧ (((True ∧ l.length ≤ (9223372036854775807 : Nat)) ∧ (↑l.length : Int) = (↑l.length : Int) ∧ (0 : Int) ≤ (0 : Int) ∧ (0 : Int) ≤ (↑l.length : Int) ∧ l.length ≤ (9223372036854775807 : Nat)) ∧ (0 : Int) ≤ ixF v (List.drop (Int.toNat (0 : Int)) l) (0 : Int) →
  True ∧ ixF v (List.drop (Int.toNat (0 : Int)) l) (0 : Int) = ixF v l (0 : Int)) ∧ (True)
theorem ixI.eq  (l : List ByteArray) (v : ByteArray) : ixI.g  l v = ixI.T  l v := by kernel_rfl
theorem ixI.ok  (l : List ByteArray) (v : ByteArray) : ixI.T  l v := by
  rw [ixI.T]
  simp only [show Int.toNat 0 = 0 from rfl, List.drop_zero]
  ((repeat' (first | exact trivial | apply And.intro)) <;> (intro hw; (try (simp only [true_and, and_true, decide_eq_true_eq, decide_eq_false_iff_not, beq_iff_eq, bne_iff_ne, beq_eq_false_iff_ne, bne_eq_false_iff_eq, ne_eq, Bool.not_eq_true, Bool.not_eq_false, not_true_eq_false, not_false_eq_true, Bool.not_eq_eq_eq_not, Bool.not_true, Bool.not_false, forall_const, imp_self, Bool.true_eq_false, Bool.false_eq_true, reduceCtorEq] at hw)); (try first | (exfalso; omega) | exact ⟨trivial, rfl⟩ | exact (hw hx).elim | exact (hw.2 hx).elim)))
  · exact ⟨trivial, hw.2.symm⟩
  · exact ⟨trivial, trivial⟩
theorem ixI.fn   : FnOk Try.prog ixI := fn_evalH (l := [(0, ixL0)]) (lf := 1000) (fun _ => cfOf_ok (fns_nil _)) _ (lps_cons (ixL0.lp) (lps_nil _ _)) (by kernel_rfl) (fun ⟨l, v⟩ hx => Hid.of (ixI.eq  l v) (ixI.ok  l v))
def findS (g : Gr) (v : ByteArray) : Int × Bool := if v.toList = [36] then (0, true) else if 0 ≤ ixF v g.1 0 then (ixF v g.1 0 + 1, true) else if 0 ≤ ixF v g.2.1 0 then (ixF v g.2.1 0 + 100, true) else (0, false)
noncomputable def findF  : Face := ⟨68, [.v GR, .v .str], fun (g, v) => some (gSmall g),
  [⟨false, [.v (.int .i64), .v .bool], fun (g, v) => findS g v, fun (g, v) => none⟩]⟩
noncomputable def findF.g  (g : List ByteArray × List ByteArray × List (Int × List Int)) (v : ByteArray) : Prop := GoodFA Try.prog (cfOf [ixI]) [] 1000 findF (g, v)
noncomputable def findF.T (g : List ByteArray × List ByteArray × List (Int × List Int)) (v : ByteArray) : Prop := (True ∧ (v.toList == (ByteArray.mk #[(36 : UInt8)]).toList) = true → True ∧ ((0 : Int), true) = findS g v) ∧ ((True ∧ (v.toList == (ByteArray.mk #[(36 : UInt8)]).toList) = false) ∧ decide (ixF v g.1 (0 : Int) ≥ (0 : Int)) = true → True ∧ (IntKind.i64.wrap (ixF v g.1 (0 : Int) + (1 : Int)), true) = findS g v) ∧ (((True ∧ (v.toList == (ByteArray.mk #[(36 : UInt8)]).toList) = false) ∧ decide (ixF v g.1 (0 : Int) ≥ (0 : Int)) = false) ∧ decide (ixF v g.2.1 (0 : Int) ≥ (0 : Int)) = true →
  True ∧ (IntKind.i64.wrap (ixF v g.2.1 (0 : Int) + (100 : Int)), true) = findS g v) ∧ (((True ∧ (v.toList == (ByteArray.mk #[(36 : UInt8)]).toList) = false) ∧ decide (ixF v g.1 (0 : Int) ≥ (0 : Int)) = false) ∧ decide (ixF v g.2.1 (0 : Int) ≥ (0 : Int)) = false → True ∧ ((0 : Int), false) = findS g v) ∧ (True)
theorem findF.eq  (g : List ByteArray × List ByteArray × List (Int × List Int)) (v : ByteArray) : findF.g  g v = findF.T  g v := by kernel_rfl
theorem findF.ok  (g : List ByteArray × List ByteArray × List (Int × List Int)) (v : ByteArray) (hx : gSmall g) : findF.T  g v := by
  obtain ⟨h1, h2⟩ := hx
  have e1 := ixF_ge v g.1 0 (by omega)
  have e2 := ixF_ge v g.2.1 0 (by omega)
  rw [findF.T, findS]
  have hd : (ByteArray.mk #[(36 : UInt8)]).toList = [36] := by rw [toList_data]
  rw [hd]
  ((repeat' (first | exact trivial | apply And.intro)) <;> (intro hw; (try (simp only [true_and, and_true, decide_eq_true_eq, decide_eq_false_iff_not, beq_iff_eq, bne_iff_ne, beq_eq_false_iff_ne, bne_eq_false_iff_eq, ne_eq, Bool.not_eq_true, Bool.not_eq_false, not_true_eq_false, not_false_eq_true, Bool.not_eq_eq_eq_not, Bool.not_true, Bool.not_false, forall_const, imp_self, Bool.true_eq_false, Bool.false_eq_true, reduceCtorEq] at hw)); (try first | (exfalso; omega) | exact ⟨trivial, rfl⟩ | exact (hw hx).elim | exact (hw.2 hx).elim)))
  · exact ⟨trivial, by rw [if_pos hw]⟩
  · rw [wrapI64 (x := ixF v g.1 0 + 1) (by omega) (by omega)]
    exact ⟨trivial, by rw [if_neg hw.1, if_pos (by omega)]⟩
  · rw [wrapI64 (x := ixF v g.2.1 0 + 100) (by omega) (by omega)]
    exact ⟨trivial, by rw [if_neg hw.1.1, if_neg (by omega), if_pos (by omega)]⟩
  · exact ⟨trivial, by rw [if_neg hw.1.1, if_neg (by omega), if_neg (by omega)]⟩
theorem findF.fn   : FnOk Try.prog findF := fn_evalH (l := []) (lf := 1000) (fun _ => cfOf_ok (fns_cons ixI.fn (fns_nil _))) _ (lps_nil _ _) (by kernel_rfl) (fun ⟨g, v⟩ hx => Hid.of (findF.eq  g v) (findF.ok  g v hx))
def lays153_ren : Go.Shelf.Ren := ⟨fun | 153 => 67 | 152 => 72 | 226 => 73 | 227 => 74 | 228 => 75 | 137 => 78 | 119 => 79 | 224 => 80 | 225 => 81 | 217 => 82 | 266 => 83 | n => n, fun | 9 => 9 | 3 => 3 | 4 => 4 | 5 => 5 | 21 => 21 | 117 => 112 | 116 => 111 | 0 => 0 | 46 => 117 | 124 => 118 | n => n, fun | n => n⟩
theorem lays153 : Go.Proofs.Lays.n153 Try.prog lays153_ren :=
  { mixed := by kernel_rfl
    f119 := Try.func79.trans (congrArg some (by kernel_rfl))
    f137 := Try.func78.trans (congrArg some (by kernel_rfl))
    f152 := Try.func72.trans (congrArg some (by kernel_rfl))
    f153 := Try.func67.trans (congrArg some (by kernel_rfl))
    f217 := Try.func82.trans (congrArg some (by kernel_rfl))
    f224 := Try.func80.trans (congrArg some (by kernel_rfl))
    f225 := Try.func81.trans (congrArg some (by kernel_rfl))
    f226 := Try.func73.trans (congrArg some (by kernel_rfl))
    f227 := Try.func74.trans (congrArg some (by kernel_rfl))
    f228 := Try.func75.trans (congrArg some (by kernel_rfl))
    f266 := Try.func83.trans (congrArg some (by kernel_rfl))
    t0 := Try.underlying0
    a0 := Try.isAgg0
    z0 := Try.sizeOf0
    v0 := Try.zeroValue0
    t3 := Try.underlying3
    a3 := Try.isAgg3
    z3 := Try.sizeOf3
    v3 := Try.zeroValue3
    t4 := Try.underlying4
    a4 := Try.isAgg4
    z4 := Try.sizeOf4
    v4 := Try.zeroValue4
    t5 := Try.underlying5
    a5 := Try.isAgg5
    z5 := Try.sizeOf5
    v5 := Try.zeroValue5
    t9 := Try.underlying9
    a9 := Try.isAgg9
    z9 := Try.sizeOf9
    v9 := Try.zeroValue9
    t21 := Try.underlying21
    a21 := Try.isAgg21
    z21 := Try.sizeOf21
    v21 := Try.zeroValue21
    t46 := Try.underlying117
    a46 := Try.isAgg117
    z46 := Try.sizeOf117
    v46 := Try.zeroValue117
    t116 := Try.underlying111
    a116 := Try.isAgg111
    z116 := Try.sizeOf111
    t117 := Try.underlying112
    a117 := Try.isAgg112
    z117 := Try.sizeOf112
    v117 := Try.zeroValue112
    t124 := Try.underlying118
    a124 := Try.isAgg118
    z124 := Try.sizeOf118
    v124 := Try.zeroValue118 }
theorem set153 : (Try.prog.info? (lays153_ren.t 116)).map (fun i => (i.zero, i.size)) = some (some (.agg (Array.replicate 256 (.bool false))), 256) := by kernel_rfl
def bSet : ByteArray := ⟨#[32, 40, 41]⟩
def idxS (s : ByteArray) : Int := Lib.indexAny s.data.toList bSet.data.toList
noncomputable def idxA : Face := ⟨67, [.v .str, .v .str], fun (s, c) => some (c = bSet ∧ s.size < 4294967281), [⟨false, [.v (.int .i64)], fun (s, c) => idxS s, fun _ => none⟩]⟩
theorem idxA.fn : FnOk Try.prog idxA := fn_lib (ps := [.v .str, .v .str]) (t := .int .i64) (val := fun (s, c) => idxS s) (fun _ => rfl) rfl fun ⟨s, c⟩ C vs w hp hD => by
  obtain ⟨hc, hs⟩ : c = bSet ∧ s.size < 4294967281 := hp
  subst hc
  have hD : Dens C [.sym (.str s), .sym (.str bSet)] vs := hD
  obtain ⟨u, us, rfl, h1, h2⟩ := hD.cons_inv
  obtain ⟨u', us', rfl, h3, h4⟩ := h2.cons_inv
  rw [h4.nil_inv]
  cases sym_inv h1
  cases sym_inv h3
  refine (idx_any lays153 set153 s bSet w (by decide) hs (by decide) (fun j b hb => ?_)).mono fun e w' ⟨h, hB⟩ => ⟨_, h, hB, fun C' => .sym (.int _ _)⟩
  have : j < 3 := (List.getElem?_eq_some_iff.1 hb).1
  have hj : j = 0 ∨ j = 1 ∨ j = 2 := by omega
  rcases hj with rfl | rfl | rfl <;> (injection hb with e; subst e; decide)
end Go.Proofs.Ytdmljeaigjfenaa.D

namespace Go.Proofs.Ytdmljeaigjfenaa.D
open Go Go.EV Go.TL Go.Proofs
set_option linter.unusedVariables false
set_option linter.unusedSimpArgs false
set_option maxRecDepth 100000
theorem indexAny_last {x : UInt8} {ch : List UInt8} (hx : ch.contains x = true) : ∀ l : List UInt8, 0 ≤ Lib.indexAny (l ++ [x]) ch ∧ Lib.indexAny (l ++ [x]) ch ≤ (l.length : Int)
  | [] => by
    rw [List.nil_append, Lib.indexAny, if_pos hx]; exact ⟨by omega, by simp⟩
  | b :: l => by
    have ih := indexAny_last hx l
    rw [List.cons_append, Lib.indexAny]
    split
    · exact ⟨by omega, by simp only [List.length_cons]; omega⟩
    · rw [if_neg (by rw [beq_iff_eq]; omega)]
      exact ⟨by omega, by simp only [List.length_cons]; omega⟩
def endS (s : ByteArray) : Int := idxS (s ++ bShut)
theorem endS_le (s : ByteArray) : 0 ≤ endS s ∧ endS s ≤ (s.size : Int) := by
  unfold endS idxS
  rw [ByteArray.toList_data_append, show bShut.data.toList = [41] from rfl]
  have := indexAny_last (x := 41) (ch := bSet.data.toList) (by decide) s.data.toList
  rw [Array.length_toList] at this
  exact this
def cutS (s : ByteArray) : ByteArray := s.extract 0 (endS s).toNat
def restS (s : ByteArray) : ByteArray := s.extract (endS s).toNat s.size
def symB (g : Gr) (s : ByteArray) (left : Int) : Bool := (findS g (cutS s)).2 && (decide ((findS g (cutS s)).1 ≠ 0) && decide (0 < left))
noncomputable def symF  : Face := ⟨56, [.box 75 [.v (.sl .str), .v (.sl .str), .v (.sl PR), .v .str, .v (.int .i64)]], fun b => some (gSmall (b.1, b.2.1, b.2.2.1) ∧ b.2.2.2.1.size ≤ 10000000 ∧ b.2.2.2.2 ≤ 400),
  [⟨false, [.box 75 [.v (.sl .str), .v (.sl .str), .v (.sl PR), .v .str, .v (.int .i64)], .v (.int .i64)], fun b => ((b.1, b.2.1, b.2.2.1, restS b.2.2.2.1, b.2.2.2.2 - 1), (findS (b.1, b.2.1, b.2.2.1) (cutS b.2.2.2.1)).1), fun b => some (symB (b.1, b.2.1, b.2.2.1) b.2.2.2.1 b.2.2.2.2 = true)⟩,
   ⟨true, [.box 75 [.un, .un, .un, .un, .un], .k 72], fun b => (((), (), (), (), ()), ()), fun b => some (symB (b.1, b.2.1, b.2.2.1) b.2.2.2.1 b.2.2.2.2 = false)⟩]⟩
noncomputable def symF.g  (b : List ByteArray × List ByteArray × (List (Int × List Int)) × ByteArray × Int) : Prop := GoodFA Try.prog (cfOf [idxA, findF, needF]) [] 1000 symF b
noncomputable def symF.q6 (b : List ByteArray × List ByteArray × List (Int × List Int) × ByteArray × Int) : Prop := (True ∧ ByteArray.size b.2.2.2.1 + (ByteArray.mk #[(41 : UInt8)]).size ≤ (9223372036854775807 : Nat)) ∧ ByteArray.mk #[(32 : UInt8), (40 : UInt8), (41 : UInt8)] = bSet ∧ (b.2.2.2.1 ++ ByteArray.mk #[(41 : UInt8)]).size < (4294967281 : Nat)
noncomputable def symF.q0 (b : List ByteArray × List ByteArray × List (Int × List Int) × ByteArray × Int) : Prop := (symF.q6 b) ∧ (0 : Int) ≤ (0 : Int) ∧ (0 : Int) ≤ idxS (b.2.2.2.1 ++ ByteArray.mk #[(41 : UInt8)]) ∧ idxS (b.2.2.2.1 ++ ByteArray.mk #[(41 : UInt8)]) ≤ (↑(ByteArray.size b.2.2.2.1) : Int)
noncomputable def symF.q1 (b : List ByteArray × List ByteArray × List (Int × List Int) × ByteArray × Int) : Prop := ((symF.q0 b) ∧ gSmall (b.1, b.2.1, b.2.2.1)) ∧ (findS (b.1, b.2.1, b.2.2.1) (ByteArray.extract b.2.2.2.1 (Int.toNat (0 : Int)) (idxS (b.2.2.2.1 ++ ByteArray.mk #[(41 : UInt8)])).toNat)).2 = true
noncomputable def symF.q2 (b : List ByteArray × List ByteArray × List (Int × List Int) × ByteArray × Int) : Prop := (0 : Int) ≤ idxS (b.2.2.2.1 ++ ByteArray.mk #[(41 : UInt8)]) ∧ idxS (b.2.2.2.1 ++ ByteArray.mk #[(41 : UInt8)]) ≤ (↑(ByteArray.size b.2.2.2.1) : Int) ∧ (↑(ByteArray.size b.2.2.2.1) : Int) ≤ (↑(ByteArray.size b.2.2.2.1) : Int)
noncomputable def symF.q3 (b : List ByteArray × List ByteArray × List (Int × List Int) × ByteArray × Int) : Prop := ((symF.q0 b) ∧ gSmall (b.1, b.2.1, b.2.2.1)) ∧ (findS (b.1, b.2.1, b.2.2.1) (ByteArray.extract b.2.2.2.1 (Int.toNat (0 : Int)) (idxS (b.2.2.2.1 ++ ByteArray.mk #[(41 : UInt8)])).toNat)).2 = false
noncomputable def symF.q4 (b : List ByteArray × List ByteArray × List (Int × List Int) × ByteArray × Int) : Prop := (symF.q1 b) ∧ ((findS (b.1, b.2.1, b.2.2.1) (ByteArray.extract b.2.2.2.1 (Int.toNat (0 : Int)) (idxS (b.2.2.2.1 ++ ByteArray.mk #[(41 : UInt8)])).toNat)).1 != (0 : Int)) = false
noncomputable def symF.q5 (b : List ByteArray × List ByteArray × List (Int × List Int) × ByteArray × Int) : Prop := (symF.q1 b) ∧ ((findS (b.1, b.2.1, b.2.2.1) (ByteArray.extract b.2.2.2.1 (Int.toNat (0 : Int)) (idxS (b.2.2.2.1 ++ ByteArray.mk #[(41 : UInt8)])).toNat)).1 != (0 : Int)) = true
noncomputable def symF.T (b : List ByteArray × List ByteArray × List (Int × List Int) × ByteArray × Int) : Prop := ((True ∧ ByteArray.size b.2.2.2.1 + (ByteArray.mk #[(41 : UInt8)]).size ≤ (9223372036854775807 : Nat)) ∧ ¬(ByteArray.mk #[(32 : UInt8), (40 : UInt8), (41 : UInt8)] = bSet ∧ (b.2.2.2.1 ++ ByteArray.mk #[(41 : UInt8)]).size < (4294967281 : Nat)) → False) ∧ ((symF.q6 b) ∧ ¬((0 : Int) ≤ (0 : Int) ∧ (0 : Int) ≤ idxS (b.2.2.2.1 ++ ByteArray.mk #[(41 : UInt8)]) ∧ idxS (b.2.2.2.1 ++ ByteArray.mk #[(41 : UInt8)]) ≤ (↑(ByteArray.size b.2.2.2.1) : Int)) → False) ∧ ((symF.q0 b) ∧ ¬gSmall (b.1, b.2.1, b.2.2.1) → False) ∧ (((symF.q5 b) ∧ decide (b.2.2.2.2 > (0 : Int)) = true) ∧ ¬(symF.q2 b) → False) ∧ (((symF.q5 b) ∧ decide (b.2.2.2.2 > (0 : Int)) = true) ∧ (0 : Int) ≤ idxS (b.2.2.2.1 ++ ByteArray.mk #[(41 : UInt8)]) ∧ idxS (b.2.2.2.1 ++ ByteArray.mk #[(41 : UInt8)]) ≤ (↑(ByteArray.size b.2.2.2.1) : Int) ∧ (↑(ByteArray.size b.2.2.2.1) : Int) ≤ (↑(ByteArray.size b.2.2.2.1) : Int) → symB (b.1, b.2.1, b.2.2.1) b.2.2.2.1 b.2.2.2.2 = true ∧ ((b.1, b.2.1, b.2.2.1, ByteArray.extract b.2.2.2.1 (idxS (b.2.2.2.1 ++ ByteArray.mk #[(41 : UInt8)])).toNat (↑(ByteArray.size b.2.2.2.1) : Int).toNat, IntKind.i64.wrap (b.2.2.2.2 - (1 : Int))), (findS (b.1, b.2.1, b.2.2.1) (ByteArray.extract b.2.2.2.1 (Int.toNat (0 : Int)) (idxS (b.2.2.2.1 ++ ByteArray.mk #[(41 : UInt8)])).toNat)).1) = ((b.1, b.2.1, b.2.2.1, restS b.2.2.2.1, b.2.2.2.2 - (1 : Int)), (findS (b.1, b.2.1, b.2.2.1) (cutS b.2.2.2.1)).1)) ∧ ((symF.q5 b) ∧ decide (b.2.2.2.2 > (0 : Int)) = false → symB (b.1, b.2.1, b.2.2.1) b.2.2.2.1 b.2.2.2.2 = false ∧ (((), (), (), (), ()), ()) = (((), (), (), (), ()), ())) ∧ (((symF.q4 b) ∧ false = true) ∧ ¬(symF.q2 b) → False) ∧ (((symF.q4 b) ∧ false = true) ∧ (0 : Int) ≤ idxS (b.2.2.2.1 ++ ByteArray.mk #[(41 : UInt8)]) ∧ idxS (b.2.2.2.1 ++ ByteArray.mk #[(41 : UInt8)]) ≤ (↑(ByteArray.size b.2.2.2.1) : Int) ∧ (↑(ByteArray.size b.2.2.2.1) : Int) ≤ (↑(ByteArray.size b.2.2.2.1) : Int) → symB (b.1, b.2.1, b.2.2.1) b.2.2.2.1 b.2.2.2.2 = true ∧ ((b.1, b.2.1, b.2.2.1, ByteArray.extract b.2.2.2.1 (idxS (b.2.2.2.1 ++ ByteArray.mk #[(41 : UInt8)])).toNat (↑(ByteArray.size b.2.2.2.1) : Int).toNat, IntKind.i64.wrap (b.2.2.2.2 - (1 : Int))), (findS (b.1, b.2.1, b.2.2.1) (ByteArray.extract b.2.2.2.1 (Int.toNat (0 : Int)) (idxS (b.2.2.2.1 ++ ByteArray.mk #[(41 : UInt8)])).toNat)).1) = ((b.1, b.2.1, b.2.2.1, restS b.2.2.2.1, b.2.2.2.2 - (1 : Int)), (findS (b.1, b.2.1, b.2.2.1) (cutS b.2.2.2.1)).1)) ∧ ((symF.q4 b) ∧ false = false → symB (b.1, b.2.1, b.2.2.1) b.2.2.2.1 b.2.2.2.2 = false ∧ (((), (), (), (), ()), ()) = (((), (), (), (), ()), ())) ∧ (((symF.q3 b) ∧ false = true) ∧ ¬(symF.q2 b) → False) ∧ (((symF.q3 b) ∧ false = true) ∧ (0 : Int) ≤ idxS (b.2.2.2.1 ++ ByteArray.mk #[(41 : UInt8)]) ∧ idxS (b.2.2.2.1 ++ ByteArray.mk #[(41 : UInt8)]) ≤ (↑(ByteArray.size b.2.2.2.1) : Int) ∧ (↑(ByteArray.size b.2.2.2.1) : Int) ≤ (↑(ByteArray.size b.2.2.2.1) : Int) → symB (b.1, b.2.1, b.2.2.1) b.2.2.2.1 b.2.2.2.2 = true ∧ ((b.1, b.2.1, b.2.2.1, ByteArray.extract b.2.2.2.1 (idxS (b.2.2.2.1 ++ ByteArray.mk #[(41 : UInt8)])).toNat (↑(ByteArray.size b.2.2.2.1) : Int).toNat, IntKind.i64.wrap (b.2.2.2.2 - (1 : Int))), (findS (b.1, b.2.1, b.2.2.1) (ByteArray.extract b.2.2.2.1 (Int.toNat (0 : Int)) (idxS (b.2.2.2.1 ++ ByteArray.mk #[(41 : UInt8)])).toNat)).1) = ((b.1, b.2.1, b.2.2.1, restS b.2.2.2.1, b.2.2.2.2 - (1 : Int)), (findS (b.1, b.2.1, b.2.2.1) (cutS b.2.2.2.1)).1)) ∧ ((symF.q3 b) ∧ false = false → symB (b.1, b.2.1, b.2.2.1) b.2.2.2.1 b.2.2.2.2 = false ∧ (((), (), (), (), ()), ()) = (((), (), (), (), ()), ())) ∧ (True ∧ ¬ByteArray.size b.2.2.2.1 + (ByteArray.mk #[(41 : UInt8)]).size ≤ (9223372036854775807 : Nat) → False) ∧ (True)
theorem symF.eq  (b : List ByteArray × List ByteArray × (List (Int × List Int)) × ByteArray × Int) : symF.g  b = symF.T  b := by kernel_rfl
theorem symF.ok  (b : List ByteArray × List ByteArray × (List (Int × List Int)) × ByteArray × Int) (hx : gSmall (b.1, b.2.1, b.2.2.1) ∧ b.2.2.2.1.size ≤ 10000000 ∧ b.2.2.2.2 ≤ 400) : symF.T  b := by
  obtain ⟨ts, ns, ps, s, left⟩ := b
  obtain ⟨h1, h2, h3⟩ := hx
  have hE := endS_le s
  delta symF.T symF.q6 symF.q0 symF.q1 symF.q2 symF.q3 symF.q4 symF.q5
  simp only [show idxS (s ++ (ByteArray.mk #[(41 : UInt8)])) = endS s from rfl, show Int.toNat 0 = 0 from rfl, show s.extract 0 (endS s).toNat = cutS s from rfl, Int.toNat_natCast, show s.extract (endS s).toNat s.size = restS s from rfl, symB, ByteArray.size_append, show (ByteArray.mk #[(41 : UInt8)]).size = 1 from rfl] at *
  generalize findS (ts, ns, ps) (cutS s) = f at *
  ((repeat' (first | exact trivial | apply And.intro)) <;> (intro hw; (try (simp only [true_and, and_true, decide_eq_true_eq, decide_eq_false_iff_not, beq_iff_eq, bne_iff_ne, beq_eq_false_iff_ne, bne_eq_false_iff_eq, ne_eq, Bool.not_eq_true, Bool.not_eq_false, not_true_eq_false, not_false_eq_true, Bool.not_eq_eq_eq_not, Bool.not_true, Bool.not_false, forall_const, imp_self, Bool.true_eq_false, Bool.false_eq_true, reduceCtorEq] at hw)); (try first | (exfalso; omega) | exact ⟨trivial, rfl⟩ | exact (hw hx).elim | exact (hw.2 hx).elim)))
  all_goals first
    | exact hw.2 ⟨rfl, by omega⟩
    | exact hw.2 h1
    | (exfalso; omega)
    | exact hw.1.2.elim
    | exact hw.2.elim
    | exact ⟨by simp [hw], by rw [wrapI64 (x := left - 1) (by omega) (by omega)]⟩
    | exact ⟨by simp [hw], rfl⟩
    | exact ⟨by simp only [Bool.and_eq_false_iff, decide_eq_false_iff_not]; omega, rfl⟩
    | (refine ⟨?_, trivial⟩; have e := hw.2; simp only [Bool.and_eq_false_iff, decide_eq_false_iff_not]; first | exact .inl e | (exact .inr (.inl (fun h => h e))) | (exact .inr (.inr (by omega))))
    | skip
theorem symF.fn   : FnOk Try.prog symF := fn_evalH (l := []) (lf := 1000) (fun _ => cfOf_ok (fns_cons idxA.fn (fns_cons findF.fn (fns_cons needF.fn (fns_nil _))))) _ (lps_nil _ _) (by kernel_rfl) (fun b hx => Hid.of (symF.eq  b) (symF.ok  b hx))
noncomputable def eqIL  : LFace := ⟨[0, 1, 12, 13], [.v (.sl (.int .i64)), .v (.sl (.int .i64)), .v (.int .i64), .v (.int .i64)], fun (a, b, n, i) => some (n = a.length ∧ a.length = b.length ∧ 0 ≤ i ∧ i ≤ n ∧ a.length ≤ 9223372036854775807),
  [⟨.normal, [], [], fun (a, b, n, i) => (), fun (a, b, n, i) => some (a.drop i.toNat = b.drop i.toNat)⟩,
   ⟨.ret, [4], [.v .bool], fun (a, b, n, i) => false, fun (a, b, n, i) => some (a.drop i.toNat ≠ b.drop i.toNat)⟩]⟩
noncomputable def eqIL.mu  : dens eqIL.sh → Nat := fun (a, b, n, i) => (n - i).toNat
noncomputable def eqIL.g  (a : List Int) (b : List Int) (n : Int) (i : Int) : Prop := GoodLA Try.prog (cfOf []) [] 1000 60 0 eqIL eqIL.mu (a, b, n, i)
noncomputable def eqIL.T (a : List Int) (b : List Int) (n : Int) (i : Int) : Prop := ((True ∧ decide (i < n) = true) ∧ ¬((0 : Int) ≤ i ∧ i < (↑a.length : Int)) → False) ∧ (((True ∧ decide (i < n) = true) ∧ (0 : Int) ≤ i ∧ i < (↑a.length : Int)) ∧ ¬((0 : Int) ≤ i ∧ i < (↑b.length : Int)) → False) ∧ ((((True ∧ decide (i < n) = true) ∧ (0 : Int) ≤ i ∧ i < (↑a.length : Int)) ∧ (0 : Int) ≤ i ∧ i < (↑b.length : Int)) ∧ (a.getD i.toNat (0 : Int) != b.getD i.toNat (0 : Int)) = true → List.drop i.toNat a ≠ List.drop i.toNat b ∧ false = false) ∧ ((((True ∧ decide (i < n) = true) ∧ (0 : Int) ≤ i ∧ i < (↑a.length : Int)) ∧ (0 : Int) ≤ i ∧ i < (↑b.length : Int)) ∧ (a.getD i.toNat (0 : Int) != b.getD i.toNat (0 : Int)) = false →
  (n = (↑a.length : Int) ∧ a.length = b.length ∧ (0 : Int) ≤ IntKind.i64.wrap (i + (1 : Int)) ∧ IntKind.i64.wrap (i + (1 : Int)) ≤ n ∧ a.length ≤ (9223372036854775807 : Nat)) ∧ eqIL.mu (a, b, n, IntKind.i64.wrap (i + (1 : Int))) < eqIL.mu (a, b, n, i) ∧ (List.drop (IntKind.i64.wrap (i + (1 : Int))).toNat a = List.drop (IntKind.i64.wrap (i + (1 : Int))).toNat b → List.drop i.toNat a = List.drop i.toNat b ∧ () = ()) ∧ (List.drop (IntKind.i64.wrap (i + (1 : Int))).toNat a ≠ List.drop (IntKind.i64.wrap (i + (1 : Int))).toNat b → List.drop i.toNat a ≠ List.drop i.toNat b ∧ false = false) ∧ True) ∧ (True ∧ decide (i < n) = false → List.drop i.toNat a = List.drop i.toNat b ∧ () = ()) ∧ (True)
theorem eqIL.eq  (a : List Int) (b : List Int) (n : Int) (i : Int) : eqIL.g  a b n i = eqIL.T  a b n i := by kernel_rfl
theorem eqIL.ok  (a : List Int) (b : List Int) (n : Int) (i : Int) (hx : n = a.length ∧ a.length = b.length ∧ 0 ≤ i ∧ i ≤ n ∧ a.length ≤ 9223372036854775807) : eqIL.T  a b n i := by
  obtain ⟨rfl, h0, h1, h2, h3⟩ := hx
  rw [eqIL.T]
  ((repeat' (first | exact trivial | apply And.intro)) <;> (intro hw; (try (simp only [true_and, and_true, decide_eq_true_eq, decide_eq_false_iff_not, beq_iff_eq, bne_iff_ne, beq_eq_false_iff_ne, bne_eq_false_iff_eq, ne_eq, Bool.not_eq_true, Bool.not_eq_false, not_true_eq_false, not_false_eq_true, Bool.not_eq_eq_eq_not, Bool.not_true, Bool.not_false, forall_const, imp_self, Bool.true_eq_false, Bool.false_eq_true, reduceCtorEq] at hw)); (try first | (exfalso; omega) | exact ⟨trivial, rfl⟩ | exact (hw hx).elim | exact (hw.2 hx).elim)))
  · rw [drop_int 0 h1 (by omega), drop_int 0 h1 (show i < (b.length : Int) by omega)]
    exact ⟨fun e => hw.2 (List.cons.inj e).1, rfl⟩
  · rw [wrapI64 (x := i + 1) (by omega) (by omega)]
    have e1 := drop_int 0 h1 (l := a) (by omega)
    have e2 := drop_int 0 h1 (l := b) (by omega)
    rw [e1, e2, hw.2]
    exact ⟨⟨rfl, h0, by omega, by omega, h3⟩, by simp only [eqIL.mu]; omega, fun h => ⟨by rw [h], rfl⟩, fun h => ⟨fun e => h (List.cons.inj e).2, rfl⟩, trivial⟩
  · rw [drop_int_end hw, drop_int_end (by omega)]
    exact ⟨rfl, rfl⟩
theorem eqIL.lp   : LpAt Try.prog 60 0 eqIL := lp_evalH (l := []) (lf := 1000) (fun _ => cfOf_ok (fns_nil _)) (lps_nil _ _) (by kernel_rfl) _ (eqIL.mu ) (fun ⟨a, b, n, i⟩ hx => Hid.of (eqIL.eq  a b n i) (eqIL.ok  a b n i hx))
noncomputable def eqII  : Face := ⟨60, [.v (.sl (.int .i64)), .v (.sl (.int .i64))], fun (a, b) => none,
  [⟨false, [.v .bool], fun (a, b) => decide (a = b), fun (a, b) => none⟩]⟩
noncomputable def eqII.g  (a : List Int) (b : List Int) : Prop := GoodFA Try.prog (cfOf []) [(0, eqIL)] 1000 eqII (a, b)
noncomputable def eqII.q0 (a : List Int) (b : List Int) : Prop := (((True ∧ a.length ≤ (9223372036854775807 : Nat)) ∧ b.length ≤ (9223372036854775807 : Nat)) ∧ ((↑a.length : Int) != (↑b.length : Int)) = false) ∧ a.length ≤ (9223372036854775807 : Nat)
noncomputable def eqII.q1 (a : List Int) (b : List Int) : Prop := (eqII.q0 a b) ∧ (↑a.length : Int) = (↑a.length : Int) ∧ a.length = b.length ∧ (0 : Int) ≤ (0 : Int) ∧ (0 : Int) ≤ (↑a.length : Int) ∧ a.length ≤ (9223372036854775807 : Nat)
noncomputable def eqII.T (a : List Int) (b : List Int) : Prop := (((True ∧ a.length ≤ (9223372036854775807 : Nat)) ∧ b.length ≤ (9223372036854775807 : Nat)) ∧ ((↑a.length : Int) != (↑b.length : Int)) = true → True ∧ false = decide (a = b)) ∧ ((eqII.q0 a b) ∧ ¬((↑a.length : Int) = (↑a.length : Int) ∧ a.length = b.length ∧ (0 : Int) ≤ (0 : Int) ∧ (0 : Int) ≤ (↑a.length : Int) ∧ a.length ≤ (9223372036854775807 : Nat)) → False) ∧ ((eqII.q1 a b) ∧ List.drop (Int.toNat (0 : Int)) a = List.drop (Int.toNat (0 : Int)) b → True ∧ true = decide (a = b)) ∧ ((eqII.q1 a b) ∧ List.drop (Int.toNat (0 : Int)) a ≠ List.drop (Int.toNat (0 : Int)) b → True ∧ false = decide (a = b)) ∧ (True)
theorem eqII.eq  (a : List Int) (b : List Int) : eqII.g  a b = eqII.T  a b := by kernel_rfl
theorem eqII.ok  (a : List Int) (b : List Int) : eqII.T  a b := by
  delta eqII.T eqII.q0 eqII.q1
  simp only [show Int.toNat 0 = 0 from rfl, List.drop_zero]
  ((repeat' (first | exact trivial | apply And.intro)) <;> (intro hw; (try (simp only [true_and, and_true, decide_eq_true_eq, decide_eq_false_iff_not, beq_iff_eq, bne_iff_ne, beq_eq_false_iff_ne, bne_eq_false_iff_eq, ne_eq, Bool.not_eq_true, Bool.not_eq_false, not_true_eq_false, not_false_eq_true, Bool.not_eq_eq_eq_not, Bool.not_true, Bool.not_false, forall_const, imp_self, Bool.true_eq_false, Bool.false_eq_true, reduceCtorEq] at hw)); (try first | (exfalso; omega) | exact ⟨trivial, rfl⟩ | exact (hw hx).elim | exact (hw.2 hx).elim)))
  · refine ⟨trivial, (decide_eq_false fun e => ?_).symm⟩
    rw [e] at hw
    exact hw.2 rfl
  · exact ⟨trivial, (decide_eq_true hw.2).symm⟩
  · exact ⟨trivial, (decide_eq_false hw.2).symm⟩
theorem eqII.fn   : FnOk Try.prog eqII := fn_evalH (l := [(0, eqIL)]) (lf := 1000) (fun _ => cfOf_ok (fns_nil _)) _ (lps_cons (eqIL.lp) (lps_nil _ _)) (by kernel_rfl) (fun ⟨a, b⟩ hx => Hid.of (eqII.eq  a b) (eqII.ok  a b))
noncomputable def isP  : Face := ⟨59, [.v PR, .box 33 [.v (.int .i64), .v (.int .i64), .v (.sl .tree)], .p (.sl (.int .i64))], fun (p, t, r) => none,
  [⟨false, [.box 33 [.v (.int .i64), .v (.int .i64), .v (.sl .tree)], .v .bool], fun (p, t, r) => (t, decide (p.1 = t.1) && decide (p.2 = r)), fun (p, t, r) => none⟩]⟩
noncomputable def isP.g  (p : Int × List Int) (t : Int × Int × List Tree) (r : List Int) : Prop := GoodFA Try.prog (cfOf [eqII]) [] 1000 isP (p, t, r)
noncomputable def isP.T (p : Int × List Int) (t : Int × Int × List Tree) (r : List Int) : Prop := (True ∧ (p.1 == t.1) = true → True ∧ (t, decide (p.2 = r)) = (t, decide (p.1 = t.1) && decide (p.2 = r))) ∧ (True ∧ (p.1 == t.1) = false → True ∧ (t, false) = (t, decide (p.1 = t.1) && decide (p.2 = r))) ∧ (True)
theorem isP.eq  (p : Int × List Int) (t : Int × Int × List Tree) (r : List Int) : isP.g  p t r = isP.T  p t r := by kernel_rfl
theorem isP.ok  (p : Int × List Int) (t : Int × Int × List Tree) (r : List Int) : isP.T  p t r := by
  rw [isP.T]
  ((repeat' (first | exact trivial | apply And.intro)) <;> (intro hw; (try (simp only [true_and, and_true, decide_eq_true_eq, decide_eq_false_iff_not, beq_iff_eq, bne_iff_ne, beq_eq_false_iff_ne, bne_eq_false_iff_eq, ne_eq, Bool.not_eq_true, Bool.not_eq_false, not_true_eq_false, not_false_eq_true, Bool.not_eq_eq_eq_not, Bool.not_true, Bool.not_false, forall_const, imp_self, Bool.true_eq_false, Bool.false_eq_true, reduceCtorEq] at hw)); (try first | (exfalso; omega) | exact ⟨trivial, rfl⟩ | exact (hw hx).elim | exact (hw.2 hx).elim)))
  · exact ⟨trivial, by rw [decide_eq_true hw, Bool.true_and]⟩
  · exact ⟨trivial, by rw [decide_eq_false hw, Bool.false_and]⟩
theorem isP.fn   : FnOk Try.prog isP := fn_evalH (l := []) (lf := 1000) (fun _ => cfOf_ok (fns_cons eqII.fn (fns_nil _))) _ (lps_nil _ _) (by kernel_rfl) (fun ⟨p, t, r⟩ hx => Hid.of (isP.eq  p t r) (isP.ok  p t r))
def pixF (s : Int) (r : List Int) : List (Int × List Int) → Int → Int
  | [], _ => -1
  | p :: l, i => if p.1 = s ∧ p.2 = r then i else pixF s r l (i + 1)
noncomputable def pixL  : LFace := ⟨[0, 1, 7, 8], [.v (.sl PR), .clb 59 33 [.v (.int .i64), .v (.int .i64), .v (.sl .tree)] [.sl (.int .i64)], .v (.int .i64), .v (.int .i64)], fun (l, c, n, i) => some (n = l.length ∧ 0 ≤ i ∧ i ≤ n ∧ l.length ≤ 9223372036854775807),
  [⟨.normal, [1], [.clb 59 33 [.v (.int .i64), .v (.int .i64), .v (.sl .tree)] [.sl (.int .i64)]], fun (l, c, n, i) => c, fun (l, c, n, i) => some (pixF c.1.1 c.2 (l.drop i.toNat) i = -1)⟩,
   ⟨.ret, [1, 4], [.clb 59 33 [.v (.int .i64), .v (.int .i64), .v (.sl .tree)] [.sl (.int .i64)], .v (.int .i64)], fun (l, c, n, i) => (c, pixF c.1.1 c.2 (l.drop i.toNat) i), fun (l, c, n, i) => some (0 ≤ pixF c.1.1 c.2 (l.drop i.toNat) i)⟩]⟩
noncomputable def pixL.mu  : dens pixL.sh → Nat := fun (l, c, n, i) => (n - i).toNat
noncomputable def pixL.g  (l : List (Int × List Int)) (c : (Int × Int × List Tree) × List Int) (n : Int) (i : Int) : Prop := GoodLA Try.prog (cfOf [isP]) [] 1000 58 0 pixL pixL.mu (l, c, n, i)
noncomputable def pixL.T (l : List (Int × List Int)) (c : (Int × Int × List Tree) × List Int) (n : Int) (i : Int) : Prop := (((True ∧ decide (i < n) = true) ∧ (0 : Int) ≤ i ∧ i < (↑l.length : Int)) ∧ (decide ((l.getD i.toNat ((0 : Int), [])).1 = c.1.1) && decide ((l.getD i.toNat ((0 : Int), [])).2 = c.2)) = true →
  (0 : Int) ≤ pixF c.1.1 c.2 (List.drop i.toNat l) i ∧ (c, i) = (c, pixF c.1.1 c.2 (List.drop i.toNat l) i)) ∧ (((True ∧ decide (i < n) = true) ∧ (0 : Int) ≤ i ∧ i < (↑l.length : Int)) ∧ (decide ((l.getD i.toNat ((0 : Int), [])).1 = c.1.1) && decide ((l.getD i.toNat ((0 : Int), [])).2 = c.2)) = false →
  (n = (↑l.length : Int) ∧ (0 : Int) ≤ IntKind.i64.wrap (i + (1 : Int)) ∧ IntKind.i64.wrap (i + (1 : Int)) ≤ n ∧ l.length ≤ (9223372036854775807 : Nat)) ∧ pixL.mu (l, c, n, IntKind.i64.wrap (i + (1 : Int))) < pixL.mu (l, c, n, i) ∧ (pixF c.1.1 c.2 (List.drop (IntKind.i64.wrap (i + (1 : Int))).toNat l) (IntKind.i64.wrap (i + (1 : Int))) = (-1 : Int) → pixF c.1.1 c.2 (List.drop i.toNat l) i = (-1 : Int) ∧ c = c) ∧ ((0 : Int) ≤ pixF c.1.1 c.2 (List.drop (IntKind.i64.wrap (i + (1 : Int))).toNat l) (IntKind.i64.wrap (i + (1 : Int))) → (0 : Int) ≤ pixF c.1.1 c.2 (List.drop i.toNat l) i ∧ (c, pixF c.1.1 c.2 (List.drop (IntKind.i64.wrap (i + (1 : Int))).toNat l) (IntKind.i64.wrap (i + (1 : Int)))) = (c, pixF c.1.1 c.2 (List.drop i.toNat l) i)) ∧ True) ∧ ((True ∧ decide (i < n) = true) ∧ ¬((0 : Int) ≤ i ∧ i < (↑l.length : Int)) → False) ∧ (True ∧ decide (i < n) = false → pixF c.1.1 c.2 (List.drop i.toNat l) i = (-1 : Int) ∧ c = c) ∧ (True)
theorem pixL.eq  (l : List (Int × List Int)) (c : (Int × Int × List Tree) × List Int) (n : Int) (i : Int) : pixL.g  l c n i = pixL.T  l c n i := by kernel_rfl
theorem pixL.ok  (l : List (Int × List Int)) (c : (Int × Int × List Tree) × List Int) (n : Int) (i : Int) (hx : n = l.length ∧ 0 ≤ i ∧ i ≤ n ∧ l.length ≤ 9223372036854775807) : pixL.T  l c n i := by
  obtain ⟨rfl, h1, h2, h3⟩ := hx
  rw [pixL.T]
  ((repeat' (first | exact trivial | apply And.intro)) <;> (intro hw; (try (simp only [true_and, and_true, decide_eq_true_eq, decide_eq_false_iff_not, beq_iff_eq, bne_iff_ne, beq_eq_false_iff_ne, bne_eq_false_iff_eq, ne_eq, Bool.not_eq_true, Bool.not_eq_false, not_true_eq_false, not_false_eq_true, Bool.not_eq_eq_eq_not, Bool.not_true, Bool.not_false, forall_const, imp_self, Bool.true_eq_false, Bool.false_eq_true, reduceCtorEq] at hw)); (try first | (exfalso; omega) | exact ⟨trivial, rfl⟩ | exact (hw hx).elim | exact (hw.2 hx).elim)))
  · have e := hw.2
    rw [Bool.and_eq_true, decide_eq_true_eq, decide_eq_true_eq] at e
    rw [drop_int (0, []) h1 (by omega), pixF, if_pos e]
    exact ⟨h1, rfl⟩
  · have e := hw.2
    have e2 : ¬ ((l.getD i.toNat (0, [])).fst = c.fst.fst ∧ (l.getD i.toNat (0, [])).snd = c.snd) := fun h => by
      rw [decide_eq_true h.1, decide_eq_true h.2] at e; cases e
    rw [wrapI64 (x := i + 1) (by omega) (by omega), drop_int (0, []) h1 (by omega), pixF, if_neg e2]
    exact ⟨⟨rfl, by omega, by omega, h3⟩, by simp only [pixL.mu]; omega, fun h => ⟨h, rfl⟩, fun h => ⟨h, rfl⟩, trivial⟩
  · rw [drop_int_end hw]; exact ⟨rfl, rfl⟩
theorem pixL.lp   : LpAt Try.prog 58 0 pixL := lp_evalH (l := []) (lf := 1000) (fun _ => cfOf_ok (fns_cons isP.fn (fns_nil _))) (lps_nil _ _) (by kernel_rfl) _ (pixL.mu ) (fun ⟨l, c, n, i⟩ hx => Hid.of (pixL.eq  l c n i) (pixL.ok  l c n i hx))
noncomputable def pixI  : Face := ⟨58, [.v (.sl PR), .clb 59 33 [.v (.int .i64), .v (.int .i64), .v (.sl .tree)] [.sl (.int .i64)]], fun (l, c) => none,
  [⟨false, [.box 33 [.v (.int .i64), .v (.int .i64), .v (.sl .tree)], .v (.int .i64)], fun (l, c) => (c.1, pixF c.1.1 c.2 l 0), fun (l, c) => none⟩]⟩
noncomputable def pixI.g  (l : List (Int × List Int)) (c : (Int × Int × List Tree) × List Int) : Prop := GoodFA Try.prog (cfOf []) [(0, pixL)] 1000 pixI (l, c)
noncomputable def pixI.q0 (l : List (Int × List Int)) : Prop := (True ∧ l.length ≤ (9223372036854775807 : Nat)) ∧ (↑l.length : Int) = (↑l.length : Int) ∧ (0 : Int) ≤ (0 : Int) ∧ (0 : Int) ≤ (↑l.length : Int) ∧ l.length ≤ (9223372036854775807 : Nat)
noncomputable def pixI.T (l : List (Int × List Int)) (c : (Int × Int × List Tree) × List Int) : Prop := ((True ∧ l.length ≤ (9223372036854775807 : Nat)) ∧ ¬((↑l.length : Int) = (↑l.length : Int) ∧ (0 : Int) ≤ (0 : Int) ∧ (0 : Int) ≤ (↑l.length : Int) ∧ l.length ≤ (9223372036854775807 : Nat)) → False) ∧ ((pixI.q0 l) ∧ pixF c.1.1 c.2 (List.drop (Int.toNat (0 : Int)) l) (0 : Int) = (-1 : Int) → True ∧ (c.1, (-1 : Int)) = (c.1, pixF c.1.1 c.2 l (0 : Int))) ∧ ((pixI.q0 l) ∧ (0 : Int) ≤ pixF c.1.1 c.2 (List.drop (Int.toNat (0 : Int)) l) (0 : Int) → True ∧ (c.1, pixF c.1.1 c.2 (List.drop (Int.toNat (0 : Int)) l) (0 : Int)) = (c.1, pixF c.1.1 c.2 l (0 : Int))) ∧ (True)
theorem pixI.eq  (l : List (Int × List Int)) (c : (Int × Int × List Tree) × List Int) : pixI.g  l c = pixI.T  l c := by kernel_rfl
theorem pixI.ok  (l : List (Int × List Int)) (c : (Int × Int × List Tree) × List Int) : pixI.T  l c := by
  delta pixI.T pixI.q0
  simp only [show Int.toNat 0 = 0 from rfl, List.drop_zero]
  ((repeat' (first | exact trivial | apply And.intro)) <;> (intro hw; (try (simp only [true_and, and_true, decide_eq_true_eq, decide_eq_false_iff_not, beq_iff_eq, bne_iff_ne, beq_eq_false_iff_ne, bne_eq_false_iff_eq, ne_eq, Bool.not_eq_true, Bool.not_eq_false, not_true_eq_false, not_false_eq_true, Bool.not_eq_eq_eq_not, Bool.not_true, Bool.not_false, forall_const, imp_self, Bool.true_eq_false, Bool.false_eq_true, reduceCtorEq] at hw)); (try first | (exfalso; omega) | exact ⟨trivial, rfl⟩ | exact (hw hx).elim | exact (hw.2 hx).elim)))
  · exact ⟨trivial, by rw [hw.2]⟩
  · exact ⟨trivial, trivial⟩
theorem pixI.fn   : FnOk Try.prog pixI := fn_evalH (l := [(0, pixL)]) (lf := 1000) (fun _ => cfOf_ok (fns_nil _)) _ (lps_cons (pixL.lp) (lps_nil _ _)) (by kernel_rfl) (fun ⟨l, c⟩ hx => Hid.of (pixI.eq  l c) (pixI.ok  l c))
end Go.Proofs.Ytdmljeaigjfenaa.D

namespace Go.Proofs.Ytdmljeaigjfenaa.D
open Go Go.EV Go.TL Go.Proofs
set_option linter.unusedVariables false
set_option linter.unusedSimpArgs false
set_option maxRecDepth 100000
abbrev RB : Type := List ByteArray × List ByteArray × List (Int × List Int) × ByteArray × Int
def one1 (s : ByteArray) : ByteArray := s.extract 1 s.size
def readK (f : ByteArray → Int → Option (Tree × (ByteArray × Int))) : Nat → ByteArray → Int → Option (List Tree × (ByteArray × Int))
  | 0, _, _ => none
  | m + 1, s, l => if begS s bShut = true then some ([], (s, l)) else if begS s bBlank = true then (match f (one1 s) l with
    | none => none
    | some (k, (s1, l1)) => match readK f m s1 l1 with
      | none => none
      | some (ks, r) => some (k :: ks, r)) else none
def symN (g : Gr) (s : ByteArray) : Int := (findS g (cutS s)).1
def readT : Nat → Gr → ByteArray → Int → Option (Tree × (ByteArray × Int))
  | 0, _, _, _ => none
  | n + 1, g, s, left => if begS s bOpen = true then (if symB g (one1 s) left = true then (match readK (readT n g) left.toNat (restS (one1 s)) (left - 1) with
      | none => none
      | some (ks, (s2, l2)) => if 0 ≤ pixF (symN g (one1 s)) (ks.map Tree.sym) g.2.2 0 then some (.mk (symN g (one1 s)) (pixF (symN g (one1 s)) (ks.map Tree.sym) g.2.2 0) ks, (one1 s2, l2)) else none) else none)
    else if symB g s left = true then some (.mk (symN g s) (-1) [], (restS s, left - 1)) else none
def gOf (b : RB) : Gr := (b.1, b.2.1, b.2.2.1)
def kS (d : Nat) (b : RB) : Option (List Tree × (ByteArray × Int)) := readK (readT d (gOf b)) (b.2.2.2.2.toNat + 1) b.2.2.2.1 b.2.2.2.2
def tS (d : Nat) (b : RB) : Option (Tree × (ByteArray × Int)) := readT d (gOf b) b.2.2.2.1 b.2.2.2.2
def getK (o : Option (List Tree × (ByteArray × Int))) : List Tree × (ByteArray × Int) := o.getD ([], (ByteArray.empty, 0))
def getT (o : Option (Tree × (ByteArray × Int))) : Tree × (ByteArray × Int) := o.getD (.mk 0 0 [], (ByteArray.empty, 0))
def rOk (d : Nat) (b : RB) : Prop := gSmall (gOf b) ∧ b.2.2.2.1.size ≤ 10000000 ∧ 0 ≤ b.2.2.2.2 ∧ b.2.2.2.2 ≤ 400 ∧ b.2.2.2.2 < d
theorem one1_size (s : ByteArray) : (one1 s).size ≤ s.size := by unfold one1; rw [ByteArray.size_extract]; omega
theorem restS_size (s : ByteArray) : (restS s).size ≤ s.size := by unfold restS; rw [ByteArray.size_extract]; omega
def Dec (f : ByteArray → Int → Option (Tree × (ByteArray × Int))) : Prop := ∀ s l t s1 l1, f s l = some (t, (s1, l1)) → s1.size ≤ s.size ∧ 0 ≤ l1 ∧ l1 < l
theorem readK_le {f : ByteArray → Int → Option (Tree × (ByteArray × Int))} (hf : Dec f) : ∀ (m : Nat) (s : ByteArray) (l : Int) (ks : List Tree) (s1 : ByteArray) (l1 : Int), readK f m s l = some (ks, (s1, l1)) → s1.size ≤ s.size ∧ l1 ≤ l ∧ (0 ≤ l → 0 ≤ l1)
  | 0, s, l, ks, s1, l1, h => by simp [readK] at h
  | m + 1, s, l, ks, s1, l1, h => by
    rw [readK] at h
    split at h
    · cases h; exact ⟨Nat.le_refl _, Int.le_refl _, fun h => h⟩
    · split at h
      · split at h
        · cases h
        · rename_i k s2 l2 hk
          obtain ⟨e1, e2, e3⟩ := hf _ _ _ _ _ hk
          split at h
          · cases h
          · rename_i ks' r hr
            cases h
            obtain ⟨e4, e5, e6⟩ := readK_le hf m s2 l2 _ _ _ hr
            have := one1_size s
            exact ⟨by omega, by omega, fun _ => e6 e2⟩
      · cases h
theorem readK_fuel {f : ByteArray → Int → Option (Tree × (ByteArray × Int))} (hf : Dec f) : ∀ (m n : Nat) (s : ByteArray) (l : Int), 0 ≤ l → l.toNat + 1 ≤ m → l.toNat + 1 ≤ n → readK f m s l = readK f n s l
  | 0, n, s, l, h0, h1, h2 => by omega
  | m + 1, 0, s, l, h0, h1, h2 => by omega
  | m + 1, n + 1, s, l, h0, h1, h2 => by
    rw [readK, readK]
    split
    · rfl
    · split
      · split
        · rfl
        · rename_i k s2 l2 hk
          obtain ⟨e1, e2, e3⟩ := hf _ _ _ _ _ hk
          rw [readK_fuel hf m n s2 l2 e2 (by omega) (by omega)]
      · rfl
theorem readT_dec : ∀ (n : Nat) (g : Gr), Dec (readT n g)
  | 0, g => fun s l t s1 l1 h => by simp [readT] at h
  | n + 1, g => fun s l t s1 l1 h => by
    have hl : ∀ {s : ByteArray}, symB g s l = true → 0 < l := fun {s} h => by
      simp only [symB, Bool.and_eq_true, decide_eq_true_eq] at h; exact h.2.2
    rw [readT] at h
    split at h
    · split at h
      · rename_i hs
        have := hl hs
        split at h
        · cases h
        · rename_i ks s2 l2 hk
          split at h
          · cases h
            obtain ⟨e1, e2, e3⟩ := readK_le (readT_dec n g) _ _ _ _ _ _ hk
            have a1 := one1_size s2
            have a2 := restS_size (one1 s)
            have a3 := one1_size s
            exact ⟨by omega, e3 (by omega), by omega⟩
          · cases h
      · cases h
    · split at h
      · rename_i hs
        have := hl hs
        cases h
        exact ⟨restS_size s, by omega, by omega⟩
      · cases h
theorem kS_end {d : Nat} {ts ns : List ByteArray} {ps : List (Int × List Int)} {s : ByteArray} {l : Int} (h : begS s bShut = true) : kS d (ts, ns, ps, s, l) = some ([], (s, l)) := by
  rw [kS, readK, if_pos h]
theorem kS_bad {d : Nat} {ts ns : List ByteArray} {ps : List (Int × List Int)} {s : ByteArray} {l : Int} (h : begS s bShut = false) (h2 : begS s bBlank = false) : kS d (ts, ns, ps, s, l) = none := by
  rw [kS, readK, if_neg (by rw [h]; exact Bool.false_ne_true), if_neg (by rw [h2]; exact Bool.false_ne_true)]
theorem kS_fail {d : Nat} {ts ns : List ByteArray} {ps : List (Int × List Int)} {s : ByteArray} {l : Int} (h : begS s bShut = false) (h2 : begS s bBlank = true) (h3 : tS d (ts, ns, ps, one1 s, l) = none) : kS d (ts, ns, ps, s, l) = none := by
  have h3 : readT d (ts, ns, ps) (one1 s) l = none := h3
  rw [kS, readK, if_neg (by rw [h]; exact Bool.false_ne_true), if_pos h2]
  simp only [gOf, h3]
theorem kS_step {d : Nat} {ts ns : List ByteArray} {ps : List (Int × List Int)} {s : ByteArray} {l : Int} {k : Tree} {s1 : ByteArray} {l1 : Int} (h : begS s bShut = false) (h2 : begS s bBlank = true) (h3 : tS d (ts, ns, ps, one1 s, l) = some (k, (s1, l1))) : kS d (ts, ns, ps, s, l) = match kS d (ts, ns, ps, s1, l1) with
    | none => none
    | some (ks, r) => some (k :: ks, r) := by
  have h3 : readT d (ts, ns, ps) (one1 s) l = some (k, (s1, l1)) := h3
  obtain ⟨e1, e2, e3⟩ := readT_dec _ _ _ _ _ _ _ h3
  have hf : readK (readT d (ts, ns, ps)) l.toNat s1 l1 = kS d (ts, ns, ps, s1, l1) := readK_fuel (readT_dec d (ts, ns, ps)) _ _ _ _ e2 (by omega) (Nat.le_refl _)
  rw [← hf]
  rw [kS, readK, if_neg (by rw [h]; exact Bool.false_ne_true), if_pos h2]
  simp only [gOf, h3]
noncomputable def rdT (d : Nat) : Face := ⟨39, [.box 75 [.v (.sl .str), .v (.sl .str), .v (.sl PR), .v .str, .v (.int .i64)]], fun b => some (rOk d b),
  [⟨false, [.box 75 [.v (.sl .str), .v (.sl .str), .v (.sl PR), .v .str, .v (.int .i64)], .v .tree], fun b => ((b.1, b.2.1, b.2.2.1, (getT (tS d b)).2.1, (getT (tS d b)).2.2), (getT (tS d b)).1), fun b => some ((tS d b).isSome = true)⟩,
   ⟨true, [.box 75 [.un, .un, .un, .un, .un], .k 72], fun b => (((), (), (), (), ()), ()), fun b => some ((tS d b).isSome = false)⟩]⟩
noncomputable def rdT.R9  : LFace := ⟨[0, 2, 3, 4, 5], [.box 75 [.v (.sl .str), .v (.sl .str), .v (.sl PR), .v .str, .v (.int .i64)], .box 33 [.un, .un, .un], .box 33 [.v (.int .i64), .v (.int .i64), .row .tree 33], .box 25 [.row (.int .i64) 3], .box 33 [.v (.int .i64), .v (.int .i64), .v (.sl .tree)]], fun (b, u, t, r, k) => some (t.2.2.length ≤ 1000 ∧ r.length ≤ 1000),
  [⟨.normal, [0, 2, 3, 4, 5], [.box 75 [.v (.sl .str), .v (.sl .str), .v (.sl PR), .v .str, .v (.int .i64)], .box 33 [.un, .un, .un], .box 33 [.v (.int .i64), .v (.int .i64), .row .tree 33], .box 25 [.row (.int .i64) 3], .box 33 [.un, .un, .un]], fun (b, u, t, r, k) => (b, u, (t.1, t.2.1, t.2.2 ++ [.mk k.1 k.2.1 k.2.2]), r ++ [k.1], ((), (), ())), fun (b, u, t, r, k) => none⟩]⟩
noncomputable def rdT.R9.g  (b : List ByteArray × List ByteArray × (List (Int × List Int)) × ByteArray × Int) (u : Unit × Unit × Unit) (t : Int × Int × List Tree) (r : List Int) (k : Int × Int × List Tree) : Prop := GoodPA Try.prog (cfOf []) [] 1000 39 1000009 rdT.R9 (b, u, t, r, k)
noncomputable def rdT.R9.q0 (b : List ByteArray × List ByteArray × List (Int × List Int) × ByteArray × Int) (u : Unit × Unit × Unit) (t : Int × Int × List Tree) (r : List Int) (k : Int × Int × List Tree) : Prop := (True ∧ (List.length t.2.2 + (1 : Nat)) * (40 : Nat) ≤ (140737488355328 : Nat)) ∧ (r.length + (1 : Nat)) * (8 : Nat) ≤ (140737488355328 : Nat) → True ∧ (b, ((), (), ()), (t.1, t.2.1, t.2.2 ++ [Tree.mk k.1 k.2.1 k.2.2]), r ++ [k.1], (), (), ()) = (b, u, (t.1, t.2.1, t.2.2 ++ [Tree.mk k.1 k.2.1 k.2.2]), r ++ [k.1], (), (), ())
noncomputable def rdT.R9.q1 (t : Int × Int × List Tree) (r : List Int) : Prop := (True ∧ (List.length t.2.2 + (1 : Nat)) * (40 : Nat) ≤ (140737488355328 : Nat)) ∧ ¬(r.length + (1 : Nat)) * (8 : Nat) ≤ (140737488355328 : Nat) → False
noncomputable def rdT.R9.T (b : List ByteArray × List ByteArray × List (Int × List Int) × ByteArray × Int) (u : Unit × Unit × Unit) (t : Int × Int × List Tree) (r : List Int) (k : Int × Int × List Tree) : Prop := (rdT.R9.q0 b u t r k) ∧ (rdT.R9.q1 t r) ∧ (True ∧ ¬(List.length t.2.2 + (1 : Nat)) * (40 : Nat) ≤ (140737488355328 : Nat) → False) ∧ (rdT.R9.q0 b u t r k) ∧ (rdT.R9.q1 t r) ∧ (True ∧ ¬(List.length t.2.2 + (1 : Nat)) * (40 : Nat) ≤ (140737488355328 : Nat) → False) ∧ (rdT.R9.q0 b u t r k) ∧ (rdT.R9.q1 t r) ∧ (True ∧ ¬(List.length t.2.2 + (1 : Nat)) * (40 : Nat) ≤ (140737488355328 : Nat) → False) ∧ (True)
theorem rdT.R9.eq  (b : List ByteArray × List ByteArray × (List (Int × List Int)) × ByteArray × Int) (u : Unit × Unit × Unit) (t : Int × Int × List Tree) (r : List Int) (k : Int × Int × List Tree) : rdT.R9.g  b u t r k = rdT.R9.T  b u t r k := by kernel_rfl
theorem rdT.R9.ok  (b : List ByteArray × List ByteArray × (List (Int × List Int)) × ByteArray × Int) (u : Unit × Unit × Unit) (t : Int × Int × List Tree) (r : List Int) (k : Int × Int × List Tree) (hx : t.2.2.length ≤ 1000 ∧ r.length ≤ 1000) : rdT.R9.T  b u t r k := by
  obtain ⟨h1, h2⟩ := hx
  delta rdT.R9.T rdT.R9.q0 rdT.R9.q1
  ((repeat' (first | exact trivial | apply And.intro)) <;> (intro hw; (try (simp only [true_and, and_true, decide_eq_true_eq, decide_eq_false_iff_not, beq_iff_eq, bne_iff_ne, beq_eq_false_iff_ne, bne_eq_false_iff_eq, ne_eq, Bool.not_eq_true, Bool.not_eq_false, not_true_eq_false, not_false_eq_true, Bool.not_eq_eq_eq_not, Bool.not_true, Bool.not_false, forall_const, imp_self, Bool.true_eq_false, Bool.false_eq_true, reduceCtorEq] at hw)); (try first | (exfalso; omega) | exact ⟨trivial, rfl⟩ | exact (hw hx).elim | exact (hw.2 hx).elim)))
theorem rdT.R9.lp   : LpAt Try.prog 39 1000009 rdT.R9 := pc_evalH (l := []) (lf := 1000) (fun _ => cfOf_ok (fns_nil _)) (lps_nil _ _) (by kernel_rfl) _ (fun ⟨b, u, t, r, k⟩ hx => Hid.of (rdT.R9.eq  b u t r k) (rdT.R9.ok  b u t r k hx))
noncomputable def rdT.L0 (d : Nat) : LFace := ⟨[0, 2, 3, 4], [.box 75 [.v (.sl .str), .v (.sl .str), .v (.sl PR), .v .str, .v (.int .i64)], .box 33 [.un, .un, .un], .box 33 [.v (.int .i64), .v (.int .i64), .row .tree 33], .box 25 [.row (.int .i64) 3]], fun (b, u, t, r) => some (rOk d b ∧ (t.2.2.length : Int) + b.2.2.2.2 ≤ 400 ∧ r.length = t.2.2.length),
  [⟨.normal, [0, 2, 3, 4], [.box 75 [.v (.sl .str), .v (.sl .str), .v (.sl PR), .v .str, .v (.int .i64)], .box 33 [.un, .un, .un], .box 33 [.v (.int .i64), .v (.int .i64), .row .tree 33], .box 25 [.row (.int .i64) 3]], fun (b, u, t, r) => ((b.1, b.2.1, b.2.2.1, (getK (kS d b)).2.1, (getK (kS d b)).2.2), u, (t.1, t.2.1, t.2.2 ++ (getK (kS d b)).1), r ++ (getK (kS d b)).1.map Tree.sym), fun (b, u, t, r) => some ((kS d b).isSome = true)⟩,
   ⟨.panic, [0, 2, 3, 4], [.box 75 [.un, .un, .un, .un, .un], .box 33 [.un, .un, .un], .box 33 [.un, .un, .un], .box 25 [.un], .k 72], fun (b, u, t, r) => (((), (), (), (), ()), ((), (), ()), ((), (), ()), (), ()), fun (b, u, t, r) => some ((kS d b).isSome = false)⟩]⟩
noncomputable def rdT.L0.mu (d : Nat) : dens (rdT.L0 d).sh → Nat := fun (b, u, t, r) => b.2.2.2.2.toNat
noncomputable def rdT.L0.g (d : Nat) (b : List ByteArray × List ByteArray × (List (Int × List Int)) × ByteArray × Int) (u : Unit × Unit × Unit) (t : Int × Int × List Tree) (r : List Int) : Prop := GoodLA Try.prog (cfOf [hpre2, takeF, rdT d]) [(1000009, rdT.R9)] 1000 39 0 (rdT.L0 d) (rdT.L0.mu d) (b, u, t, r)
noncomputable def rdT.L0.q0 (d : Nat) (b : List ByteArray × List ByteArray × List (Int × List Int) × ByteArray × Int) : Prop := ((True ∧ (!begS b.2.2.2.1 (ByteArray.mk #[(41 : UInt8)])) = true) ∧ begS b.2.2.2.1 (ByteArray.mk #[(32 : UInt8)]) = true) ∧ rOk d (b.1, b.2.1, b.2.2.1, ByteArray.extract b.2.2.2.1 (ByteArray.mk #[(32 : UInt8)]).size (ByteArray.size b.2.2.2.1), b.2.2.2.2)
noncomputable def rdT.L0.T0 (d : Nat) (b : List ByteArray × List ByteArray × List (Int × List Int) × ByteArray × Int) (u : Unit × Unit × Unit) (t : Int × Int × List Tree) (r : List Int) : Prop := (((True ∧ (!begS b.2.2.2.1 (ByteArray.mk #[(41 : UInt8)])) = true) ∧ begS b.2.2.2.1 (ByteArray.mk #[(32 : UInt8)]) = true) ∧ ¬rOk d (b.1, b.2.1, b.2.2.1, ByteArray.extract b.2.2.2.1 (ByteArray.mk #[(32 : UInt8)]).size (ByteArray.size b.2.2.2.1), b.2.2.2.2) → False) ∧ (((rdT.L0.q0 d b) ∧ (tS d (b.1, b.2.1, b.2.2.1, ByteArray.extract b.2.2.2.1 (ByteArray.mk #[(32 : UInt8)]).size (ByteArray.size b.2.2.2.1), b.2.2.2.2)).isSome = true) ∧ ¬(List.length t.2.2 ≤ (1000 : Nat) ∧ r.length ≤ (1000 : Nat)) → False) ∧ (((rdT.L0.q0 d b) ∧ (tS d (b.1, b.2.1, b.2.2.1, ByteArray.extract b.2.2.2.1 (ByteArray.mk #[(32 : UInt8)]).size (ByteArray.size b.2.2.2.1), b.2.2.2.2)).isSome = true) ∧ List.length t.2.2 ≤ (1000 : Nat) ∧ r.length ≤ (1000 : Nat) → (rOk d (b.1, b.2.1, b.2.2.1, (getT (tS d (b.1, b.2.1, b.2.2.1, ByteArray.extract b.2.2.2.1 (ByteArray.mk #[(32 : UInt8)]).size (ByteArray.size b.2.2.2.1), b.2.2.2.2))).2) ∧ (↑(t.2.2 ++ [eT (getT (tS d (b.1, b.2.1, b.2.2.1, ByteArray.extract b.2.2.2.1 (ByteArray.mk #[(32 : UInt8)]).size (ByteArray.size b.2.2.2.1), b.2.2.2.2))).1]).length : Int) + (getT (tS d (b.1, b.2.1, b.2.2.1, ByteArray.extract b.2.2.2.1 (ByteArray.mk #[(32 : UInt8)]).size (ByteArray.size b.2.2.2.1), b.2.2.2.2))).2.2 ≤ (400 : Int) ∧ (r ++ [(getT (tS d (b.1, b.2.1, b.2.2.1, ByteArray.extract b.2.2.2.1 (ByteArray.mk #[(32 : UInt8)]).size (ByteArray.size b.2.2.2.1), b.2.2.2.2))).1.sym]).length = (t.2.2 ++ [eT (getT (tS d (b.1, b.2.1, b.2.2.1, ByteArray.extract b.2.2.2.1 (ByteArray.mk #[(32 : UInt8)]).size (ByteArray.size b.2.2.2.1), b.2.2.2.2))).1]).length) ∧ rdT.L0.mu d ((b.1, b.2.1, b.2.2.1, (getT (tS d (b.1, b.2.1, b.2.2.1, ByteArray.extract b.2.2.2.1 (ByteArray.mk #[(32 : UInt8)]).size (ByteArray.size b.2.2.2.1), b.2.2.2.2))).2), ((), (), ()), (t.1, t.2.1, t.2.2 ++ [eT (getT (tS d (b.1, b.2.1, b.2.2.1, ByteArray.extract b.2.2.2.1 (ByteArray.mk #[(32 : UInt8)]).size (ByteArray.size b.2.2.2.1), b.2.2.2.2))).1]), r ++ [(getT (tS d (b.1, b.2.1, b.2.2.1, ByteArray.extract b.2.2.2.1 (ByteArray.mk #[(32 : UInt8)]).size (ByteArray.size b.2.2.2.1), b.2.2.2.2))).1.sym]) < rdT.L0.mu d (b, u, t, r) ∧ ((kS d (b.1, b.2.1, b.2.2.1, (getT (tS d (b.1, b.2.1, b.2.2.1, ByteArray.extract b.2.2.2.1 (ByteArray.mk #[(32 : UInt8)]).size (ByteArray.size b.2.2.2.1), b.2.2.2.2))).2)).isSome = true → (kS d b).isSome = true ∧ ((b.1, b.2.1, b.2.2.1, (getK (kS d (b.1, b.2.1, b.2.2.1, (getT (tS d (b.1, b.2.1, b.2.2.1, ByteArray.extract b.2.2.2.1 (ByteArray.mk #[(32 : UInt8)]).size (ByteArray.size b.2.2.2.1), b.2.2.2.2))).2))).2), ((), (), ()), (t.1, t.2.1, t.2.2 ++ [eT (getT (tS d (b.1, b.2.1, b.2.2.1, ByteArray.extract b.2.2.2.1 (ByteArray.mk #[(32 : UInt8)]).size (ByteArray.size b.2.2.2.1), b.2.2.2.2))).1] ++ (getK (kS d (b.1, b.2.1, b.2.2.1, (getT (tS d (b.1, b.2.1, b.2.2.1, ByteArray.extract b.2.2.2.1 (ByteArray.mk #[(32 : UInt8)]).size (ByteArray.size b.2.2.2.1), b.2.2.2.2))).2))).1), r ++ [(getT (tS d (b.1, b.2.1, b.2.2.1, ByteArray.extract b.2.2.2.1 (ByteArray.mk #[(32 : UInt8)]).size (ByteArray.size b.2.2.2.1), b.2.2.2.2))).1.sym] ++ List.map Tree.sym (getK (kS d (b.1, b.2.1, b.2.2.1, (getT (tS d (b.1, b.2.1, b.2.2.1, ByteArray.extract b.2.2.2.1 (ByteArray.mk #[(32 : UInt8)]).size (ByteArray.size b.2.2.2.1), b.2.2.2.2))).2))).1) = ((b.1, b.2.1, b.2.2.1, (getK (kS d b)).2), u, (t.1, t.2.1, t.2.2 ++ (getK (kS d b)).1), r ++ List.map Tree.sym (getK (kS d b)).1)) ∧ ((kS d (b.1, b.2.1, b.2.2.1, (getT (tS d (b.1, b.2.1, b.2.2.1, ByteArray.extract b.2.2.2.1 (ByteArray.mk #[(32 : UInt8)]).size (ByteArray.size b.2.2.2.1), b.2.2.2.2))).2)).isSome = false → (kS d b).isSome = false ∧ (((), (), (), (), ()), ((), (), ()), ((), (), ()), (), ()) = (((), (), (), (), ()), ((), (), ()), ((), (), ()), (), ())) ∧ True) ∧ ((rdT.L0.q0 d b) ∧ (tS d (b.1, b.2.1, b.2.2.1, ByteArray.extract b.2.2.2.1 (ByteArray.mk #[(32 : UInt8)]).size (ByteArray.size b.2.2.2.1), b.2.2.2.2)).isSome = false → (kS d b).isSome = false ∧ (((), (), (), (), ()), ((), (), ()), ((), (), ()), (), ()) = (((), (), (), (), ()), ((), (), ()), ((), (), ()), (), ())) ∧ ((True ∧ (!begS b.2.2.2.1 (ByteArray.mk #[(41 : UInt8)])) = true) ∧ begS b.2.2.2.1 (ByteArray.mk #[(32 : UInt8)]) = false → (kS d b).isSome = false ∧ (((), (), (), (), ()), ((), (), ()), ((), (), ()), (), ()) = (((), (), (), (), ()), ((), (), ()), ((), (), ()), (), ())) ∧ (True ∧ (!begS b.2.2.2.1 (ByteArray.mk #[(41 : UInt8)])) = false → (kS d b).isSome = true ∧ (b, ((), (), ()), t, r) = ((b.1, b.2.1, b.2.2.1, (getK (kS d b)).2), u, (t.1, t.2.1, t.2.2 ++ (getK (kS d b)).1), r ++ List.map Tree.sym (getK (kS d b)).1)) ∧ (True)
theorem rdT.L0.eq (d : Nat) (b : List ByteArray × List ByteArray × (List (Int × List Int)) × ByteArray × Int) (u : Unit × Unit × Unit) (t : Int × Int × List Tree) (r : List Int) : rdT.L0.g d b u t r = rdT.L0.T0 d b u t r := by kernel_rfl
theorem rdT.L0.ok (d : Nat) (b : List ByteArray × List ByteArray × (List (Int × List Int)) × ByteArray × Int) (u : Unit × Unit × Unit) (t : Int × Int × List Tree) (r : List Int) (hx : rOk d b ∧ (t.2.2.length : Int) + b.2.2.2.2 ≤ 400 ∧ r.length = t.2.2.length) : rdT.L0.T0 d b u t r := by
  delta rdT.L0.T0 rdT.L0.q0
  repeat rw [eT_eq]
  obtain ⟨ts, ns, ps, s, l⟩ := b
  obtain ⟨⟨h1, h2, h3, h4, h5⟩, h6, h7⟩ := hx
  have ho := one1_size s
  simp only [show (ByteArray.mk #[(41 : UInt8)]) = bShut from rfl, show (ByteArray.mk #[(32 : UInt8)]) = bBlank from rfl, show bBlank.size = 1 from rfl, show s.extract 1 s.size = one1 s from rfl] at *
  have hr : rOk d (ts, ns, ps, one1 s, l) := ⟨h1, Nat.le_trans ho h2, h3, h4, h5⟩
  have hend : begS s bShut = true → (kS d (ts, ns, ps, s, l)).isSome = true ∧
      (((ts, ns, ps, s, l), ((), (), ()), t, r) : RB × (Unit × Unit × Unit) × (Int × Int × List Tree) × List Int) =
        ((ts, ns, ps, (getK (kS d (ts, ns, ps, s, l))).snd), u,
          (t.fst, t.snd.fst, t.snd.snd ++ (getK (kS d (ts, ns, ps, s, l))).fst),
          r ++ List.map Tree.sym (getK (kS d (ts, ns, ps, s, l))).fst) := fun h => by
    rw [kS_end h]
    refine ⟨rfl, ?_⟩
    show _ = ((ts, ns, ps, s, l), u, (t.1, t.2.1, t.2.2 ++ []), r ++ List.map Tree.sym [])
    rw [List.append_nil, List.map_nil, List.append_nil]
  cases hT : tS d (ts, ns, ps, one1 s, l) with
  | none =>
    ((repeat' (first | exact trivial | apply And.intro)) <;> (intro hw; (try (simp only [true_and, and_true, decide_eq_true_eq, decide_eq_false_iff_not, beq_iff_eq, bne_iff_ne, beq_eq_false_iff_ne, bne_eq_false_iff_eq, ne_eq, Bool.not_eq_true, Bool.not_eq_false, not_true_eq_false, not_false_eq_true, Bool.not_eq_eq_eq_not, Bool.not_true, Bool.not_false, forall_const, imp_self, Bool.true_eq_false, Bool.false_eq_true, reduceCtorEq] at hw)); (try first | (exfalso; omega) | exact ⟨trivial, rfl⟩ | exact (hw hx).elim | exact (hw.2 hx).elim)))
    · exact hw.2 hr
    · have := hw.1.2; cases this
    · rw [kS_fail hw.1.1.1 hw.1.1.2 hT]; exact ⟨rfl, trivial⟩
    · rw [kS_bad hw.1 hw.2]; exact ⟨rfl, trivial⟩
    · exact hend hw
  | some q =>
    obtain ⟨k, s1, l1⟩ := q
    obtain ⟨e1, e2, e3⟩ := readT_dec _ _ _ _ _ _ _ hT
    have e1 : s1.size ≤ (one1 s).size := e1
    have e3 : l1 < l := e3
    ((repeat' (first | exact trivial | apply And.intro)) <;> (intro hw; (try (simp only [true_and, and_true, decide_eq_true_eq, decide_eq_false_iff_not, beq_iff_eq, bne_iff_ne, beq_eq_false_iff_ne, bne_eq_false_iff_eq, ne_eq, Bool.not_eq_true, Bool.not_eq_false, not_true_eq_false, not_false_eq_true, Bool.not_eq_eq_eq_not, Bool.not_true, Bool.not_false, forall_const, imp_self, Bool.true_eq_false, Bool.false_eq_true, reduceCtorEq] at hw)); (try first | (exfalso; omega) | exact ⟨trivial, rfl⟩ | exact (hw hx).elim | exact (hw.2 hx).elim)))
    · exact hw.2 hr
    · have g1 := hw.1.1.1.1
      have g2 := hw.1.1.1.2
      show (rOk d (ts, ns, ps, s1, l1) ∧ ((t.2.2 ++ [k]).length : Int) + l1 ≤ 400 ∧ (r ++ [k.sym]).length = (t.2.2 ++ [k]).length) ∧ l1.toNat < l.toNat ∧ ((kS d (ts, ns, ps, s1, l1)).isSome = true → _) ∧ ((kS d (ts, ns, ps, s1, l1)).isSome = false → _) ∧ True
      refine ⟨⟨⟨h1, by show s1.size ≤ _; omega, e2, by show l1 ≤ 400; omega, by show l1 < _; omega⟩, by rw [List.length_append]; simp only [List.length_cons, List.length_nil]; omega, by simp [h7]⟩, by omega, fun h => ?_, fun h => ?_, trivial⟩
      · rw [kS_step g1 g2 hT]
        show _ ∧ ((ts, ns, ps, (getK (kS d (ts, ns, ps, s1, l1))).snd), ((), (), ()), (t.1, t.2.1, t.2.2 ++ [k] ++ (getK (kS d (ts, ns, ps, s1, l1))).1), r ++ [k.sym] ++ List.map Tree.sym (getK (kS d (ts, ns, ps, s1, l1))).1) = _
        cases hk : kS d (ts, ns, ps, s1, l1) with
        | none => rw [hk] at h; cases h
        | some q =>
          obtain ⟨ks, s2, l2⟩ := q
          refine ⟨rfl, ?_⟩
          show ((ts, ns, ps, s2, l2), ((), (), ()), (t.1, t.2.1, t.2.2 ++ [k] ++ ks), r ++ [k.sym] ++ List.map Tree.sym ks) = ((ts, ns, ps, s2, l2), u, (t.1, t.2.1, t.2.2 ++ (k :: ks)), r ++ List.map Tree.sym (k :: ks))
          simp
      · rw [kS_step g1 g2 hT]
        cases hk : kS d (ts, ns, ps, s1, l1) with
        | none => exact ⟨rfl, trivial⟩
        | some q => rw [hk] at h; cases h
    · have := hw.2; cases this
    · rw [kS_bad hw.1 hw.2]; exact ⟨rfl, trivial⟩
    · exact hend hw
theorem rdT.L0.lp (d : Nat) (ih : FnOk Try.prog (rdT d)) : LpAt Try.prog 39 0 (rdT.L0 d) := lp_evalH (l := [(1000009, rdT.R9)]) (lf := 1000) (fun _ => cfOf_ok (fns_cons hpre2.fn (fns_cons takeF.fn (fns_cons ih (fns_nil _))))) (lps_cons (rdT.R9.lp) (lps_nil _ _)) (by kernel_rfl) _ (rdT.L0.mu d) (fun ⟨b, u, t, r⟩ hx => Hid.of (rdT.L0.eq d b u t r) (rdT.L0.ok d b u t r hx))
end Go.Proofs.Ytdmljeaigjfenaa.D

namespace Go.Proofs.Ytdmljeaigjfenaa.D
open Go Go.EV Go.TL Go.Proofs
set_option linter.unusedVariables false
set_option linter.unusedSimpArgs false
set_option maxRecDepth 100000
theorem readK_shut {f : ByteArray → Int → Option (Tree × (ByteArray × Int))} : ∀ (m : Nat) (s : ByteArray) (l : Int) (ks : List Tree) (s1 : ByteArray) (l1 : Int), readK f m s l = some (ks, (s1, l1)) → begS s1 bShut = true
  | 0, s, l, ks, s1, l1, h => by simp [readK] at h
  | m + 1, s, l, ks, s1, l1, h => by
    rw [readK] at h
    split at h
    · cases h; assumption
    · split at h
      · split at h
        · cases h
        · rename_i k s2 l2 hk
          split at h
          · cases h
          · rename_i ks' r hr
            cases h
            exact readK_shut m s2 l2 _ _ _ hr
      · cases h
section
variable {d : Nat} {ts ns : List ByteArray} {ps : List (Int × List Int)} {s : ByteArray} {l : Int}
theorem tS_a (h : begS s bOpen = false) (h2 : symB (ts, ns, ps) s l = true) : tS (d + 1) (ts, ns, ps, s, l) = some (.mk (symN (ts, ns, ps) s) (-1) [], (restS s, l - 1)) := by
  show readT (d + 1) (ts, ns, ps) s l = _
  rw [readT, if_neg (by rw [h]; exact Bool.false_ne_true), if_pos h2]
theorem tS_b (h : begS s bOpen = false) (h2 : symB (ts, ns, ps) s l = false) : tS (d + 1) (ts, ns, ps, s, l) = none := by
  show readT (d + 1) (ts, ns, ps) s l = _
  rw [readT, if_neg (by rw [h]; exact Bool.false_ne_true), if_neg (by rw [h2]; exact Bool.false_ne_true)]
theorem tS_c (h : begS s bOpen = true) (h2 : symB (ts, ns, ps) (one1 s) l = false) : tS (d + 1) (ts, ns, ps, s, l) = none := by
  show readT (d + 1) (ts, ns, ps) s l = _
  rw [readT, if_pos h, if_neg (by rw [h2]; exact Bool.false_ne_true)]
theorem symB_pos {g : Gr} (h : symB g s l = true) : 0 < l := by
  simp only [symB, Bool.and_eq_true, decide_eq_true_eq] at h; exact h.2.2
theorem tS_d (h : begS s bOpen = true) (h2 : symB (ts, ns, ps) (one1 s) l = true) (h3 : kS d (ts, ns, ps, restS (one1 s), l - 1) = none) : tS (d + 1) (ts, ns, ps, s, l) = none := by
  have hl := symB_pos h2
  have h3 : readK (readT d (ts, ns, ps)) ((l - 1).toNat + 1) (restS (one1 s)) (l - 1) = none := h3
  rw [show (l - 1).toNat + 1 = l.toNat by omega] at h3
  show readT (d + 1) (ts, ns, ps) s l = _
  rw [readT, if_pos h, if_pos h2]
  simp only [h3]
theorem tS_e {ks : List Tree} {s2 : ByteArray} {l2 : Int} (h : begS s bOpen = true) (h2 : symB (ts, ns, ps) (one1 s) l = true) (h3 : kS d (ts, ns, ps, restS (one1 s), l - 1) = some (ks, (s2, l2))) : tS (d + 1) (ts, ns, ps, s, l) = if 0 ≤ pixF (symN (ts, ns, ps) (one1 s)) (ks.map Tree.sym) ps 0 then some (.mk (symN (ts, ns, ps) (one1 s)) (pixF (symN (ts, ns, ps) (one1 s)) (ks.map Tree.sym) ps 0) ks, (one1 s2, l2)) else none := by
  have hl := symB_pos h2
  have h3 : readK (readT d (ts, ns, ps)) ((l - 1).toNat + 1) (restS (one1 s)) (l - 1) = some (ks, (s2, l2)) := h3
  rw [show (l - 1).toNat + 1 = l.toNat by omega] at h3
  show readT (d + 1) (ts, ns, ps) s l = _
  rw [readT, if_pos h, if_pos h2]
  simp only [h3]
end
theorem rOk_mk {d : Nat} {ts ns : List ByteArray} {ps : List (Int × List Int)} {s : ByteArray} {l : Int} (h1 : gSmall (ts, ns, ps)) (h2 : s.size ≤ 10000000) (h3 : 0 ≤ l) (h4 : l ≤ 400) (h5 : l < (d : Int)) : rOk d (ts, ns, ps, s, l) := ⟨h1, h2, h3, h4, h5⟩
theorem rOk_inv {d : Nat} {ts ns : List ByteArray} {ps : List (Int × List Int)} {s : ByteArray} {l : Int} (h : rOk d (ts, ns, ps, s, l)) : gSmall (ts, ns, ps) ∧ s.size ≤ 10000000 ∧ 0 ≤ l ∧ l ≤ 400 ∧ l < (d : Int) := h
noncomputable def rdTA (d : Nat) : Face := ⟨39, [.box 75 [.v (.sl .str), .v (.sl .str), .v (.sl PR), .v .str, .v (.int .i64)]], fun b => some (rOk (d + 1) b),
  [⟨false, [.box 75 [.v (.sl .str), .v (.sl .str), .v (.sl PR), .v .str, .v (.int .i64)], .v .tree], fun b => ((b.1, b.2.1, b.2.2.1, (getT (tS (d + 1) b)).2.1, (getT (tS (d + 1) b)).2.2), (getT (tS (d + 1) b)).1), fun b => some ((tS (d + 1) b).isSome = true)⟩,
   ⟨true, [.box 75 [.un, .un, .un, .un, .un], .k 72], fun b => (((), (), (), (), ()), ()), fun b => some ((tS (d + 1) b).isSome = false)⟩]⟩
noncomputable def rdTA.g (d : Nat) (b : List ByteArray × List ByteArray × (List (Int × List Int)) × ByteArray × Int) : Prop := GoodFA Try.prog (cfOf [hpre2, takeF, symF, pixI, needF]) [(0, rdT.L0 d)] 1000 (rdTA d) b
noncomputable def rdTA.q1 (b : List ByteArray × List ByteArray × List (Int × List Int) × ByteArray × Int) : Prop := ((True ∧ (!begS b.2.2.2.1 (ByteArray.mk #[(40 : UInt8)])) = false) ∧ begS b.2.2.2.1 (ByteArray.mk #[(40 : UInt8)]) = true) ∧ gSmall (b.1, b.2.1, b.2.2.1) ∧ (ByteArray.extract b.2.2.2.1 (ByteArray.mk #[(40 : UInt8)]).size (ByteArray.size b.2.2.2.1)).size ≤ (10000000 : Nat) ∧ b.2.2.2.2 ≤ (400 : Int)
noncomputable def rdTA.q0 (d : Nat) (b : List ByteArray × List ByteArray × List (Int × List Int) × ByteArray × Int) : Prop := ((rdTA.q1 b) ∧ symB (b.1, b.2.1, b.2.2.1) (ByteArray.extract b.2.2.2.1 (ByteArray.mk #[(40 : UInt8)]).size (ByteArray.size b.2.2.2.1)) b.2.2.2.2 = true) ∧ rOk d (b.1, b.2.1, b.2.2.1, restS (ByteArray.extract b.2.2.2.1 (ByteArray.mk #[(40 : UInt8)]).size (ByteArray.size b.2.2.2.1)), b.2.2.2.2 - (1 : Int)) ∧ (↑(0 : Nat) : Int) + (b.2.2.2.2 - (1 : Int)) ≤ (400 : Int) ∧ (0 : Nat) = (0 : Nat)
noncomputable def rdTA.q3 (d : Nat) (b : List ByteArray × List ByteArray × List (Int × List Int) × ByteArray × Int) : Prop := (rdTA.q0 d b) ∧ (kS d (b.1, b.2.1, b.2.2.1, restS (ByteArray.extract b.2.2.2.1 (ByteArray.mk #[(40 : UInt8)]).size (ByteArray.size b.2.2.2.1)), b.2.2.2.2 - (1 : Int))).isSome = true
noncomputable def rdTA.q2 (d : Nat) (b : List ByteArray × List ByteArray × List (Int × List Int) × ByteArray × Int) : Prop := (rdTA.q3 d b) ∧ begS (getK (kS d (b.1, b.2.1, b.2.2.1, restS (ByteArray.extract b.2.2.2.1 (ByteArray.mk #[(40 : UInt8)]).size (ByteArray.size b.2.2.2.1)), b.2.2.2.2 - (1 : Int)))).2.1 (ByteArray.mk #[(41 : UInt8)]) = true
noncomputable def rdTA.q4 (b : List ByteArray × List ByteArray × List (Int × List Int) × ByteArray × Int) : Prop := (True ∧ (!begS b.2.2.2.1 (ByteArray.mk #[(40 : UInt8)])) = true) ∧ gSmall (b.1, b.2.1, b.2.2.1) ∧ ByteArray.size b.2.2.2.1 ≤ (10000000 : Nat) ∧ b.2.2.2.2 ≤ (400 : Int)
noncomputable def rdTA.T (d : Nat) (b : List ByteArray × List ByteArray × List (Int × List Int) × ByteArray × Int) : Prop := ((True ∧ (!begS b.2.2.2.1 (ByteArray.mk #[(40 : UInt8)])) = true) ∧ ¬(gSmall (b.1, b.2.1, b.2.2.1) ∧ ByteArray.size b.2.2.2.1 ≤ (10000000 : Nat) ∧ b.2.2.2.2 ≤ (400 : Int)) → False) ∧ ((rdTA.q4 b) ∧ symB (b.1, b.2.1, b.2.2.1) b.2.2.2.1 b.2.2.2.2 = true → (tS (d + (1 : Nat)) b).isSome = true ∧ ((b.1, b.2.1, b.2.2.1, restS b.2.2.2.1, b.2.2.2.2 - (1 : Int)), Tree.mk (findS (b.1, b.2.1, b.2.2.1) (cutS b.2.2.2.1)).1 (-1 : Int) []) = ((b.1, b.2.1, b.2.2.1, (getT (tS (d + (1 : Nat)) b)).2), (getT (tS (d + (1 : Nat)) b)).1)) ∧ ((rdTA.q4 b) ∧ symB (b.1, b.2.1, b.2.2.1) b.2.2.2.1 b.2.2.2.2 = false → (tS (d + (1 : Nat)) b).isSome = false ∧ (((), (), (), (), ()), ()) = (((), (), (), (), ()), ())) ∧ (((True ∧ (!begS b.2.2.2.1 (ByteArray.mk #[(40 : UInt8)])) = false) ∧ begS b.2.2.2.1 (ByteArray.mk #[(40 : UInt8)]) = true) ∧ ¬(gSmall (b.1, b.2.1, b.2.2.1) ∧ (ByteArray.extract b.2.2.2.1 (ByteArray.mk #[(40 : UInt8)]).size (ByteArray.size b.2.2.2.1)).size ≤ (10000000 : Nat) ∧ b.2.2.2.2 ≤ (400 : Int)) → False) ∧ (((rdTA.q1 b) ∧ symB (b.1, b.2.1, b.2.2.1) (ByteArray.extract b.2.2.2.1 (ByteArray.mk #[(40 : UInt8)]).size (ByteArray.size b.2.2.2.1)) b.2.2.2.2 = true) ∧ ¬(rOk d (b.1, b.2.1, b.2.2.1, restS (ByteArray.extract b.2.2.2.1 (ByteArray.mk #[(40 : UInt8)]).size (ByteArray.size b.2.2.2.1)), b.2.2.2.2 - (1 : Int)) ∧ (↑(0 : Nat) : Int) + (b.2.2.2.2 - (1 : Int)) ≤ (400 : Int) ∧ (0 : Nat) = (0 : Nat)) → False) ∧ ((rdTA.q2 d b) ∧ decide (pixF (findS (b.1, b.2.1, b.2.2.1) (cutS (ByteArray.extract b.2.2.2.1 (ByteArray.mk #[(40 : UInt8)]).size (ByteArray.size b.2.2.2.1)))).1 ([] ++ List.map Tree.sym (getK (kS d (b.1, b.2.1, b.2.2.1, restS (ByteArray.extract b.2.2.2.1 (ByteArray.mk #[(40 : UInt8)]).size (ByteArray.size b.2.2.2.1)), b.2.2.2.2 - (1 : Int)))).1) b.2.2.1 (0 : Int) ≥ (0 : Int)) = true → (tS (d + (1 : Nat)) b).isSome = true ∧ ((b.1, b.2.1, b.2.2.1, (getK (kS d (b.1, b.2.1, b.2.2.1, restS (ByteArray.extract b.2.2.2.1 (ByteArray.mk #[(40 : UInt8)]).size (ByteArray.size b.2.2.2.1)), b.2.2.2.2 - (1 : Int)))).2.1.extract (ByteArray.mk #[(41 : UInt8)]).size (getK (kS d (b.1, b.2.1, b.2.2.1, restS (ByteArray.extract b.2.2.2.1 (ByteArray.mk #[(40 : UInt8)]).size (ByteArray.size b.2.2.2.1)), b.2.2.2.2 - (1 : Int)))).2.1.size, (getK (kS d (b.1, b.2.1, b.2.2.1, restS (ByteArray.extract b.2.2.2.1 (ByteArray.mk #[(40 : UInt8)]).size (ByteArray.size b.2.2.2.1)), b.2.2.2.2 - (1 : Int)))).2.2), Tree.mk (findS (b.1, b.2.1, b.2.2.1) (cutS (ByteArray.extract b.2.2.2.1 (ByteArray.mk #[(40 : UInt8)]).size (ByteArray.size b.2.2.2.1)))).1 (pixF (findS (b.1, b.2.1, b.2.2.1) (cutS (ByteArray.extract b.2.2.2.1 (ByteArray.mk #[(40 : UInt8)]).size (ByteArray.size b.2.2.2.1)))).1 ([] ++ List.map Tree.sym (getK (kS d (b.1, b.2.1, b.2.2.1, restS (ByteArray.extract b.2.2.2.1 (ByteArray.mk #[(40 : UInt8)]).size (ByteArray.size b.2.2.2.1)), b.2.2.2.2 - (1 : Int)))).1) b.2.2.1 (0 : Int)) ([] ++ (getK (kS d (b.1, b.2.1, b.2.2.1, restS (ByteArray.extract b.2.2.2.1 (ByteArray.mk #[(40 : UInt8)]).size (ByteArray.size b.2.2.2.1)), b.2.2.2.2 - (1 : Int)))).1)) = ((b.1, b.2.1, b.2.2.1, (getT (tS (d + (1 : Nat)) b)).2), (getT (tS (d + (1 : Nat)) b)).1)) ∧ ((rdTA.q2 d b) ∧ decide (pixF (findS (b.1, b.2.1, b.2.2.1) (cutS (ByteArray.extract b.2.2.2.1 (ByteArray.mk #[(40 : UInt8)]).size (ByteArray.size b.2.2.2.1)))).1 ([] ++ List.map Tree.sym (getK (kS d (b.1, b.2.1, b.2.2.1, restS (ByteArray.extract b.2.2.2.1 (ByteArray.mk #[(40 : UInt8)]).size (ByteArray.size b.2.2.2.1)), b.2.2.2.2 - (1 : Int)))).1) b.2.2.1 (0 : Int) ≥ (0 : Int)) = false → (tS (d + (1 : Nat)) b).isSome = false ∧ (((), (), (), (), ()), ()) = (((), (), (), (), ()), ())) ∧ ((rdTA.q3 d b) ∧ begS (getK (kS d (b.1, b.2.1, b.2.2.1, restS (ByteArray.extract b.2.2.2.1 (ByteArray.mk #[(40 : UInt8)]).size (ByteArray.size b.2.2.2.1)), b.2.2.2.2 - (1 : Int)))).2.1 (ByteArray.mk #[(41 : UInt8)]) = false → (tS (d + (1 : Nat)) b).isSome = false ∧ (((), (), (), (), ()), ()) = (((), (), (), (), ()), ())) ∧ ((rdTA.q0 d b) ∧ (kS d (b.1, b.2.1, b.2.2.1, restS (ByteArray.extract b.2.2.2.1 (ByteArray.mk #[(40 : UInt8)]).size (ByteArray.size b.2.2.2.1)), b.2.2.2.2 - (1 : Int))).isSome = false → (tS (d + (1 : Nat)) b).isSome = false ∧ (((), (), (), (), ()), ()) = (((), (), (), (), ()), ())) ∧ ((rdTA.q1 b) ∧ symB (b.1, b.2.1, b.2.2.1) (ByteArray.extract b.2.2.2.1 (ByteArray.mk #[(40 : UInt8)]).size (ByteArray.size b.2.2.2.1)) b.2.2.2.2 = false → (tS (d + (1 : Nat)) b).isSome = false ∧ (((), (), (), (), ()), ()) = (((), (), (), (), ()), ())) ∧ ((True ∧ (!begS b.2.2.2.1 (ByteArray.mk #[(40 : UInt8)])) = false) ∧ begS b.2.2.2.1 (ByteArray.mk #[(40 : UInt8)]) = false → (tS (d + (1 : Nat)) b).isSome = false ∧ (((), (), (), (), ()), ()) = (((), (), (), (), ()), ())) ∧ (True)
theorem rdTA.eq (d : Nat) (b : List ByteArray × List ByteArray × (List (Int × List Int)) × ByteArray × Int) : rdTA.g d b = rdTA.T d b := by kernel_rfl
theorem rdTA.ok (d : Nat) (b : List ByteArray × List ByteArray × (List (Int × List Int)) × ByteArray × Int) (hx : rOk (d + 1) b) : rdTA.T d b := by
  obtain ⟨ts, ns, ps, s, l⟩ := b
  obtain ⟨h1, h2, h3, h4, h5⟩ := rOk_inv hx
  have ho := one1_size s
  have hr := restS_size (one1 s)
  delta rdTA.T rdTA.q1 rdTA.q0 rdTA.q3 rdTA.q2 rdTA.q4
  simp only [show (ByteArray.mk #[(41 : UInt8)]) = bShut from rfl, show (ByteArray.mk #[(40 : UInt8)]) = bOpen from rfl, show bShut.size = 1 from rfl, show bOpen.size = 1 from rfl, show ∀ s : ByteArray, s.extract 1 s.size = one1 s from fun _ => rfl, List.nil_append, show ∀ s, (findS (ts, ns, ps) (cutS s)).fst = symN (ts, ns, ps) s from fun _ => rfl] at *
  have q1 : gSmall (ts, ns, ps) ∧ s.size ≤ 10000000 ∧ l ≤ 400 := ⟨h1, h2, h4⟩
  have q2 : gSmall (ts, ns, ps) ∧ (one1 s).size ≤ 10000000 ∧ l ≤ 400 := ⟨h1, Nat.le_trans ho h2, h4⟩
  have q3 : 0 < l → rOk d (ts, ns, ps, restS (one1 s), l - 1) ∧ ((0 : Nat) : Int) + (l - 1) ≤ 400 := fun h => ⟨rOk_mk h1 (by omega) (by omega) (by omega) (by omega), by omega⟩
  have hleaf : begS s bOpen = false → symB (ts, ns, ps) s l = true → (tS (d + 1) (ts, ns, ps, s, l)).isSome = true ∧
      (((ts, ns, ps, restS s, l - 1), Tree.mk (symN (ts, ns, ps) s) (-1) []) : RB × Tree) =
        ((ts, ns, ps, (getT (tS (d + 1) (ts, ns, ps, s, l))).snd), (getT (tS (d + 1) (ts, ns, ps, s, l))).fst) := fun h h2 => by
    rw [tS_a h h2]; exact ⟨rfl, rfl⟩
  cases hk : kS d (ts, ns, ps, restS (one1 s), l - 1) with
  | none =>
    ((repeat' (first | exact trivial | apply And.intro)) <;> (intro hw; (try (simp only [true_and, and_true, decide_eq_true_eq, decide_eq_false_iff_not, beq_iff_eq, bne_iff_ne, beq_eq_false_iff_ne, bne_eq_false_iff_eq, ne_eq, Bool.not_eq_true, Bool.not_eq_false, not_true_eq_false, not_false_eq_true, Bool.not_eq_eq_eq_not, Bool.not_true, Bool.not_false, forall_const, imp_self, Bool.true_eq_false, Bool.false_eq_true, reduceCtorEq] at hw)); (try first | (exfalso; omega) | exact ⟨trivial, rfl⟩ | exact (hw hx).elim | exact (hw.2 hx).elim)))
    · exact hw.2 q1
    · exact hleaf hw.1.1 hw.2
    · rw [tS_b hw.1.1 hw.2]; exact ⟨rfl, trivial⟩
    · exact hw.2 q2
    · exact hw.2 (q3 (symB_pos hw.1.2))
    · exact nomatch hw.1.1.2
    · exact nomatch hw.1.1.2
    · exact nomatch hw.1.2
    · rw [tS_d hw.1.1.1.1.1 hw.1.1.2 hk]; exact ⟨rfl, trivial⟩
    · rw [tS_c hw.1.1.1 hw.2]; exact ⟨rfl, trivial⟩
    · exact nomatch (hw.1.symm.trans hw.2)
  | some q =>
    obtain ⟨ks, s2, l2⟩ := q
    have hs := readK_shut _ _ _ _ _ _ hk
    ((repeat' (first | exact trivial | apply And.intro)) <;> (intro hw; (try (simp only [true_and, and_true, decide_eq_true_eq, decide_eq_false_iff_not, beq_iff_eq, bne_iff_ne, beq_eq_false_iff_ne, bne_eq_false_iff_eq, ne_eq, Bool.not_eq_true, Bool.not_eq_false, not_true_eq_false, not_false_eq_true, Bool.not_eq_eq_eq_not, Bool.not_true, Bool.not_false, forall_const, imp_self, Bool.true_eq_false, Bool.false_eq_true, reduceCtorEq] at hw)); (try first | (exfalso; omega) | exact ⟨trivial, rfl⟩ | exact (hw hx).elim | exact (hw.2 hx).elim)))
    · exact hw.2 q1
    · exact hleaf hw.1.1 hw.2
    · rw [tS_b hw.1.1 hw.2]; exact ⟨rfl, trivial⟩
    · exact hw.2 q2
    · exact hw.2 (q3 (symB_pos hw.1.2))
    · rw [tS_e hw.1.1.1.1.1.1.1 hw.1.1.1.1.2 hk, if_pos (show 0 ≤ pixF (symN (ts, ns, ps) (one1 s)) (List.map Tree.sym ks) ps 0 from hw.2)]; exact ⟨rfl, rfl⟩
    · rw [tS_e hw.1.1.1.1.1.1.1 hw.1.1.1.1.2 hk, if_neg (show ¬ 0 ≤ pixF (symN (ts, ns, ps) (one1 s)) (List.map Tree.sym ks) ps 0 from hw.2)]; exact ⟨rfl, trivial⟩
    · exact nomatch (hs.symm.trans hw.2)
    · exact nomatch hw.2
    · rw [tS_c hw.1.1.1 hw.2]; exact ⟨rfl, trivial⟩
    · exact nomatch (hw.1.symm.trans hw.2)
theorem rdTA.fn (d : Nat) (ih : FnOk Try.prog (rdT d)) : FnOk Try.prog (rdTA d) := fn_evalH (l := [(0, rdT.L0 d)]) (lf := 1000) (fun _ => cfOf_ok (fns_cons hpre2.fn (fns_cons takeF.fn (fns_cons symF.fn (fns_cons pixI.fn (fns_cons needF.fn (fns_nil _))))))) _ (lps_cons (rdT.L0.lp d ih) (lps_nil _ _)) (by kernel_rfl) (fun b hx => Hid.of (rdTA.eq d b) (rdTA.ok d b hx))
theorem rdT.fn : ∀ d, FnOk Try.prog (rdT d)
  | 0 => fn_none fun b h => by
    have h : rOk 0 b := h
    have h1 := h.2.2.1
    have h2 := h.2.2.2.2
    omega
  | d + 1 => rdTA.fn d (rdT.fn d)
def tparseS (g : Gr) (s : ByteArray) : Tree × Int := match tS 401 (g.1, g.2.1, g.2.2, s, 400) with
  | some (t, (r, _)) => if r.toList = [] then (t, 0) else (.mk 0 0 [], 2)
  | none => (.mk 0 0 [], 2)
noncomputable def tparse  : Face := ⟨14, [.v GR, .v .str], fun (g, s) => some (gSmall g ∧ s.size ≤ 10000000),
  [⟨false, [.v .tree, .v (.int .i64)], fun (g, s) => tparseS g s, fun (g, s) => none⟩]⟩
noncomputable def tparse.g  (g : List ByteArray × List ByteArray × List (Int × List Int)) (s : ByteArray) : Prop := GoodFA Try.prog (cfOf [rdT 401, needF]) [] 1000 tparse (g, s)
noncomputable def tparse.T0 (g : List ByteArray × List ByteArray × List (Int × List Int)) (s : ByteArray) : Prop := (True ∧ ¬rOk (401 : Nat) (g.1, g.2.1, g.2.2, s, (400 : Int)) → False) ∧ (((True ∧ rOk (401 : Nat) (g.1, g.2.1, g.2.2, s, (400 : Int))) ∧ (tS (401 : Nat) (g.1, g.2.1, g.2.2, s, (400 : Int))).isSome = true) ∧ ((getT (tS (401 : Nat) (g.1, g.2.1, g.2.2, s, (400 : Int)))).2.1.toList == (ByteArray.mk #[]).toList) = true →
  True ∧ (eT (getT (tS (401 : Nat) (g.1, g.2.1, g.2.2, s, (400 : Int)))).1, (0 : Int)) = tparseS g s) ∧ (((True ∧ rOk (401 : Nat) (g.1, g.2.1, g.2.2, s, (400 : Int))) ∧ (tS (401 : Nat) (g.1, g.2.1, g.2.2, s, (400 : Int))).isSome = true) ∧ ((getT (tS (401 : Nat) (g.1, g.2.1, g.2.2, s, (400 : Int)))).2.1.toList == (ByteArray.mk #[]).toList) = false →
  True ∧ (Tree.mk (0 : Int) (0 : Int) [], (2 : Int)) = tparseS g s) ∧ ((True ∧ rOk (401 : Nat) (g.1, g.2.1, g.2.2, s, (400 : Int))) ∧ (tS (401 : Nat) (g.1, g.2.1, g.2.2, s, (400 : Int))).isSome = false → True ∧ (Tree.mk (0 : Int) (0 : Int) [], (2 : Int)) = tparseS g s) ∧ (True)
theorem tparse.eq  (g : List ByteArray × List ByteArray × List (Int × List Int)) (s : ByteArray) : tparse.g  g s = tparse.T0  g s := by kernel_rfl
theorem tparse.ok  (g : List ByteArray × List ByteArray × List (Int × List Int)) (s : ByteArray) (hx : gSmall g ∧ s.size ≤ 10000000) : tparse.T0  g s := by
  unfold tparse.T0
  repeat rw [eT_eq]
  have hr : rOk 401 (g.1, g.2.1, g.2.2, s, 400) := rOk_mk hx.1 hx.2 (by omega) (by omega) (by omega)
  have hn : (ByteArray.mk #[]).toList = [] := by rw [toList_data]
  rw [tparseS, hn]
  cases e : tS 401 (g.1, g.2.1, g.2.2, s, 400) with
  | none =>
    ((repeat' (first | exact trivial | apply And.intro)) <;> (intro hw; (try (simp only [true_and, and_true, decide_eq_true_eq, decide_eq_false_iff_not, beq_iff_eq, bne_iff_ne, beq_eq_false_iff_ne, bne_eq_false_iff_eq, ne_eq, Bool.not_eq_true, Bool.not_eq_false, not_true_eq_false, not_false_eq_true, Bool.not_eq_eq_eq_not, Bool.not_true, Bool.not_false, forall_const, imp_self, Bool.true_eq_false, Bool.false_eq_true, reduceCtorEq] at hw)); (try first | (exfalso; omega) | exact ⟨trivial, rfl⟩ | exact (hw hx).elim | exact (hw.2 hx).elim)))
    all_goals first
      | exact hw hr
      | exact nomatch hw.1.2
      | exact ⟨trivial, trivial⟩
  | some q =>
    obtain ⟨t, r, l⟩ := q
    ((repeat' (first | exact trivial | apply And.intro)) <;> (intro hw; (try (simp only [true_and, and_true, decide_eq_true_eq, decide_eq_false_iff_not, beq_iff_eq, bne_iff_ne, beq_eq_false_iff_ne, bne_eq_false_iff_eq, ne_eq, Bool.not_eq_true, Bool.not_eq_false, not_true_eq_false, not_false_eq_true, Bool.not_eq_eq_eq_not, Bool.not_true, Bool.not_false, forall_const, imp_self, Bool.true_eq_false, Bool.false_eq_true, reduceCtorEq] at hw)); (try first | (exfalso; omega) | exact ⟨trivial, rfl⟩ | exact (hw hx).elim | exact (hw.2 hx).elim)))
    · exact hw hr
    · exact ⟨trivial, by show (t, (0 : Int)) = if r.toList = [] then (t, (0 : Int)) else (Tree.mk 0 0 [], 2); rw [if_pos (show r.toList = [] from hw.2)]⟩
    · exact ⟨trivial, by show (Tree.mk 0 0 [], (2 : Int)) = if r.toList = [] then (t, (0 : Int)) else (Tree.mk 0 0 [], 2); rw [if_neg (show ¬ r.toList = [] from hw.2)]⟩
    · exact nomatch hw.2
theorem tparse.fn   : FnOk Try.prog tparse := fn_evalH (l := []) (lf := 1000) (fun _ => cfOf_ok (fns_cons (rdT.fn 401) (fns_cons needF.fn (fns_nil _)))) _ (lps_nil _ _) (by kernel_rfl) (fun ⟨g, s⟩ hx => Hid.of (tparse.eq  g s) (tparse.ok  g s hx))
end Go.Proofs.Ytdmljeaigjfenaa.D

namespace Go.Proofs.Ytdmljeaigjfenaa.D
open Go Go.EV Go.TL Go.Proofs
set_option linter.unusedVariables false
set_option linter.unusedSimpArgs false
set_option maxRecDepth 100000
theorem bs_extract (s : ByteArray) (a b : Nat) : bs (s.extract a b) = ((bs s).drop a).take (b - a) := by
  unfold bs
  rw [ByteArray.data_extract, Array.toList_extract]
  show List.map _ (List.take _ (List.drop _ _)) = _
  rw [List.map_take, List.map_drop]
theorem bs_one1 (s : ByteArray) : bs (one1 s) = (bs s).drop 1 := by
  rw [one1, bs_extract, List.take_of_length_le (by rw [List.length_drop, bs_len]; omega)]
theorem bs_cut (s : ByteArray) : bs (cutS s) = (bs s).take (endS s).toNat := by
  rw [cutS, bs_extract, List.drop_zero, Nat.sub_zero]
theorem bs_rest (s : ByteArray) : bs (restS s) = (bs s).drop (endS s).toNat := by
  rw [restS, bs_extract, List.take_of_length_le (by rw [List.length_drop, bs_len]; omega)]
theorem cut_split (s : ByteArray) : bs s = bs (cutS s) ++ bs (restS s) := by rw [bs_cut, bs_rest, List.take_append_drop]
theorem toList_iff {a b : ByteArray} : a.toList = b.toList ↔ a = b := ⟨fun h => bs_inj (toList_bs h), fun h => by rw [h]⟩
theorem begS_one {s p : ByteArray} {c : Int} (hp : bs p = [c]) : begS s p = true ↔ ∃ x, bs s = c :: x := by
  have h1 : p.size = 1 := by rw [← bs_len, hp]; rfl
  rw [begS, h1, Bool.and_eq_true, decide_eq_true_eq, beq_iff_eq, toList_iff]
  constructor
  · rintro ⟨h2, h3⟩
    have h4 := bs_extract s 0 1
    rw [h3, hp, List.drop_zero] at h4
    cases hs : bs s with
    | nil => rw [hs] at h4; simp at h4
    | cons a r => rw [hs] at h4; simp at h4; exact ⟨r, by rw [h4]⟩
  · rintro ⟨x, hx⟩
    refine ⟨by rw [← bs_len, hx]; simp, bs_inj ?_⟩
    rw [bs_extract, hp, hx]; rfl
theorem begS_no {s p : ByteArray} {c : Int} (hp : bs p = [c]) (h : ∀ x, bs s ≠ c :: x) : begS s p = false := by
  cases hb : begS s p with
  | false => rfl
  | true => obtain ⟨x, hx⟩ := (begS_one hp).1 hb; exact absurd hx (h x)
theorem bs_bOpen : bs bOpen = [40] := by decide
theorem bs_bShut : bs bShut = [41] := by decide
theorem bs_bBlank : bs bBlank = [32] := by decide
theorem setc (b : UInt8) : bSet.data.toList.contains b = decide ((b.toNat : Int) = 32 ∨ (b.toNat : Int) = 40 ∨ (b.toNat : Int) = 41) := by
  rw [Bool.eq_iff_iff, decide_eq_true_eq, List.contains_iff_mem]
  show b ∈ [32, 40, 41] ↔ _
  simp only [List.mem_cons, List.not_mem_nil, or_false, ← UInt8.toNat_inj]
  show b.toNat = 32 ∨ b.toNat = 40 ∨ b.toNat = 41 ↔ _
  omega
theorem endS_word {s : ByteArray} {w x : List Int} (h : bs s = w ++ x) (hw : 32 ∉ w ∧ 40 ∉ w ∧ 41 ∉ w) (hx : sepL x) : endS s = (w.length : Int) := by
  unfold endS idxS
  rw [ByteArray.toList_data_append, show bShut.data.toList = [41] from rfl]
  have hmap : s.data.toList.map (fun b => (b.toNat : Int)) = w ++ x := h
  have hlen : s.data.toList.length = w.length + x.length := by
    have := congrArg List.length hmap
    rw [List.length_map, List.length_append] at this; exact this
  have hno : Lib.NoAny (s.data.toList ++ [41]) bSet.data.toList w.length := fun j b hj hb => by
    rw [List.getElem?_append_left (by omega)] at hb
    have hb2 : (w ++ x)[j]? = some (b.toNat : Int) := by rw [← hmap, List.getElem?_map, hb]; rfl
    rw [List.getElem?_append_left hj] at hb2
    have hm := List.mem_of_getElem? hb2
    rw [setc, decide_eq_false_iff_not]
    rintro (e | e | e) <;> rw [e] at hm
    · exact hw.1 hm
    · exact hw.2.1 hm
    · exact hw.2.2 hm
  cases x with
  | nil =>
    have hl : s.data.toList.length = w.length := by simpa using hlen
    exact Lib.indexAny_hit (x := 41) hno (by rw [List.getElem?_append_right (by omega), hl, Nat.sub_self]; rfl) (by decide)
  | cons c r =>
    have hl : w.length < s.data.toList.length := by rw [hlen]; simp
    have hc : (s.data.toList.map (fun b => (b.toNat : Int)))[w.length]? = some c := by
      rw [hmap, List.getElem?_append_right (Nat.le_refl _), Nat.sub_self]; rfl
    rw [List.getElem?_map, List.getElem?_eq_getElem hl] at hc
    refine Lib.indexAny_hit (x := s.data.toList[w.length]) hno (by rw [List.getElem?_append_left hl, List.getElem?_eq_getElem hl]) ?_
    rw [setc, decide_eq_true_eq]
    have e : ((s.data.toList[w.length]).toNat : Int) = c := by simpa using hc
    rcases hx with hx | hx <;> omega
theorem cut_word {s : ByteArray} {w x : List Int} (h : bs s = w ++ x) (hw : 32 ∉ w ∧ 40 ∉ w ∧ 41 ∉ w) (hx : sepL x) : bs (cutS s) = w ∧ bs (restS s) = x := by
  rw [bs_cut, bs_rest, endS_word h hw hx, h, Int.toNat_natCast, List.take_left, List.drop_left]
  exact ⟨rfl, rfl⟩
theorem ixF_spec (v : ByteArray) : ∀ (l : List ByteArray) (i : Int), 0 ≤ i → 0 ≤ ixF v l i → ∃ k, k < l.length ∧ ixF v l i = i + (k : Int) ∧ l.getD k ByteArray.empty = v
  | [], i, _, h => by simp [ixF] at h
  | a :: r, i, h0, h => by
    rw [ixF] at h ⊢
    split
    · rename_i e
      exact ⟨0, by simp, by simp, by rw [List.getD_cons_zero]; exact (toList_iff.1 e).symm⟩
    · rename_i e
      rw [if_neg e] at h
      obtain ⟨k, h1, h2, h3⟩ := ixF_spec v r (i + 1) (by omega) h
      exact ⟨k + 1, by simpa using h1, by rw [h2]; push_cast; omega, by rw [List.getD_cons_succ]; exact h3⟩
theorem ixF_first (v : ByteArray) : ∀ (l : List ByteArray) (i : Int) (k : Nat), l.Nodup → k < l.length → l.getD k ByteArray.empty = v → ixF v l i = i + (k : Int)
  | [], i, k, _, h, _ => by simp at h
  | a :: r, i, 0, _, _, h => by
    rw [List.getD_cons_zero] at h
    rw [ixF, if_pos (by rw [h])]; simp
  | a :: r, i, k + 1, hn, hk, h => by
    rw [List.getD_cons_succ] at h
    have hk : k < r.length := by simpa using hk
    have hne : ¬ v.toList = a.toList := fun e => (List.nodup_cons.1 hn).1 (by rw [← toList_iff.1 e, ← h]; exact getD_mem hk)
    rw [ixF, if_neg hne, ixF_first v r (i + 1) k (List.nodup_cons.1 hn).2 hk h]
    push_cast; omega
theorem ixF_none (v : ByteArray) : ∀ (l : List ByteArray) (i : Int), v ∉ l → ixF v l i = -1
  | [], i, _ => rfl
  | a :: r, i, h => by
    simp only [List.mem_cons, not_or] at h
    rw [ixF, if_neg (fun e => h.1 (toList_iff.1 e)), ixF_none v r _ h.2]
theorem pixF_spec (s : Int) (q : List Int) : ∀ (l : List (Int × List Int)) (i : Int), 0 ≤ i → 0 ≤ pixF s q l i → ∃ k, k < l.length ∧ pixF s q l i = i + (k : Int) ∧ l.getD k (0, []) = (s, q)
  | [], i, _, h => by simp [pixF] at h
  | a :: r, i, h0, h => by
    rw [pixF] at h ⊢
    split
    · rename_i e
      exact ⟨0, by simp, by simp, by rw [List.getD_cons_zero]; exact Prod.ext e.1 e.2⟩
    · rename_i e
      rw [if_neg e] at h
      obtain ⟨k, h1, h2, h3⟩ := pixF_spec s q r (i + 1) (by omega) h
      exact ⟨k + 1, by simpa using h1, by rw [h2]; push_cast; omega, by rw [List.getD_cons_succ]; exact h3⟩
theorem pixF_first (s : Int) (q : List Int) : ∀ (l : List (Int × List Int)) (i : Int) (k : Nat), l.Nodup → k < l.length → l.getD k (0, []) = (s, q) → pixF s q l i = i + (k : Int)
  | [], i, k, _, h, _ => by simp at h
  | a :: r, i, 0, _, _, h => by
    rw [List.getD_cons_zero] at h
    rw [pixF, if_pos (by rw [h]; exact ⟨rfl, rfl⟩)]; simp
  | a :: r, i, k + 1, hn, hk, h => by
    rw [List.getD_cons_succ] at h
    have hk : k < r.length := by simpa using hk
    have hne : ¬ (a.1 = s ∧ a.2 = q) := fun e => (List.nodup_cons.1 hn).1 (by rw [show a = (s, q) from Prod.ext e.1 e.2, ← h]; exact getD_mem hk)
    rw [pixF, if_neg hne, pixF_first s q r (i + 1) k (List.nodup_cons.1 hn).2 hk h]
    push_cast; omega
theorem isS_iff (g : Gr) (s : Int) : isS g s = true ↔ (1 ≤ s ∧ s ≤ (g.1.length : Int)) ∨ (100 ≤ s ∧ s < 100 + (g.2.1.length : Int)) := by
  simp [isS, termS, nonS]
theorem nameS_term {g : Gr} (hs : gSmall g) {s : Int} (h : 1 ≤ s ∧ s ≤ (g.1.length : Int)) : nameS g s = g.1.getD (s - 1).toNat ByteArray.empty := by
  have ht : termS g s = true := by simp [termS, h.1, h.2]
  rw [nameS, if_neg (by omega), if_pos ht]
theorem nameS_non {g : Gr} (hs : gSmall g) {s : Int} (h : 100 ≤ s ∧ s < 100 + (g.2.1.length : Int)) : nameS g s = g.2.1.getD (s - 100).toNat ByteArray.empty := by
  have hs1 := hs.1
  have ht : ¬ termS g s = true := by simp only [termS, Bool.and_eq_true, decide_eq_true_eq]; omega
  have hn : nonS g s = true := by simp [nonS, h.1, h.2]
  rw [nameS, if_neg (by omega), if_neg ht, if_pos hn]
theorem findS_ok {g : Gr} (hs : gSmall g) {v : ByteArray} (h : (findS g v).2 = true) (h0 : (findS g v).1 ≠ 0) : isS g (findS g v).1 = true ∧ nameS g (findS g v).1 = v := by
  unfold findS at h h0 ⊢
  split at h
  · rename_i e; rw [if_pos e] at h0; exact absurd rfl h0
  · rename_i e
    rw [if_neg e] at h0 ⊢
    split at h
    · rename_i e2
      rw [if_pos e2] at h0 ⊢
      obtain ⟨k, k1, k2, k3⟩ := ixF_spec v g.1 0 (by omega) e2
      have hr : 1 ≤ ixF v g.1 0 + 1 ∧ ixF v g.1 0 + 1 ≤ (g.1.length : Int) := by omega
      refine ⟨(isS_iff _ _).2 (.inl hr), ?_⟩
      show nameS g (ixF v g.1 0 + 1) = v
      rw [nameS_term hs hr, show (ixF v g.1 0 + 1 - 1).toNat = k by omega]; exact k3
    · rename_i e2
      rw [if_neg e2] at h0 ⊢
      split at h
      · rename_i e3
        rw [if_pos e3] at h0 ⊢
        obtain ⟨k, k1, k2, k3⟩ := ixF_spec v g.2.1 0 (by omega) e3
        have hr : 100 ≤ ixF v g.2.1 0 + 100 ∧ ixF v g.2.1 0 + 100 < 100 + (g.2.1.length : Int) := by omega
        refine ⟨(isS_iff _ _).2 (.inr hr), ?_⟩
        show nameS g (ixF v g.2.1 0 + 100) = v
        rw [nameS_non hs hr, show (ixF v g.2.1 0 + 100 - 100).toNat = k by omega]; exact k3
      · cases h
theorem bs36 {v : ByteArray} (h : v.toList = [36]) : bs v = [36] := by
  rw [toList_data] at h
  unfold bs; rw [h]; rfl
theorem findS_name {g : Gr} (hg : okN3 g) (hd : ∀ n ∈ g.1 ++ g.2.1, bs n ≠ [36]) {s : Int} (h : isS g s = true) : findS g (nameS g s) = (s, true) := by
  have hs := hg.small
  have hnd := List.nodup_append.1 hg.nd
  rcases (isS_iff g s).1 h with h1 | h1
  · have hk : (s - 1).toNat < g.1.length := by omega
    have hm : g.1.getD (s - 1).toNat ByteArray.empty ∈ g.1 := getD_mem hk
    rw [nameS_term hs h1]
    have hx := ixF_first (g.1.getD (s - 1).toNat ByteArray.empty) g.1 0 (s - 1).toNat hnd.1 hk rfl
    rw [findS, if_neg (fun e => hd _ (List.mem_append_left _ hm) (bs36 e)), if_pos (by omega), hx]
    exact Prod.ext (by show (0 : Int) + ((s - 1).toNat : Int) + 1 = s; omega) rfl
  · have hk : (s - 100).toNat < g.2.1.length := by omega
    have hm : g.2.1.getD (s - 100).toNat ByteArray.empty ∈ g.2.1 := getD_mem hk
    rw [nameS_non hs h1]
    have hx := ixF_first (g.2.1.getD (s - 100).toNat ByteArray.empty) g.2.1 0 (s - 100).toNat hnd.2.1 hk rfl
    have hy := ixF_none (g.2.1.getD (s - 100).toNat ByteArray.empty) g.1 0 (fun hc => hnd.2.2 _ hc _ hm rfl)
    rw [findS, if_neg (fun e => hd _ (List.mem_append_right _ hm) (bs36 e)), if_neg (by omega), if_pos (by omega), hx]
    exact Prod.ext (by show (0 : Int) + ((s - 100).toNat : Int) + 100 = s; omega) rfl
end Go.Proofs.Ytdmljeaigjfenaa.D

namespace Go.Proofs.Ytdmljeaigjfenaa.D
open Go Go.EV Go.TL Go.Proofs
set_option linter.unusedVariables false
set_option linter.unusedSimpArgs false
set_option maxRecDepth 100000
theorem symN_ok {g : Gr} (hs : gSmall g) {s : ByteArray} {l : Int} (h : symB g s l = true) : isS g (symN g s) = true ∧ nameS g (symN g s) = cutS s := by
  simp only [symB, Bool.and_eq_true, decide_eq_true_eq] at h
  exact findS_ok hs h.1 h.2.1
theorem readK_ok {g : Gr} {f : ByteArray → Int → Option (Tree × (ByteArray × Int))} (hf : ∀ s l t s1 l1, f s l = some (t, (s1, l1)) → checkS g t t.sym = true ∧ bs s = bs (textS g t) ++ bs s1) : ∀ (m : Nat) (s : ByteArray) (l : Int) (ks : List Tree) (s1 : ByteArray) (l1 : Int), readK f m s l = some (ks, (s1, l1)) → checksS g ks (ks.map Tree.sym) = true ∧ bs s = kidsB g ks ++ bs s1
  | 0, s, l, ks, s1, l1, h => by simp [readK] at h
  | m + 1, s, l, ks, s1, l1, h => by
    rw [readK] at h
    split at h
    · cases h; exact ⟨rfl, rfl⟩
    · split at h
      · rename_i hb
        obtain ⟨x, hx⟩ := (begS_one bs_bBlank).1 hb
        split at h
        · cases h
        · rename_i k s2 l2 hk
          obtain ⟨c1, c2⟩ := hf _ _ _ _ _ hk
          split at h
          · cases h
          · rename_i ks' r hr
            cases h
            obtain ⟨d1, d2⟩ := readK_ok hf m s2 l2 _ _ _ hr
            refine ⟨by rw [List.map_cons, checksS, c1, d1]; rfl, ?_⟩
            have e : bs (one1 s) = x := by rw [bs_one1, hx]; rfl
            rw [hx, ← e, c2, d2, kidsB]
            simp
      · cases h
theorem readT_ok {g : Gr} (hs : gSmall g) : ∀ (n : Nat) (s : ByteArray) (l : Int) (t : Tree) (s1 : ByteArray) (l1 : Int), readT n g s l = some (t, (s1, l1)) → checkS g t t.sym = true ∧ bs s = bs (textS g t) ++ bs s1
  | 0, s, l, t, s1, l1, h => by simp [readT] at h
  | n + 1, s, l, t, s1, l1, h => by
    rw [readT] at h
    split at h
    · rename_i hb
      obtain ⟨x, hx⟩ := (begS_one bs_bOpen).1 hb
      have e : bs (one1 s) = x := by rw [bs_one1, hx]; rfl
      split at h
      · rename_i hy
        obtain ⟨i1, i2⟩ := symN_ok hs hy
        split at h
        · cases h
        · rename_i ks s2 l2 hk
          split at h
          · rename_i hp
            cases h
            obtain ⟨c1, c2⟩ := readK_ok (readT_ok hs n) _ _ _ _ _ _ hk
            obtain ⟨y, hy2⟩ := (begS_one bs_bShut).1 (readK_shut _ _ _ _ _ _ hk)
            have e2 : bs (one1 s2) = y := by rw [bs_one1, hy2]; rfl
            obtain ⟨k, k1, k2, k3⟩ := pixF_spec _ _ g.2.2 0 (by omega) hp
            generalize pixF (symN g (one1 s)) (List.map Tree.sym ks) g.2.2 0 = p at *
            have ek : p.toNat = k := by omega
            have hP : prodS g p = (symN g (one1 s), ks.map Tree.sym) := by rw [prodS, ek]; exact k3
            constructor
            · rw [checkS_eq]
              show (decide (symN g (one1 s) = symN g (one1 s)) && (if p = -1 then decide (ks.length = 0) && isS g (symN g (one1 s)) else decide (0 ≤ p) && (decide (p < (g.2.2.length : Int)) && (decide ((prodS g p).1 = symN g (one1 s)) && checksS g ks (prodS g p).2)))) = true
              rw [if_neg (by omega), hP, c1, decide_eq_true rfl, decide_eq_true hp, decide_eq_true (show p < (g.2.2.length : Int) by omega)]
              simp
            · rw [bs_text2 (by omega), i2, hx, ← e, cut_split (one1 s), c2, hy2, ← e2]
              simp
          · cases h
      · cases h
    · split at h
      · rename_i hy
        obtain ⟨i1, i2⟩ := symN_ok hs hy
        cases h
        constructor
        · rw [checkS_eq]
          show (decide (symN g s = symN g s) && (if (-1 : Int) = -1 then decide (([] : List Tree).length = 0) && isS g (symN g s) else _)) = true
          rw [if_pos rfl, i1, decide_eq_true rfl]; rfl
        · rw [bs_text1 rfl, i2]; exact cut_split s
      · cases h
def okD (g : Gr) : Prop := okN3 g ∧ ∀ n ∈ g.1 ++ g.2.1, bs n ≠ [36]
theorem sym_read {g : Gr} (hg : okD g) {sym : Int} (hi : isS g sym = true) {s : ByteArray} {x : List Int} {l : Int} (h : bs s = bs (nameS g sym) ++ x) (hx : sepL x) (hl : 0 < l) : symB g s l = true ∧ symN g s = sym ∧ bs (restS s) = x := by
  obtain ⟨n1, n2, n3, n4⟩ := nameS_sep hg.1 hi
  obtain ⟨c1, c2⟩ := cut_word h ⟨n2, n3, n4⟩ hx
  have e : cutS s = nameS g sym := bs_inj c1
  have hf := findS_name hg.1 hg.2 hi
  have h0 : sym ≠ 0 := by rcases (isS_iff g sym).1 hi with h | h <;> omega
  refine ⟨?_, by rw [symN, e, hf], c2⟩
  rw [symB, e, hf]
  simp [h0, hl]
theorem node_sym {g : Gr} (hg : okD g) {s p : Int} {ks : List Tree} {a : Int} (h : checkS g (.mk s p ks) a = true) : isS g s = true := by
  obtain ⟨h1, h2, h3⟩ : s = a ∧ (p = -1 → ks = [] ∧ isS g s = true) ∧ (p ≠ -1 → 0 ≤ p ∧ p < (g.2.2.length : Int) ∧ (prodS g p).1 = a ∧ checksS g ks (prodS g p).2 = true) := checkS_parts h
  by_cases hp : p = -1
  · exact (h2 hp).2
  · obtain ⟨q1, q2, q3, _⟩ := h3 hp
    rw [h1, ← q3]; exact hg.1.left _ (getD_mem (by omega))
mutual
theorem read_back {g : Gr} (hg : okD g) : ∀ (t : Tree) (a : Int), checkS g t a = true → ∀ (n : Nat) (l : Int) (s : ByteArray) (x : List Int), bs s = bs (textS g t) ++ x → sepL x → (nodesT t : Int) ≤ l → l < (n : Int) → ∃ s1, readT n g s l = some (t, (s1, l - (nodesT t : Int))) ∧ bs s1 = x
  | .mk sy p ks, a, h, n, l, s, x, hs, hx, hl, hn => by
    have hi := node_sym hg h
    obtain ⟨h1, h2, h3⟩ : sy = a ∧ (p = -1 → ks = [] ∧ isS g sy = true) ∧ (p ≠ -1 → 0 ≤ p ∧ p < (g.2.2.length : Int) ∧ (prodS g p).1 = a ∧ checksS g ks (prodS g p).2 = true) := checkS_parts h
    simp only [nodesT] at hl ⊢
    cases n with
    | zero => omega
    | succ n =>
    by_cases hp : p = -1
    · obtain ⟨rfl, _⟩ := h2 hp
      rw [bs_text1 hp] at hs
      obtain ⟨n1, n2, n3, n4⟩ := nameS_sep hg.1 hi
      have hb : begS s bOpen = false := begS_no bs_bOpen (c := 40) fun y hy => by
        rw [hs] at hy
        cases hw : bs (nameS g sy) with
        | nil => exact n1 hw
        | cons c r =>
          rw [hw, List.cons_append, List.cons.injEq] at hy
          rw [hw, hy.1] at n3
          exact n3 List.mem_cons_self
      obtain ⟨b1, b2, b3⟩ := sym_read hg hi hs hx (show 0 < l by omega)
      refine ⟨restS s, ?_, b3⟩
      rw [readT, if_neg (by rw [hb]; exact Bool.false_ne_true), if_pos b1, b2, hp]
      simp only [nodesL]; rfl
    · obtain ⟨q1, q2, q3, q4⟩ := h3 hp
      rw [bs_text2 hp] at hs
      have hb : begS s bOpen = true := (begS_one bs_bOpen).2 ⟨_, hs⟩
      have ho : bs (one1 s) = bs (nameS g sy) ++ (kidsB g ks ++ 41 :: x) := by rw [bs_one1, hs]; simp
      obtain ⟨b1, b2, b3⟩ := sym_read hg hi ho (kidsB_sep g ks x) (show 0 < l by omega)
      obtain ⟨s2, r1, r2⟩ := reads_back hg ks _ q4 n l.toNat (l - 1) (restS (one1 s)) x b3 (by omega) (by omega) (by omega)
      have hq := checksS_syms q4
      have hpx : pixF sy (ks.map Tree.sym) g.2.2 0 = p := by
        have := pixF_first sy (ks.map Tree.sym) g.2.2 0 p.toNat hg.1.pd (by omega) (Prod.ext (show (prodS g p).1 = sy by rw [q3, h1]) hq)
        omega
      refine ⟨one1 s2, ?_, by rw [bs_one1, r2]; rfl⟩
      rw [readT, if_pos hb, if_pos b1, b2]
      simp only [r1]
      rw [if_pos (by omega), hpx, show l - 1 - (nodesL ks : Int) = l - ((nodesL ks + 1 : Nat) : Int) by omega]
theorem reads_back {g : Gr} (hg : okD g) : ∀ (ks : List Tree) (q : List Int), checksS g ks q = true → ∀ (n m : Nat) (l : Int) (s : ByteArray) (x : List Int), bs s = kidsB g ks ++ 41 :: x → (nodesL ks : Int) ≤ l → l < (n : Int) → l.toNat + 1 ≤ m → ∃ s1, readK (readT n g) m s l = some (ks, (s1, l - (nodesL ks : Int))) ∧ bs s1 = 41 :: x
  | [], q, h, n, m, l, s, x, hs, hl, hn, hm => by
    cases m with
    | zero => omega
    | succ m =>
    refine ⟨s, ?_, hs⟩
    have hb : begS s bShut = true := (begS_one bs_bShut).2 ⟨_, hs⟩
    rw [readK, if_pos hb]; simp [nodesL]
  | k :: r, [], h, n, m, l, s, x, hs, hl, hn, hm => by simp [checksS] at h
  | k :: r, a :: q, h, n, m, l, s, x, hs, hl, hn, hm => by
    simp only [checksS, Bool.and_eq_true] at h
    have hkp := nodesT_pos k
    simp only [nodesL] at hl ⊢
    cases m with
    | zero => omega
    | succ m =>
    have hs2 : bs s = 32 :: (bs (textS g k) ++ (kidsB g r ++ 41 :: x)) := by rw [hs, kidsB]; simp
    have hb : begS s bShut = false := begS_no bs_bShut (c := 41) fun y hy => by rw [hs2, List.cons.injEq] at hy; omega
    have hb2 : begS s bBlank = true := (begS_one bs_bBlank).2 ⟨_, hs2⟩
    have ho : bs (one1 s) = bs (textS g k) ++ (kidsB g r ++ 41 :: x) := by rw [bs_one1, hs2]; rfl
    obtain ⟨s1, r1, r2⟩ := read_back hg k a h.1 n l (one1 s) _ ho (kidsB_sep g r x) (by omega) hn
    obtain ⟨s3, r3, r4⟩ := reads_back hg r q h.2 n m (l - (nodesT k : Int)) s1 x r2 (by omega) (by omega) (by omega)
    refine ⟨s3, ?_, r4⟩
    rw [readK, if_neg (by rw [hb]; exact Bool.false_ne_true), if_pos hb2]
    simp only [r1, r3]
    rw [show l - (nodesT k : Int) - (nodesL r : Int) = l - ((nodesT k + nodesL r : Nat) : Int) by omega]
end
theorem tparse_back {g : Gr} (hg : okD g) {t : Tree} {a : Int} (h : checkS g t a = true) (hn : nodesT t ≤ 400) : tparseS g (textS g t) = (t, 0) := by
  obtain ⟨s1, h1, h2⟩ := read_back hg t a h 401 400 (textS g t) [] (by simp) trivial (by omega) (by omega)
  have h1 : tS 401 (g.1, g.2.1, g.2.2, textS g t, 400) = some (t, (s1, 400 - (nodesT t : Int))) := h1
  have h3 : s1.toList = [] := by
    rw [toList_data]; exact List.map_eq_nil_iff.1 h2
  rw [tparseS, h1]
  show (if s1.toList = [] then (t, (0 : Int)) else _) = _
  rw [if_pos h3]
theorem tparse_ok {g : Gr} (hs : gSmall g) (y : ByteArray) : (∃ v, tparseS g y = (v, 0) ∧ checkS g v v.sym = true ∧ textS g v = y) ∨ tparseS g y = (.mk 0 0 [], 2) := by
  cases e : tS 401 (g.1, g.2.1, g.2.2, y, 400) with
  | none => right; rw [tparseS, e]
  | some q =>
    obtain ⟨t, r, l⟩ := q
    obtain ⟨c1, c2⟩ := readT_ok (g := (g.1, g.2.1, g.2.2)) hs 401 y 400 t r l e
    by_cases hr : r.toList = []
    · left
      refine ⟨t, ?_, c1, ?_⟩
      · rw [tparseS, e]
        show (if r.toList = [] then (t, (0 : Int)) else _) = _
        rw [if_pos hr]
      · have : bs r = [] := by rw [toList_data] at hr; unfold bs; rw [hr]; rfl
        rw [this, List.append_nil] at c2
        exact (bs_inj c2).symm
    · right
      rw [tparseS, e]
      show (if r.toList = [] then (t, (0 : Int)) else _) = _
      rw [if_neg hr]
def dolB (g : Gr) : Bool := (g.1 ++ g.2.1).all fun n => !(decide (bs n = [36]))
theorem grL_dol : grL.all dolB = true := by kernel_rfl
theorem grS_dol (k : Nat) (h : k < 27) : ∀ n ∈ (grS k).1 ++ (grS k).2.1, bs n ≠ [36] := fun n hn e => by
  have h1 := List.all_eq_true.1 grL_dol _ (getD_mem (x := ([], [], [])) (i := k) (l := grL) (by rw [grL_len]; exact h))
  have := List.all_eq_true.1 h1 n hn
  rw [e] at this
  exact absurd this (by decide)
theorem anyS_names (r : Raw) : ∀ n ∈ (anyS r).1 ++ (anyS r).2.1, n ∈ [bA, bB, bC] ++ [bS, bUA, bUB] := by
  have hl : ∀ (m : Int) (l : List (List Int)) (i : Int) (g : Gr), (puts2 m i g l).1 = g.1 ∧ (puts2 m i g l).2.1 = g.2.1 := by
    intro m l
    induction l with
    | nil => intro i g; exact ⟨rfl, rfl⟩
    | cons r l ih =>
      intro i g
      obtain ⟨h1, h2⟩ := ih (i + 1) (putS g (100 + leftS i r % m) r)
      obtain ⟨p1, p2, _⟩ := putS_len g (100 + leftS i r % m) r
      rw [puts2]; exact ⟨h1.trans p1, h2.trans p2⟩
  obtain ⟨m1, m2, _⟩ := puts1_len (1 + r.2.2.1 % 3).toNat 0 ([bA, bB, bC].take (1 + r.2.1 % 3).toNat, [bS, bUA, bUB].take (1 + r.2.2.1 % 3).toNat, [])
  obtain ⟨l1, l2⟩ := hl (1 + r.2.2.1 % 3) (r.2.2.2.2.1.take 5) 0 (puts1 (1 + r.2.2.1 % 3).toNat 0 ([bA, bB, bC].take (1 + r.2.1 % 3).toNat, [bS, bUA, bUB].take (1 + r.2.2.1 % 3).toNat, []))
  have n1 : (anyS r).1 = [bA, bB, bC].take (1 + r.2.1 % 3).toNat := by rw [anyS, l1, m1]
  have n2 : (anyS r).2.1 = [bS, bUA, bUB].take (1 + r.2.2.1 % 3).toNat := by rw [anyS, l2, m2]
  intro n hn
  rw [n1, n2] at hn
  rcases List.mem_append.1 hn with h | h
  · exact List.mem_append_left _ (List.mem_of_mem_take h)
  · exact List.mem_append_right _ (List.mem_of_mem_take h)
theorem few_dol : ([bA, bB, bC] ++ [bS, bUA, bUB]).all (fun n => !(decide (bs n = [36]))) = true := by kernel_rfl
theorem gramS_D (r : Raw) : okD (gramS r) := by
  have e1 := Int.emod_nonneg r.2.1 (show (17 : Int) ≠ 0 by omega)
  have e2 := Int.emod_lt_of_pos r.2.1 (show (0 : Int) < 17 by omega)
  have e3 := Int.emod_nonneg r.2.1 (show (10 : Int) ≠ 0 by omega)
  have e4 := Int.emod_lt_of_pos r.2.1 (show (0 : Int) < 10 by omega)
  refine ⟨gramS_N r, ?_⟩
  unfold gramS
  split
  · exact grS_dol _ (by omega)
  · split
    · exact grS_dol _ (by omega)
    · intro n hn e
      have := List.all_eq_true.1 few_dol n (anyS_names r n hn)
      rw [e] at this
      exact absurd this (by decide)
end Go.Proofs.Ytdmljeaigjfenaa.D

namespace Go.Proofs.Ytdmljeaigjfenaa.D
open Go Go.EV Go.TL Go.Proofs
set_option linter.unusedVariables false
set_option linter.unusedSimpArgs false
set_option maxRecDepth 100000
def textC (s : ByteArray) : ByteArray := s.extract 0 (min s.size 20)
noncomputable def textF  : Face := ⟨18, [.v .str, .v (.int .i64)], fun (s, n) => some (n = 20),
  [⟨false, [.v .str], fun (s, n) => textC s, fun (s, n) => none⟩]⟩
noncomputable def textF.g  (s : ByteArray) (n : Int) : Prop := GoodFA Try.prog (cfOf []) [] 1000 textF (s, n)
noncomputable def textF.T (s : ByteArray) (n : Int) : Prop := (True ∧ (0 : Int) ≤ (0 : Int) ∧ ((0 : Int) ≤ if n < (↑s.size : Int) then n else (↑s.size : Int)) ∧ (if n < (↑s.size : Int) then n else (↑s.size : Int)) ≤ (↑s.size : Int) →
  True ∧ s.extract (Int.toNat (0 : Int)) (if n < (↑s.size : Int) then n else (↑s.size : Int)).toNat = textC s) ∧ (True ∧ ¬((0 : Int) ≤ (0 : Int) ∧ ((0 : Int) ≤ if n < (↑s.size : Int) then n else (↑s.size : Int)) ∧ (if n < (↑s.size : Int) then n else (↑s.size : Int)) ≤ (↑s.size : Int)) → False) ∧ (True)
theorem textF.eq  (s : ByteArray) (n : Int) : textF.g  s n = textF.T  s n := by kernel_rfl
theorem textF.ok  (s : ByteArray) (n : Int) (hx : n = 20) : textF.T  s n := by
  subst hx
  rw [textF.T, textC]
  ((repeat' (first | exact trivial | apply And.intro)) <;> (intro hw; (try (simp only [true_and, and_true, decide_eq_true_eq, decide_eq_false_iff_not, beq_iff_eq, bne_iff_ne, beq_eq_false_iff_ne, bne_eq_false_iff_eq, ne_eq, Bool.not_eq_true, Bool.not_eq_false, not_true_eq_false, not_false_eq_true, Bool.not_eq_eq_eq_not, Bool.not_true, Bool.not_false, forall_const, imp_self, Bool.true_eq_false, Bool.false_eq_true, reduceCtorEq] at hw)); (try first | (exfalso; omega) | exact ⟨trivial, rfl⟩ | exact (hw hx).elim | exact (hw.2 hx).elim)))
  refine ⟨trivial, ?_⟩
  rw [show Int.toNat 0 = 0 from rfl]
  congr 1
  split <;> omega
theorem textF.fn   : FnOk Try.prog textF := fn_evalH (l := []) (lf := 1000) (fun _ => cfOf_ok (fns_nil _)) _ (lps_nil _ _) (by kernel_rfl) (fun ⟨s, n⟩ hx => Hid.of (textF.eq  s n) (textF.ok  s n hx))
def shortL (l : List ByteArray) : Prop := ∀ y ∈ l, y.size ≤ 10000000
noncomputable def parsesL  : LFace := ⟨[15, 103, 104, 105], [.p GR, .v (.sl .str), .v (.int .i64), .v (.int .i64)], fun (g, l, n, i) => some (n = l.length ∧ 0 ≤ i ∧ i ≤ n ∧ l.length ≤ 1000 ∧ gSmall g ∧ shortL l),
  [⟨.normal, [15], [.p GR], fun (g, l, n, i) => g, fun (g, l, n, i) => none⟩]⟩
noncomputable def parsesL.mu  : dens parsesL.sh → Nat := fun (g, l, n, i) => (n - i).toNat
noncomputable def parsesL.g  (g : List ByteArray × List ByteArray × List (Int × List Int)) (l : List ByteArray) (n : Int) (i : Int) : Prop := GoodLA Try.prog (cfOf [tparse, rcheckF, rprint, sameF]) [] 1000 3 1 parsesL parsesL.mu (g, l, n, i)
noncomputable def parsesL.q1 (g : List ByteArray × List ByteArray × List (Int × List Int)) (l : List ByteArray) (n : Int) (i : Int) : Prop := ((True ∧ decide (i < n) = true) ∧ (0 : Int) ≤ i ∧ i < (↑l.length : Int)) ∧ gSmall g ∧ (l.getD i.toNat ByteArray.empty).size ≤ (10000000 : Nat)
noncomputable def parsesL.q2 (g : List ByteArray × List ByteArray × List (Int × List Int)) (l : List ByteArray) (i : Int) : Tree × Int := tparseS g (l.getD i.toNat ByteArray.empty)
noncomputable def parsesL.q0 (g : List ByteArray × List ByteArray × List (Int × List Int)) (l : List ByteArray) (n : Int) (i : Int) : Prop := ((((parsesL.q1 g l n i) ∧ ((parsesL.q2 g l i).2 == (0 : Int)) = true) ∧ gSmall g) ∧ (!checkS g (eT (parsesL.q2 g l i).1) (Tree.sym (parsesL.q2 g l i).1)) = false) ∧ gSmall g ∧ (textS g (eT (parsesL.q2 g l i).1)).size ≤ BIGS
noncomputable def parsesL.q3 (g : List ByteArray × List ByteArray × List (Int × List Int)) (l : List ByteArray) (n : Int) (i : Int) : Prop := n = (↑l.length : Int) ∧ (0 : Int) ≤ IntKind.i64.wrap (i + (1 : Int)) ∧ IntKind.i64.wrap (i + (1 : Int)) ≤ n ∧ l.length ≤ (1000 : Nat) ∧ gSmall g ∧ shortL l
noncomputable def parsesL.q4 (g : List ByteArray × List ByteArray × List (Int × List Int)) (l : List ByteArray) (n : Int) (i : Int) : Prop := (parsesL.q0 g l n i) ∧ (!(printS g (eT (parsesL.q2 g l i).1)).toList == (l.getD i.toNat ByteArray.empty).toList) = false
noncomputable def parsesL.q5 (g : List ByteArray × List ByteArray × List (Int × List Int)) (l : List ByteArray) (n : Int) (i : Int) : Prop := ((parsesL.q1 g l n i) ∧ ((parsesL.q2 g l i).2 == (0 : Int)) = false) ∧ ((parsesL.q2 g l i).2 != (0 : Int)) = true
noncomputable def parsesL.T0 (g : List ByteArray × List ByteArray × List (Int × List Int)) (l : List ByteArray) (n : Int) (i : Int) : Prop := (((True ∧ decide (i < n) = true) ∧ (0 : Int) ≤ i ∧ i < (↑l.length : Int)) ∧ ¬(gSmall g ∧ (l.getD i.toNat ByteArray.empty).size ≤ (10000000 : Nat)) → False) ∧ (((parsesL.q1 g l n i) ∧ ((parsesL.q2 g l i).2 == (0 : Int)) = true) ∧ ¬gSmall g → False) ∧ ((((parsesL.q1 g l n i) ∧ ((parsesL.q2 g l i).2 == (0 : Int)) = true) ∧ gSmall g) ∧ (!checkS g (eT (parsesL.q2 g l i).1) (Tree.sym (parsesL.q2 g l i).1)) = true → False) ∧ (((((parsesL.q1 g l n i) ∧ ((parsesL.q2 g l i).2 == (0 : Int)) = true) ∧ gSmall g) ∧ (!checkS g (eT (parsesL.q2 g l i).1) (Tree.sym (parsesL.q2 g l i).1)) = false) ∧ ¬(gSmall g ∧ (textS g (eT (parsesL.q2 g l i).1)).size ≤ BIGS) → False) ∧ ((parsesL.q0 g l n i) ∧ (!(printS g (eT (parsesL.q2 g l i).1)).toList == (l.getD i.toNat ByteArray.empty).toList) = true → False) ∧ (((parsesL.q4 g l n i) ∧ ((parsesL.q2 g l i).2 != (0 : Int)) = true) ∧ ((parsesL.q2 g l i).2 != (2 : Int)) = true → False) ∧ ((((parsesL.q4 g l n i) ∧ ((parsesL.q2 g l i).2 != (0 : Int)) = true) ∧ ((parsesL.q2 g l i).2 != (2 : Int)) = false) ∧ (!sameT (eT (parsesL.q2 g l i).1) (Tree.mk (0 : Int) (0 : Int) [])) = true → False) ∧ ((((parsesL.q4 g l n i) ∧ ((parsesL.q2 g l i).2 != (0 : Int)) = true) ∧ ((parsesL.q2 g l i).2 != (2 : Int)) = false) ∧ (!sameT (eT (parsesL.q2 g l i).1) (Tree.mk (0 : Int) (0 : Int) [])) = false → (parsesL.q3 g l n i) ∧ parsesL.mu (g, l, n, IntKind.i64.wrap (i + (1 : Int))) < parsesL.mu (g, l, n, i) ∧ (True → True ∧ g = g) ∧ True) ∧ ((parsesL.q4 g l n i) ∧ ((parsesL.q2 g l i).2 != (0 : Int)) = false → (parsesL.q3 g l n i) ∧ parsesL.mu (g, l, n, IntKind.i64.wrap (i + (1 : Int))) < parsesL.mu (g, l, n, i) ∧ (True → True ∧ g = g) ∧ True) ∧ ((parsesL.q5 g l n i) ∧ ((parsesL.q2 g l i).2 != (2 : Int)) = true → False) ∧ (((parsesL.q5 g l n i) ∧ ((parsesL.q2 g l i).2 != (2 : Int)) = false) ∧ (!sameT (eT (parsesL.q2 g l i).1) (Tree.mk (0 : Int) (0 : Int) [])) = true → False) ∧ (((parsesL.q5 g l n i) ∧ ((parsesL.q2 g l i).2 != (2 : Int)) = false) ∧ (!sameT (eT (parsesL.q2 g l i).1) (Tree.mk (0 : Int) (0 : Int) [])) = false → (parsesL.q3 g l n i) ∧ parsesL.mu (g, l, n, IntKind.i64.wrap (i + (1 : Int))) < parsesL.mu (g, l, n, i) ∧ (True → True ∧ g = g) ∧ True) ∧ (((parsesL.q1 g l n i) ∧ ((parsesL.q2 g l i).2 == (0 : Int)) = false) ∧ ((parsesL.q2 g l i).2 != (0 : Int)) = false → (parsesL.q3 g l n i) ∧ parsesL.mu (g, l, n, IntKind.i64.wrap (i + (1 : Int))) < parsesL.mu (g, l, n, i) ∧ (True → True ∧ g = g) ∧ True) ∧ ((True ∧ decide (i < n) = true) ∧ ¬((0 : Int) ≤ i ∧ i < (↑l.length : Int)) → False) ∧ (True ∧ decide (i < n) = false → True ∧ g = g) ∧ (True)
theorem parsesL.eq  (g : List ByteArray × List ByteArray × List (Int × List Int)) (l : List ByteArray) (n : Int) (i : Int) : parsesL.g  g l n i = parsesL.T0  g l n i := by kernel_rfl
theorem parsesL.ok  (g : List ByteArray × List ByteArray × List (Int × List Int)) (l : List ByteArray) (n : Int) (i : Int) (hx : n = l.length ∧ 0 ≤ i ∧ i ≤ n ∧ l.length ≤ 1000 ∧ gSmall g ∧ shortL l) : parsesL.T0  g l n i := by
  delta parsesL.T0 parsesL.q1 parsesL.q2 parsesL.q0 parsesL.q3 parsesL.q4 parsesL.q5
  repeat rw [eT_eq]
  obtain ⟨rfl, h1, h2, h3, h4, h5⟩ := hx
  have hS : i < (l.length : Int) → (l.getD i.toNat ByteArray.empty).size ≤ 10000000 := fun h => h5 _ (getD_mem (x := ByteArray.empty) (show i.toNat < l.length by omega))
  rw [wrapI64 (x := i + 1) (by omega) (by omega)]
  generalize l.getD i.toNat ByteArray.empty = y at *
  have hB : BIGS = 1000000000000 := rfl
  have hgo : i < (l.length : Int) → ((l.length : Int) = l.length ∧ 0 ≤ i + 1 ∧ i + 1 ≤ (l.length : Int) ∧ l.length ≤ 1000 ∧ gSmall g ∧ shortL l) ∧ parsesL.mu (g, l, (l.length : Int), i + 1) < parsesL.mu (g, l, (l.length : Int), i) := fun h => ⟨⟨rfl, by omega, by omega, h3, h4, h5⟩, by simp only [parsesL.mu]; omega⟩
  rcases tparse_ok h4 y with ⟨v, e, c, tx⟩ | e
  · have hp : printS g v = y := by rw [printS, if_pos c, tx]
    rw [e]
    dsimp only
    rw [hp, tx, c]
    ((repeat' (first | exact trivial | apply And.intro)) <;> (intro hw; (try (simp only [true_and, and_true, decide_eq_true_eq, decide_eq_false_iff_not, beq_iff_eq, bne_iff_ne, beq_eq_false_iff_ne, bne_eq_false_iff_eq, ne_eq, Bool.not_eq_true, Bool.not_eq_false, not_true_eq_false, not_false_eq_true, Bool.not_eq_eq_eq_not, Bool.not_true, Bool.not_false, forall_const, imp_self, Bool.true_eq_false, Bool.false_eq_true, reduceCtorEq] at hw)); (try first | (exfalso; omega) | exact ⟨trivial, rfl⟩ | exact (hw hx).elim | exact (hw.2 hx).elim)))
    all_goals first
      | exact hw.2 ⟨h4, by have := hS (by omega); omega⟩
      | exact hw.2 h4
      | exact hw.2.elim
      | exact hw.1.2.elim
      | exact hw.1.1.2.elim
      | (exfalso; omega)
      | exact ⟨(hgo (by omega)).1, (hgo (by omega)).2, fun _ => ⟨trivial, rfl⟩, trivial⟩
      | trace_state
  · rw [e]
    dsimp only
    rw [sameT_refl]
    ((repeat' (first | exact trivial | apply And.intro)) <;> (intro hw; (try (simp only [true_and, and_true, decide_eq_true_eq, decide_eq_false_iff_not, beq_iff_eq, bne_iff_ne, beq_eq_false_iff_ne, bne_eq_false_iff_eq, ne_eq, Bool.not_eq_true, Bool.not_eq_false, not_true_eq_false, not_false_eq_true, Bool.not_eq_eq_eq_not, Bool.not_true, Bool.not_false, forall_const, imp_self, Bool.true_eq_false, Bool.false_eq_true, reduceCtorEq] at hw)); (try first | (exfalso; omega) | exact ⟨trivial, rfl⟩ | exact (hw hx).elim | exact (hw.2 hx).elim)))
    all_goals first
      | exact hw.2 ⟨h4, by have := hS (by omega); omega⟩
      | exact hw.2 h4
      | exact hw.2.elim
      | exact hw.1.2.elim
      | exact hw.1.1.2.elim
      | (exfalso; omega)
      | exact ⟨(hgo (by omega)).1, (hgo (by omega)).2, fun _ => ⟨trivial, rfl⟩, trivial⟩
      | trace_state
theorem parsesL.lp   : LpAt Try.prog 3 1 parsesL := lp_evalH (l := []) (lf := 1000) (fun _ => cfOf_ok (fns_cons tparse.fn (fns_cons rcheckF.fn (fns_cons rprint.fn (fns_cons sameF.fn (fns_nil _)))))) (lps_nil _ _) (by kernel_rfl) _ (parsesL.mu ) (fun ⟨g, l, n, i⟩ hx => Hid.of (parsesL.eq  g l n i) (parsesL.ok  g l n i hx))
def chgS (s : ByteArray) (k m c : Int) : ByteArray :=
  if m = 0 then s.extract 0 k.toNat
  else if m = 1 then s.extract 0 k.toNat ++ s.extract (k + 1).toNat s.size
  else if m = 2 then s.extract 0 k.toNat ++ strOfNums [c] ++ s.extract (k + 1).toNat s.size
  else s.extract 0 k.toNat ++ bBlank ++ s.extract k.toNat s.size
theorem chgS_size (s : ByteArray) (k m c : Int) : (chgS s k m c).size ≤ 2 * s.size + 1 := by
  have h1 : (strOfNums [c]).size = 1 := strOfNums_size [c]
  have h2 : bBlank.size = 1 := rfl
  unfold chgS
  split
  · rw [ByteArray.size_extract]; omega
  · split
    · rw [ByteArray.size_append, ByteArray.size_extract, ByteArray.size_extract]; omega
    · split
      · rw [ByteArray.size_append, ByteArray.size_append, ByteArray.size_extract, ByteArray.size_extract]; omega
      · rw [ByteArray.size_append, ByteArray.size_append, ByteArray.size_extract, ByteArray.size_extract]; omega
noncomputable def parses.B0  : LFace := ⟨[5, 6, 15, 17, 20, 62], [.v (.int .u8), .v .str, .p GR, .v .str, .v (.int .i64), .v (.int .i64)], fun (c, raw, g, s, k, m) => some (0 ≤ k ∧ k < (s.size : Int) ∧ s.size ≤ 4000000),
  [⟨.normal, [6, 15, 17], [.v .str, .p GR, .v .str], fun (c, raw, g, s, k, m) => (raw, g, chgS s k m c), fun (c, raw, g, s, k, m) => none⟩]⟩
noncomputable def parses.B0.g  (c : Int) (raw : ByteArray) (g : List ByteArray × List ByteArray × List (Int × List Int)) (s : ByteArray) (k : Int) (m : Int) : Prop := GoodPA Try.prog (cfOf []) [] 1000 3 0 parses.B0 (c, raw, g, s, k, m)
noncomputable def parses.B0.q3 (m : Int) : Prop := (True ∧ (m == (0 : Int)) = false) ∧ (m == (1 : Int)) = false
noncomputable def parses.B0.q0 (s : ByteArray) (k : Int) (m : Int) : Prop := (((parses.B0.q3 m) ∧ (m == (2 : Int)) = true) ∧ (0 : Int) ≤ (0 : Int) ∧ (0 : Int) ≤ k ∧ k ≤ (↑s.size : Int)) ∧ (0 : Int) ≤ IntKind.i64.wrap (k + (1 : Int)) ∧ IntKind.i64.wrap (k + (1 : Int)) ≤ (↑s.size : Int) ∧ (↑s.size : Int) ≤ (↑s.size : Int)
noncomputable def parses.B0.q1 (s : ByteArray) (k : Int) (m : Int) : Prop := (((parses.B0.q3 m) ∧ (m == (2 : Int)) = false) ∧ (0 : Int) ≤ (0 : Int) ∧ (0 : Int) ≤ k ∧ k ≤ (↑s.size : Int)) ∧ (s.extract (Int.toNat (0 : Int)) k.toNat).size + (ByteArray.mk #[(32 : UInt8)]).size ≤ (9223372036854775807 : Nat)
noncomputable def parses.B0.q2 (s : ByteArray) (k : Int) (m : Int) : Prop := (((True ∧ (m == (0 : Int)) = false) ∧ (m == (1 : Int)) = true) ∧ (0 : Int) ≤ (0 : Int) ∧ (0 : Int) ≤ k ∧ k ≤ (↑s.size : Int)) ∧ (0 : Int) ≤ IntKind.i64.wrap (k + (1 : Int)) ∧ IntKind.i64.wrap (k + (1 : Int)) ≤ (↑s.size : Int) ∧ (↑s.size : Int) ≤ (↑s.size : Int)
noncomputable def parses.B0.T (c : Int) (raw : ByteArray) (g : List ByteArray × List ByteArray × List (Int × List Int)) (s : ByteArray) (k : Int) (m : Int) : Prop := ((True ∧ (m == (0 : Int)) = true) ∧ (0 : Int) ≤ (0 : Int) ∧ (0 : Int) ≤ k ∧ k ≤ (↑s.size : Int) → True ∧ (raw, g, s.extract (Int.toNat (0 : Int)) k.toNat) = (raw, g, chgS s k m c)) ∧ ((True ∧ (m == (0 : Int)) = true) ∧ ¬((0 : Int) ≤ (0 : Int) ∧ (0 : Int) ≤ k ∧ k ≤ (↑s.size : Int)) → False) ∧ (((True ∧ (m == (0 : Int)) = false) ∧ (m == (1 : Int)) = true) ∧ ¬((0 : Int) ≤ (0 : Int) ∧ (0 : Int) ≤ k ∧ k ≤ (↑s.size : Int)) → False) ∧ ((((True ∧ (m == (0 : Int)) = false) ∧ (m == (1 : Int)) = true) ∧ (0 : Int) ≤ (0 : Int) ∧ (0 : Int) ≤ k ∧ k ≤ (↑s.size : Int)) ∧ ¬((0 : Int) ≤ IntKind.i64.wrap (k + (1 : Int)) ∧ IntKind.i64.wrap (k + (1 : Int)) ≤ (↑s.size : Int) ∧ (↑s.size : Int) ≤ (↑s.size : Int)) → False) ∧ ((parses.B0.q2 s k m) ∧ ¬(s.extract (Int.toNat (0 : Int)) k.toNat).size + (s.extract (IntKind.i64.wrap (k + (1 : Int))).toNat (↑s.size : Int).toNat).size ≤ (9223372036854775807 : Nat) → False) ∧ ((parses.B0.q2 s k m) ∧ (s.extract (Int.toNat (0 : Int)) k.toNat).size + (s.extract (IntKind.i64.wrap (k + (1 : Int))).toNat (↑s.size : Int).toNat).size ≤ (9223372036854775807 : Nat) → True ∧ (raw, g, s.extract (Int.toNat (0 : Int)) k.toNat ++ s.extract (IntKind.i64.wrap (k + (1 : Int))).toNat (↑s.size : Int).toNat) = (raw, g, chgS s k m c)) ∧ (((parses.B0.q3 m) ∧ (m == (2 : Int)) = true) ∧ ¬((0 : Int) ≤ (0 : Int) ∧ (0 : Int) ≤ k ∧ k ≤ (↑s.size : Int)) → False) ∧ ((((parses.B0.q3 m) ∧ (m == (2 : Int)) = true) ∧ (0 : Int) ≤ (0 : Int) ∧ (0 : Int) ≤ k ∧ k ≤ (↑s.size : Int)) ∧ ¬((0 : Int) ≤ IntKind.i64.wrap (k + (1 : Int)) ∧ IntKind.i64.wrap (k + (1 : Int)) ≤ (↑s.size : Int) ∧ (↑s.size : Int) ≤ (↑s.size : Int)) → False) ∧ ((parses.B0.q0 s k m) ∧ ¬(s.extract (Int.toNat (0 : Int)) k.toNat).size + (strOfNums [c]).size ≤ (9223372036854775807 : Nat) → False) ∧ (((parses.B0.q0 s k m) ∧ (s.extract (Int.toNat (0 : Int)) k.toNat).size + (strOfNums [c]).size ≤ (9223372036854775807 : Nat)) ∧ ¬(s.extract (Int.toNat (0 : Int)) k.toNat ++ strOfNums [c]).size + (s.extract (IntKind.i64.wrap (k + (1 : Int))).toNat (↑s.size : Int).toNat).size ≤ (9223372036854775807 : Nat) → False) ∧ (((parses.B0.q0 s k m) ∧ (s.extract (Int.toNat (0 : Int)) k.toNat).size + (strOfNums [c]).size ≤ (9223372036854775807 : Nat)) ∧ (s.extract (Int.toNat (0 : Int)) k.toNat ++ strOfNums [c]).size + (s.extract (IntKind.i64.wrap (k + (1 : Int))).toNat (↑s.size : Int).toNat).size ≤ (9223372036854775807 : Nat) → True ∧ (raw, g, s.extract (Int.toNat (0 : Int)) k.toNat ++ strOfNums [c] ++ s.extract (IntKind.i64.wrap (k + (1 : Int))).toNat (↑s.size : Int).toNat) = (raw, g, chgS s k m c)) ∧ (((parses.B0.q3 m) ∧ (m == (2 : Int)) = false) ∧ ¬((0 : Int) ≤ (0 : Int) ∧ (0 : Int) ≤ k ∧ k ≤ (↑s.size : Int)) → False) ∧ ((((parses.B0.q3 m) ∧ (m == (2 : Int)) = false) ∧ (0 : Int) ≤ (0 : Int) ∧ (0 : Int) ≤ k ∧ k ≤ (↑s.size : Int)) ∧ ¬(s.extract (Int.toNat (0 : Int)) k.toNat).size + (ByteArray.mk #[(32 : UInt8)]).size ≤ (9223372036854775807 : Nat) → False) ∧ ((parses.B0.q1 s k m) ∧ ¬((0 : Int) ≤ k ∧ k ≤ (↑s.size : Int) ∧ (↑s.size : Int) ≤ (↑s.size : Int)) → False) ∧ (((parses.B0.q1 s k m) ∧ (0 : Int) ≤ k ∧ k ≤ (↑s.size : Int) ∧ (↑s.size : Int) ≤ (↑s.size : Int)) ∧ ¬(s.extract (Int.toNat (0 : Int)) k.toNat ++ ByteArray.mk #[(32 : UInt8)]).size + (s.extract k.toNat (↑s.size : Int).toNat).size ≤ (9223372036854775807 : Nat) → False) ∧ (((parses.B0.q1 s k m) ∧ (0 : Int) ≤ k ∧ k ≤ (↑s.size : Int) ∧ (↑s.size : Int) ≤ (↑s.size : Int)) ∧ (s.extract (Int.toNat (0 : Int)) k.toNat ++ ByteArray.mk #[(32 : UInt8)]).size + (s.extract k.toNat (↑s.size : Int).toNat).size ≤ (9223372036854775807 : Nat) → True ∧ (raw, g, s.extract (Int.toNat (0 : Int)) k.toNat ++ ByteArray.mk #[(32 : UInt8)] ++ s.extract k.toNat (↑s.size : Int).toNat) = (raw, g, chgS s k m c)) ∧ (True)
theorem parses.B0.eq  (c : Int) (raw : ByteArray) (g : List ByteArray × List ByteArray × List (Int × List Int)) (s : ByteArray) (k : Int) (m : Int) : parses.B0.g  c raw g s k m = parses.B0.T  c raw g s k m := by kernel_rfl
theorem parses.B0.ok  (c : Int) (raw : ByteArray) (g : List ByteArray × List ByteArray × List (Int × List Int)) (s : ByteArray) (k : Int) (m : Int) (hx : 0 ≤ k ∧ k < (s.size : Int) ∧ s.size ≤ 4000000) : parses.B0.T  c raw g s k m := by
  obtain ⟨h1, h2, h3⟩ := hx
  delta parses.B0.T parses.B0.q3 parses.B0.q0 parses.B0.q1 parses.B0.q2
  rw [wrapI64 (x := k + 1) (by omega) (by omega)]
  simp only [show Int.toNat 0 = 0 from rfl, Int.toNat_natCast, ByteArray.size_append, ByteArray.size_extract, strOfNums_size, show (ByteArray.mk #[(32 : UInt8)]) = bBlank from rfl, show bBlank.size = 1 from rfl, List.length_cons, List.length_nil, chgS]
  ((repeat' (first | exact trivial | apply And.intro)) <;> (intro hw; (try (simp only [true_and, and_true, decide_eq_true_eq, decide_eq_false_iff_not, beq_iff_eq, bne_iff_ne, beq_eq_false_iff_ne, bne_eq_false_iff_eq, ne_eq, Bool.not_eq_true, Bool.not_eq_false, not_true_eq_false, not_false_eq_true, Bool.not_eq_eq_eq_not, Bool.not_true, Bool.not_false, forall_const, imp_self, Bool.true_eq_false, Bool.false_eq_true, reduceCtorEq] at hw)); (try first | (exfalso; omega) | exact ⟨trivial, rfl⟩ | exact (hw hx).elim | exact (hw.2 hx).elim)))
  all_goals first
    | (exfalso; omega)
    | (refine ⟨trivial, ?_⟩; (repeat (first | rfl | rw [if_pos (by omega)] | rw [if_neg (by omega)])); done)
    | trace_state
theorem parses.B0.lp   : LpAt Try.prog 3 0 parses.B0 := pc_evalH (l := []) (lf := 1000) (fun _ => cfOf_ok (fns_nil _)) (lps_nil _ _) (by kernel_rfl) _ (fun ⟨c, raw, g, s, k, m⟩ hx => Hid.of (parses.B0.eq  c raw g s k m) (parses.B0.ok  c raw g s k m hx))
noncomputable def parses  : Face := ⟨3, [.v RAW, .v (.sl (.int .i64)), .v (.int .i64), .v (.int .i64), .v (.int .i64), .v (.int .u8), .v .str], fun (r, l, deep, cut, at_, c, raw) => none,
  [⟨false, [.v .bool], fun (r, l, deep, cut, at_, c, raw) => true, fun (r, l, deep, cut, at_, c, raw) => none⟩]⟩
noncomputable def parses.g  (r : Int × Int × Int × Int × List (List Int) × ByteArray) (l : List Int) (deep : Int) (cut : Int) (at_ : Int) (c : Int) (raw : ByteArray) : Prop := GoodFA Try.prog (cfOf [grammar0, of0, rprint, tparse, rsizeF, sameF, within, textF, wakes]) [(0, parses.B0), (1, parsesL)] 1000 parses (r, l, deep, cut, at_, c, raw)
noncomputable def parses.q5 (r : Int × Int × Int × Int × List (List Int) × ByteArray) : Gr := gramS (r.1, r.2.1, r.2.2.1, (0 : Int), r.2.2.2.2)
noncomputable def parses.q0 (r : Int × Int × Int × Int × List (List Int) × ByteArray) (l : List Int) (deep : Int) : ByteArray := printS (parses.q5 r) (eT (ofS (parses.q5 r) l deep))
noncomputable def parses.q11 (r : Int × Int × Int × Int × List (List Int) × ByteArray) (l : List Int) (deep : Int) : Prop := ((True ∧ (0 : Int) = (0 : Int)) ∧ (0 : Int) = (0 : Int) ∧ okG (parses.q5 r)) ∧ gSmall (parses.q5 r) ∧ (textS (parses.q5 r) (eT (ofS (parses.q5 r) l deep))).size ≤ BIGS
noncomputable def parses.q1 (r : Int × Int × Int × Int × List (List Int) × ByteArray) (l : List Int) (deep : Int) : Prop := (parses.q11 r l deep) ∧ gSmall (parses.q5 r) ∧ (parses.q0 r l deep).size ≤ (10000000 : Nat)
noncomputable def parses.q13 (r : Int × Int × Int × Int × List (List Int) × ByteArray) (l : List Int) (deep : Int) : Prop := ((parses.q1 r l deep) ∧ decide (sizeS (eT (ofS (parses.q5 r) l deep)) ≤ (400 : Int)) = true) ∧ ((tparseS (parses.q5 r) (parses.q0 r l deep)).2 != (0 : Int)) = false
noncomputable def parses.q2 (r : Int × Int × Int × Int × List (List Int) × ByteArray) (l : List Int) (deep : Int) : Prop := (parses.q13 r l deep) ∧ (!sameT (eT (ofS (parses.q5 r) l deep)) (eT (tparseS (parses.q5 r) (parses.q0 r l deep)).1)) = false
noncomputable def parses.q8 (r : Int × Int × Int × Int × List (List Int) × ByteArray) (l : List Int) (deep : Int) : Prop := (parses.q1 r l deep) ∧ decide (sizeS (eT (ofS (parses.q5 r) l deep)) ≤ (400 : Int)) = false
noncomputable def parses.q3 (r : Int × Int × Int × Int × List (List Int) × ByteArray) (l : List Int) (deep : Int) : Prop := ((parses.q8 r l deep) ∧ decide ((↑(parses.q0 r l deep).size : Int) > (0 : Int)) = true) ∧ (0 : Int) < (↑(parses.q0 r l deep).size : Int) ∧ (↑(parses.q0 r l deep).size : Int) ≤ (9223372036854775807 : Int)
noncomputable def parses.q7 (r : Int × Int × Int × Int × List (List Int) × ByteArray) (l : List Int) (deep : Int) : Prop := ((parses.q2 r l deep) ∧ decide ((↑(parses.q0 r l deep).size : Int) > (0 : Int)) = true) ∧ (0 : Int) < (↑(parses.q0 r l deep).size : Int) ∧ (↑(parses.q0 r l deep).size : Int) ≤ (9223372036854775807 : Int)
noncomputable def parses.q4 (r : Int × Int × Int × Int × List (List Int) × ByteArray) (l : List Int) (deep : Int) (at_ : Int) : Prop := ((parses.q7 r l deep) ∧ (0 : Int) < (4 : Int) ∧ (4 : Int) ≤ (9223372036854775807 : Int)) ∧ (0 : Int) ≤ at_ % (↑(parses.q0 r l deep).size : Int) ∧ at_ % (↑(parses.q0 r l deep).size : Int) < (↑(parses.q0 r l deep).size : Int) ∧ (parses.q0 r l deep).size ≤ (4000000 : Nat)
noncomputable def parses.q6 (r : Int × Int × Int × Int × List (List Int) × ByteArray) (l : List Int) (deep : Int) (at_ : Int) : Prop := ((parses.q3 r l deep) ∧ (0 : Int) < (4 : Int) ∧ (4 : Int) ≤ (9223372036854775807 : Int)) ∧ (0 : Int) ≤ at_ % (↑(parses.q0 r l deep).size : Int) ∧ at_ % (↑(parses.q0 r l deep).size : Int) < (↑(parses.q0 r l deep).size : Int) ∧ (parses.q0 r l deep).size ≤ (4000000 : Nat)
noncomputable def parses.q9 (r : Int × Int × Int × Int × List (List Int) × ByteArray) (l : List Int) (deep : Int) (cut : Int) (at_ : Int) (c : Int) (raw : ByteArray) : Prop := Int.ofNat (2 : Nat) = (↑(2 : Nat) : Int) ∧ (0 : Int) ≤ (0 : Int) ∧ (0 : Int) ≤ Int.ofNat (2 : Nat) ∧ (2 : Nat) ≤ (1000 : Nat) ∧ gSmall (parses.q5 r) ∧ shortL [chgS (parses.q0 r l deep) (at_ % (↑(parses.q0 r l deep).size : Int)) (cut % (4 : Int)) c, textC raw]
noncomputable def parses.q10 (r : Int × Int × Int × Int × List (List Int) × ByteArray) (l : List Int) (deep : Int) (raw : ByteArray) : Prop := Int.ofNat (2 : Nat) = (↑(2 : Nat) : Int) ∧ (0 : Int) ≤ (0 : Int) ∧ (0 : Int) ≤ Int.ofNat (2 : Nat) ∧ (2 : Nat) ≤ (1000 : Nat) ∧ gSmall (parses.q5 r) ∧ shortL [printS (parses.q5 r) (eT (ofS (parses.q5 r) l deep)), textC raw]
noncomputable def parses.q12 (r : Int × Int × Int × Int × List (List Int) × ByteArray) (l : List Int) (deep : Int) (at_ : Int) : Prop := (0 : Int) ≤ at_ % (↑(parses.q0 r l deep).size : Int) ∧ at_ % (↑(parses.q0 r l deep).size : Int) < (↑(parses.q0 r l deep).size : Int) ∧ (parses.q0 r l deep).size ≤ (4000000 : Nat)
noncomputable def parses.T0 (r : Int × Int × Int × Int × List (List Int) × ByteArray) (l : List Int) (deep : Int) (cut : Int) (at_ : Int) (c : Int) (raw : ByteArray) : Prop := (True ∧ ¬(0 : Int) = (0 : Int) → False) ∧ ((True ∧ (0 : Int) = (0 : Int)) ∧ ¬((0 : Int) = (0 : Int) ∧ okG (parses.q5 r)) → False) ∧ (((True ∧ (0 : Int) = (0 : Int)) ∧ (0 : Int) = (0 : Int) ∧ okG (parses.q5 r)) ∧ ¬(gSmall (parses.q5 r) ∧ (textS (parses.q5 r) (eT (ofS (parses.q5 r) l deep))).size ≤ BIGS) → False) ∧ ((parses.q11 r l deep) ∧ ¬(gSmall (parses.q5 r) ∧ (parses.q0 r l deep).size ≤ (10000000 : Nat)) → False) ∧ (((parses.q1 r l deep) ∧ decide (sizeS (eT (ofS (parses.q5 r) l deep)) ≤ (400 : Int)) = true) ∧ ((tparseS (parses.q5 r) (parses.q0 r l deep)).2 != (0 : Int)) = true → True ∧ false = true) ∧ ((parses.q13 r l deep) ∧ (!sameT (eT (ofS (parses.q5 r) l deep)) (eT (tparseS (parses.q5 r) (parses.q0 r l deep)).1)) = true → True ∧ false = true) ∧ (((parses.q2 r l deep) ∧ decide ((↑(parses.q0 r l deep).size : Int) > (0 : Int)) = true) ∧ ¬((0 : Int) < (↑(parses.q0 r l deep).size : Int) ∧ (↑(parses.q0 r l deep).size : Int) ≤ (9223372036854775807 : Int)) → False) ∧ ((parses.q7 r l deep) ∧ ¬((0 : Int) < (4 : Int) ∧ (4 : Int) ≤ (9223372036854775807 : Int)) → False) ∧ (((parses.q7 r l deep) ∧ (0 : Int) < (4 : Int) ∧ (4 : Int) ≤ (9223372036854775807 : Int)) ∧ ¬(parses.q12 r l deep at_) → False) ∧ ((parses.q4 r l deep at_) ∧ ¬(20 : Int) = (20 : Int) → False) ∧ (((parses.q4 r l deep at_) ∧ (20 : Int) = (20 : Int)) ∧ ¬(parses.q9 r l deep cut at_ c raw) → False) ∧ (((parses.q4 r l deep at_) ∧ (20 : Int) = (20 : Int)) ∧ Int.ofNat (2 : Nat) = (↑(2 : Nat) : Int) ∧ (0 : Int) ≤ (0 : Int) ∧ (0 : Int) ≤ Int.ofNat (2 : Nat) ∧ (2 : Nat) ≤ (1000 : Nat) ∧ gSmall (parses.q5 r) ∧ shortL [chgS (parses.q0 r l deep) (at_ % (↑(parses.q0 r l deep).size : Int)) (cut % (4 : Int)) c, textC raw] → True ∧ true = true) ∧ (((parses.q2 r l deep) ∧ decide ((↑(parses.q0 r l deep).size : Int) > (0 : Int)) = false) ∧ ¬(20 : Int) = (20 : Int) → False) ∧ ((((parses.q2 r l deep) ∧ decide ((↑(parses.q0 r l deep).size : Int) > (0 : Int)) = false) ∧ (20 : Int) = (20 : Int)) ∧ ¬(parses.q10 r l deep raw) → False) ∧ ((((parses.q2 r l deep) ∧ decide ((↑(parses.q0 r l deep).size : Int) > (0 : Int)) = false) ∧ (20 : Int) = (20 : Int)) ∧ Int.ofNat (2 : Nat) = (↑(2 : Nat) : Int) ∧ (0 : Int) ≤ (0 : Int) ∧ (0 : Int) ≤ Int.ofNat (2 : Nat) ∧ (2 : Nat) ≤ (1000 : Nat) ∧ gSmall (parses.q5 r) ∧ shortL [printS (parses.q5 r) (eT (ofS (parses.q5 r) l deep)), textC raw] → True ∧ true = true) ∧ (((parses.q8 r l deep) ∧ decide ((↑(parses.q0 r l deep).size : Int) > (0 : Int)) = true) ∧ ¬((0 : Int) < (↑(parses.q0 r l deep).size : Int) ∧ (↑(parses.q0 r l deep).size : Int) ≤ (9223372036854775807 : Int)) → False) ∧ ((parses.q3 r l deep) ∧ ¬((0 : Int) < (4 : Int) ∧ (4 : Int) ≤ (9223372036854775807 : Int)) → False) ∧ (((parses.q3 r l deep) ∧ (0 : Int) < (4 : Int) ∧ (4 : Int) ≤ (9223372036854775807 : Int)) ∧ ¬(parses.q12 r l deep at_) → False) ∧ ((parses.q6 r l deep at_) ∧ ¬(20 : Int) = (20 : Int) → False) ∧ (((parses.q6 r l deep at_) ∧ (20 : Int) = (20 : Int)) ∧ ¬(parses.q9 r l deep cut at_ c raw) → False) ∧ (((parses.q6 r l deep at_) ∧ (20 : Int) = (20 : Int)) ∧ Int.ofNat (2 : Nat) = (↑(2 : Nat) : Int) ∧ (0 : Int) ≤ (0 : Int) ∧ (0 : Int) ≤ Int.ofNat (2 : Nat) ∧ (2 : Nat) ≤ (1000 : Nat) ∧ gSmall (parses.q5 r) ∧ shortL [chgS (parses.q0 r l deep) (at_ % (↑(parses.q0 r l deep).size : Int)) (cut % (4 : Int)) c, textC raw] → True ∧ true = true) ∧ (((parses.q8 r l deep) ∧ decide ((↑(parses.q0 r l deep).size : Int) > (0 : Int)) = false) ∧ ¬(20 : Int) = (20 : Int) → False) ∧ ((((parses.q8 r l deep) ∧ decide ((↑(parses.q0 r l deep).size : Int) > (0 : Int)) = false) ∧ (20 : Int) = (20 : Int)) ∧ ¬(parses.q10 r l deep raw) → False) ∧ ((((parses.q8 r l deep) ∧ decide ((↑(parses.q0 r l deep).size : Int) > (0 : Int)) = false) ∧ (20 : Int) = (20 : Int)) ∧ Int.ofNat (2 : Nat) = (↑(2 : Nat) : Int) ∧ (0 : Int) ≤ (0 : Int) ∧ (0 : Int) ≤ Int.ofNat (2 : Nat) ∧ (2 : Nat) ≤ (1000 : Nat) ∧ gSmall (parses.q5 r) ∧ shortL [printS (parses.q5 r) (eT (ofS (parses.q5 r) l deep)), textC raw] → True ∧ true = true) ∧ (True)
theorem parses.eq  (r : Int × Int × Int × Int × List (List Int) × ByteArray) (l : List Int) (deep : Int) (cut : Int) (at_ : Int) (c : Int) (raw : ByteArray) : parses.g  r l deep cut at_ c raw = parses.T0  r l deep cut at_ c raw := by kernel_rfl
theorem parses.ok  (r : Int × Int × Int × Int × List (List Int) × ByteArray) (l : List Int) (deep : Int) (cut : Int) (at_ : Int) (c : Int) (raw : ByteArray) : parses.T0  r l deep cut at_ c raw := by
  delta parses.T0 parses.q5 parses.q0 parses.q11 parses.q1 parses.q13 parses.q2 parses.q8 parses.q3 parses.q7 parses.q4 parses.q6 parses.q9 parses.q10 parses.q12
  repeat rw [eT_eq]
  have hX := gramS_okX (r.1, r.2.1, r.2.2.1, 0, r.2.2.2.2)
  have hD := gramS_D (r.1, r.2.1, r.2.2.1, 0, r.2.2.2.2)
  obtain ⟨hV, hn⟩ := gramS_V (r.1, r.2.1, r.2.2.1, 0, r.2.2.2.2)
  generalize gramS (r.1, r.2.1, r.2.2.1, 0, r.2.2.2.2) = g at *
  obtain ⟨t1, t2⟩ := ofS_ok hX l deep
  obtain ⟨t3, t4⟩ := ofS_check hV hX.1 hn l deep
  generalize ofS g l deep = t at *
  have htx := textS_size hX t
  have hBS : BIGS = 1000000000000 := rfl
  have hpt : printS g t = textS g t := by rw [printS, if_pos t3]
  have hgs : gSmall g := ⟨hX.1.1, hX.1.2.1⟩
  have hsz := sizeS_nodes t (by omega)
  have em : 0 < ((textS g t).size : Int) → 0 ≤ at_ % ((textS g t).size : Int) ∧ at_ % ((textS g t).size : Int) < ((textS g t).size : Int) := fun h => ⟨Int.emod_nonneg _ (by omega), Int.emod_lt_of_pos _ h⟩
  have hraw : (textC raw).size ≤ 20 := by unfold textC; rw [ByteArray.size_extract]; omega
  have hS1 : shortL [textS g t, textC raw] := fun y hy => by
    simp only [List.mem_cons, List.not_mem_nil, or_false] at hy
    rcases hy with rfl | rfl <;> omega
  have hS2 : ∀ k m, shortL [chgS (textS g t) k m c, textC raw] := fun k m y hy => by
    have := chgS_size (textS g t) k m c
    simp only [List.mem_cons, List.not_mem_nil, or_false] at hy
    rcases hy with rfl | rfl <;> omega
  have hback : nodesT t ≤ 400 → tparseS g (textS g t) = (t, 0) := fun h => tparse_back hD t3 h
  have hlo := tparse_ok hgs (textS g t)
  rw [hpt, hsz]
  generalize tparseS g (textS g t) = u at *
  generalize at_ % ((textS g t).size : Int) = k at *
  generalize hy : textS g t = y at *
  ((repeat' (first | exact trivial | apply And.intro)) <;> (intro hw; (try (simp only [true_and, and_true, decide_eq_true_eq, decide_eq_false_iff_not, beq_iff_eq, bne_iff_ne, beq_eq_false_iff_ne, bne_eq_false_iff_eq, ne_eq, Bool.not_eq_true, Bool.not_eq_false, not_true_eq_false, not_false_eq_true, Bool.not_eq_eq_eq_not, Bool.not_true, Bool.not_false, forall_const, imp_self, Bool.true_eq_false, Bool.false_eq_true, reduceCtorEq] at hw)); (try first | (exfalso; omega) | exact ⟨trivial, rfl⟩ | exact (hw hx).elim | exact (hw.2 hx).elim)))
  all_goals first
    | exact absurd hX.1 hw
    | exact hw.2 ⟨hgs, by omega⟩
    | exact hw.2.elim
    | (exfalso; have e2 := hw.2; rw [hback (by omega)] at e2; exact e2 rfl)
    | (exfalso; have e2 := hw.2; rw [hback (by omega)] at e2; have e3 : sameT t t = false := e2; rw [sameT_refl] at e3; cases e3)
    | exact hw.2 ⟨rfl, by decide, by decide, by omega, hgs, hS2 _ _⟩
    | exact hw.2 ⟨rfl, by decide, by decide, by omega, hgs, hS1⟩
    | (exfalso; omega)
    | (exfalso; have := em (by omega); omega)
    | exact ⟨trivial, trivial⟩
    | trace_state
theorem parses.fn   : FnOk Try.prog parses := fn_evalH (l := [(0, parses.B0), (1, parsesL)]) (lf := 1000) (fun _ => cfOf_ok (fns_cons grammar0.fn (fns_cons of0.fn (fns_cons rprint.fn (fns_cons tparse.fn (fns_cons rsizeF.fn (fns_cons sameF.fn (fns_cons within.fn (fns_cons textF.fn (fns_cons wakes.fn (fns_nil _))))))))))) _ (lps_cons (parses.B0.lp) (lps_cons (parsesL.lp) (lps_nil _ _))) (by kernel_rfl) (fun ⟨r, l, deep, cut, at_, c, raw⟩ hx => Hid.of (parses.eq  r l deep cut at_ c raw) (parses.ok  r l deep cut at_ c raw))
theorem parses_pre (r : Raw) (l : List Int) (deep cut at_ c : Int) (raw : ByteArray) (h0 : rng RAW r) (h1 : rng (.sl (.int .i64)) l) (h2 : rng (.int .i64) deep) (h3 : rng (.int .i64) cut) (h4 : rng (.int .i64) at_) (h5 : rng (.int .u8) c) (h6 : rng .str raw) : holds (parses.pre (r, l, deep, cut, at_, c, raw)) := trivial
end Go.Proofs.Ytdmljeaigjfenaa.D
