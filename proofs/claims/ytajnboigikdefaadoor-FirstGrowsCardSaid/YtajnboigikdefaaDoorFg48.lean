/- Texts that the proof of a law rests on, put together: part 48. -/
import Derived.Test.YtajnboigikdefaaDoorFg47
import Derived.Test.YtajnboigikdefaaDoorProg
namespace Go.Proofs.YtajnboigikdefaaDoor.D
open Go Go.EV Go.Proofs
set_option linter.unusedVariables false
set_option linter.unusedSimpArgs false
set_option maxRecDepth 100000
abbrev GR : Ty := .pr (.sl .str) (.pr (.sl .str) (.sl (.pr (.int .i64) (.sl (.int .i64)))))
abbrev PR : Ty := .pr (.int .i64) (.sl (.int .i64))
noncomputable def within  : Face := ⟨33, [.v (.int .i64), .v (.int .i64)], fun (v, n) => some (0 < n ∧ n ≤ 9223372036854775807),
  [⟨false, [.v (.int .i64)], fun (v, n) => v % n, fun (v, n) => none⟩]⟩
noncomputable def within.g  (v : Int) (n : Int) : Prop := GoodFA Tryd.prog (cfOf []) [] 1000 within (v, n)
noncomputable def within.T (v : Int) (n : Int) : Prop := (True ∧ decide (n < (1 : Int)) = true → True ∧ (0 : Int) = v % n) ∧ (((True ∧ decide (n < (1 : Int)) = false) ∧ n ≠ (0 : Int)) ∧ decide (v.tmod n < (0 : Int)) = true → True ∧ IntKind.i64.wrap (v.tmod n + n) = v % n) ∧ (((True ∧ decide (n < (1 : Int)) = false) ∧ n ≠ (0 : Int)) ∧ decide (v.tmod n < (0 : Int)) = false → True ∧ v.tmod n = v % n) ∧ ((True ∧ decide (n < (1 : Int)) = false) ∧ ¬n ≠ (0 : Int) → False) ∧ (True)
theorem within.eq  (v : Int) (n : Int) : within.g  v n = within.T  v n := by kernel_rfl
theorem within.ok  (v : Int) (n : Int) (hx : 0 < n ∧ n ≤ 9223372036854775807) : within.T  v n := by
  obtain ⟨h1, h2⟩ := hx
  have hr := Int.emod_nonneg v (show n ≠ 0 by omega)
  have hl := Int.emod_lt_of_pos v h1
  have ht : v.tmod n = v % n - ((if 0 ≤ v ∨ n ∣ v then 0 else n.natAbs : Nat) : Int) := Int.tmod_eq_emod
  ((repeat' (first | exact trivial | apply And.intro)) <;> (intro hw; (try (simp only [zP, reduceCtorEq] at hw)); (try first | (exfalso; omega) | exact ⟨trivial, rfl⟩ | exact (hw hx).elim | exact (hw.2 hx).elim)))
  · refine ⟨trivial, ?_⟩
    by_cases hc : 0 ≤ v ∨ n ∣ v
    · rw [if_pos hc] at ht; omega
    · rw [if_neg hc] at ht
      rw [wrapI64 (by omega) (by omega)]; omega
  · refine ⟨trivial, ?_⟩
    by_cases hc : 0 ≤ v ∨ n ∣ v
    · rw [if_pos hc] at ht; omega
    · rw [if_neg hc] at ht; omega
theorem within.fn   : FnOk Tryd.prog within := fn_evalH (l := []) (lf := 1000) (fun _ => cfOf_ok (fns_nil _)) _ (lps_nil _ _) (by kernel_rfl) (fun ⟨v, n⟩ hx => Hid.of (within.eq  v n) (within.ok  v n hx))
def sameS : List Int → List Int → Bool
  | [], [] => true
  | a :: r, b :: s => decide (a = b) && sameS r s
  | _, _ => false
theorem sameS_len : ∀ {a b : List Int}, sameS a b = true → a.length = b.length
  | [], [], _ => rfl
  | [], _ :: _, h => by simp [sameS] at h
  | _ :: _, [], h => by simp [sameS] at h
  | a :: r, b :: s, h => by
    simp only [sameS, Bool.and_eq_true] at h
    simp [sameS_len h.2]
theorem sameS_iff : ∀ {a b : List Int}, sameS a b = true ↔ a = b
  | [], [] => by simp [sameS]
  | [], _ :: _ => by simp [sameS]
  | _ :: _, [] => by simp [sameS]
  | a :: r, b :: s => by simp [sameS, sameS_iff (a := r) (b := s)]
noncomputable def sameInt.L0  : LFace := ⟨[0, 1, 5], [.v (.sl (.int .i64)), .v (.sl (.int .i64)), .v (.int .i64)], fun (a, b, i) => some (a.length = b.length ∧ 0 ≤ i ∧ i ≤ a.length ∧ a.length ≤ 9223372036854775807),
  [⟨.normal, [], [], fun (a, b, i) => (), fun (a, b, i) => some (sameS (a.drop i.toNat) (b.drop i.toNat) = true)⟩,
   ⟨.ret, [4], [.v .bool], fun (a, b, i) => false, fun (a, b, i) => some (sameS (a.drop i.toNat) (b.drop i.toNat) = false)⟩]⟩
noncomputable def sameInt.L0.mu  : dens sameInt.L0.sh → Nat := fun (a, b, i) => (a.length - i).toNat
noncomputable def sameInt.L0.q0 (a : List Int) (i : Int) : Prop := ((True ∧ a.length ≤ (9223372036854775807 : Nat)) ∧ decide (i < (↑a.length : Int)) = true) ∧ (0 : Int) ≤ i ∧ i < (↑a.length : Int)
noncomputable def sameInt.L0.T (a : List Int) (b : List Int) (i : Int) : Prop := (((True ∧ a.length ≤ (9223372036854775807 : Nat)) ∧ decide (i < (↑a.length : Int)) = true) ∧ ¬((0 : Int) ≤ i ∧ i < (↑a.length : Int)) → False) ∧ ((sameInt.L0.q0 a i) ∧ ¬((0 : Int) ≤ i ∧ i < (↑b.length : Int)) → False) ∧ (((sameInt.L0.q0 a i) ∧ (0 : Int) ≤ i ∧ i < (↑b.length : Int)) ∧ (a.getD i.toNat (0 : Int) != b.getD i.toNat (0 : Int)) = true → sameS (List.drop i.toNat a) (List.drop i.toNat b) = false ∧ false = false) ∧ (((sameInt.L0.q0 a i) ∧ (0 : Int) ≤ i ∧ i < (↑b.length : Int)) ∧ (a.getD i.toNat (0 : Int) != b.getD i.toNat (0 : Int)) = false → (a.length = b.length ∧ (0 : Int) ≤ IntKind.i64.wrap (i + (1 : Int)) ∧ IntKind.i64.wrap (i + (1 : Int)) ≤ (↑a.length : Int) ∧ a.length ≤ (9223372036854775807 : Nat)) ∧ sameInt.L0.mu (a, b, IntKind.i64.wrap (i + (1 : Int))) < sameInt.L0.mu (a, b, i) ∧ (sameS (List.drop (IntKind.i64.wrap (i + (1 : Int))).toNat a) (List.drop (IntKind.i64.wrap (i + (1 : Int))).toNat b) = true → sameS (List.drop i.toNat a) (List.drop i.toNat b) = true ∧ () = ()) ∧ (sameS (List.drop (IntKind.i64.wrap (i + (1 : Int))).toNat a) (List.drop (IntKind.i64.wrap (i + (1 : Int))).toNat b) = false → sameS (List.drop i.toNat a) (List.drop i.toNat b) = false ∧ false = false) ∧ True) ∧ ((True ∧ a.length ≤ (9223372036854775807 : Nat)) ∧ decide (i < (↑a.length : Int)) = false → sameS (List.drop i.toNat a) (List.drop i.toNat b) = true ∧ () = ()) ∧ (True)
theorem sameInt.L0.ok  (a : List Int) (b : List Int) (i : Int) (hx : a.length = b.length ∧ 0 ≤ i ∧ i ≤ a.length ∧ a.length ≤ 9223372036854775807) : sameInt.L0.T  a b i := by
  delta sameInt.L0.T sameInt.L0.q0
  obtain ⟨h1, h2, h3, h4⟩ := hx
  ((repeat' (first | exact trivial | apply And.intro)) <;> (intro hw; (try (simp only [zP, reduceCtorEq] at hw)); (try first | (exfalso; omega) | exact ⟨trivial, rfl⟩ | exact (hw hx).elim | exact (hw.2 hx).elim)))
  · obtain ⟨⟨⟨-, h5, h6⟩, -⟩, h7⟩ := hw
    rw [drop_int 0 h2 h6, drop_int 0 h2 (by omega), sameS]
    refine ⟨?_, rfl⟩
    rw [decide_eq_false h7]; rfl
  · obtain ⟨⟨⟨-, h5, h6⟩, -⟩, h7⟩ := hw
    rw [wrapI64 (x := i + 1) (by omega) (by omega), drop_int 0 h2 h6, drop_int 0 h2 (by omega), sameS]
    simp only [h7, decide_true, Bool.true_and, sameInt.L0.mu]
    refine ⟨⟨h1, by omega, by omega, h4⟩, by omega, fun h => ⟨h, trivial⟩, fun h => ⟨h, trivial⟩, trivial⟩
  · rw [drop_int_end hw.2, drop_int_end (by omega)]
    exact ⟨rfl, rfl⟩
noncomputable def sameInt  : Face := ⟨32, [.v (.sl (.int .i64)), .v (.sl (.int .i64))], fun (a, b) => none,
  [⟨false, [.v .bool], fun (a, b) => sameS a b, fun (a, b) => none⟩]⟩
noncomputable def sameInt.q0 (a : List Int) (b : List Int) : Prop := ((True ∧ a.length ≤ (9223372036854775807 : Nat)) ∧ b.length ≤ (9223372036854775807 : Nat)) ∧ ((↑a.length : Int) != (↑b.length : Int)) = false
noncomputable def sameInt.q1 (a : List Int) (b : List Int) : Prop := (sameInt.q0 a b) ∧ a.length = b.length ∧ (0 : Int) ≤ (0 : Int) ∧ (0 : Int) ≤ (↑a.length : Int) ∧ a.length ≤ (9223372036854775807 : Nat)
noncomputable def sameInt.T (a : List Int) (b : List Int) : Prop := (((True ∧ a.length ≤ (9223372036854775807 : Nat)) ∧ b.length ≤ (9223372036854775807 : Nat)) ∧ ((↑a.length : Int) != (↑b.length : Int)) = true → True ∧ false = sameS a b) ∧ ((sameInt.q0 a b) ∧ ¬(a.length = b.length ∧ (0 : Int) ≤ (0 : Int) ∧ (0 : Int) ≤ (↑a.length : Int) ∧ a.length ≤ (9223372036854775807 : Nat)) → False) ∧ ((sameInt.q1 a b) ∧ sameS (List.drop (Int.toNat (0 : Int)) a) (List.drop (Int.toNat (0 : Int)) b) = true → True ∧ true = sameS a b) ∧ ((sameInt.q1 a b) ∧ sameS (List.drop (Int.toNat (0 : Int)) a) (List.drop (Int.toNat (0 : Int)) b) = false → True ∧ false = sameS a b) ∧ (True)
theorem sameInt.ok  (a : List Int) (b : List Int) : sameInt.T  a b := by
  delta sameInt.T sameInt.q0 sameInt.q1
  ((repeat' (first | exact trivial | apply And.intro)) <;> (intro hw; (try (simp only [zP, reduceCtorEq] at hw)); (try first | (exfalso; omega) | exact ⟨trivial, rfl⟩ | exact (hw hx).elim | exact (hw.2 hx).elim)))
  · refine ⟨trivial, ?_⟩
    cases h : sameS a b with
    | false => rfl
    | true => have := sameS_len h; omega
  · exact ⟨trivial, hw.2.symm⟩
  · exact ⟨trivial, hw.2.symm⟩
noncomputable def sameRow.L0  : LFace := ⟨[0, 1, 12, 13], [.v (.sl (.int .i64)), .v (.sl (.int .i64)), .v (.int .i64), .v (.int .i64)], fun (a, b, len, i) => some (len = a.length ∧ a.length = b.length ∧ 0 ≤ i ∧ i ≤ a.length ∧ a.length ≤ 9223372036854775807),
  [⟨.normal, [], [], fun (a, b, len, i) => (), fun (a, b, len, i) => some (sameS (a.drop i.toNat) (b.drop i.toNat) = true)⟩,
   ⟨.ret, [4], [.v .bool], fun (a, b, len, i) => false, fun (a, b, len, i) => some (sameS (a.drop i.toNat) (b.drop i.toNat) = false)⟩]⟩
noncomputable def sameRow.L0.mu  : dens sameRow.L0.sh → Nat := fun (a, b, len, i) => (a.length - i).toNat
noncomputable def sameRow.L0.g  (a : List Int) (b : List Int) (len : Int) (i : Int) : Prop := GoodLA Tryd.prog (cfOf []) [] 1000 56 0 sameRow.L0 sameRow.L0.mu (a, b, len, i)
noncomputable def sameRow.L0.T (a : List Int) (b : List Int) (len : Int) (i : Int) : Prop := ((True ∧ decide (i < len) = true) ∧ ¬((0 : Int) ≤ i ∧ i < (↑a.length : Int)) → False) ∧ (((True ∧ decide (i < len) = true) ∧ (0 : Int) ≤ i ∧ i < (↑a.length : Int)) ∧ ¬((0 : Int) ≤ i ∧ i < (↑b.length : Int)) → False) ∧ ((((True ∧ decide (i < len) = true) ∧ (0 : Int) ≤ i ∧ i < (↑a.length : Int)) ∧ (0 : Int) ≤ i ∧ i < (↑b.length : Int)) ∧ (a.getD i.toNat (0 : Int) != b.getD i.toNat (0 : Int)) = true →
  sameS (List.drop i.toNat a) (List.drop i.toNat b) = false ∧ false = false) ∧ ((((True ∧ decide (i < len) = true) ∧ (0 : Int) ≤ i ∧ i < (↑a.length : Int)) ∧ (0 : Int) ≤ i ∧ i < (↑b.length : Int)) ∧ (a.getD i.toNat (0 : Int) != b.getD i.toNat (0 : Int)) = false →
  (len = (↑a.length : Int) ∧ a.length = b.length ∧ (0 : Int) ≤ IntKind.i64.wrap (i + (1 : Int)) ∧ IntKind.i64.wrap (i + (1 : Int)) ≤ (↑a.length : Int) ∧ a.length ≤ (9223372036854775807 : Nat)) ∧ sameRow.L0.mu (a, b, len, IntKind.i64.wrap (i + (1 : Int))) < sameRow.L0.mu (a, b, len, i) ∧ (sameS (List.drop (IntKind.i64.wrap (i + (1 : Int))).toNat a) (List.drop (IntKind.i64.wrap (i + (1 : Int))).toNat b) = true → sameS (List.drop i.toNat a) (List.drop i.toNat b) = true ∧ () = ()) ∧ (sameS (List.drop (IntKind.i64.wrap (i + (1 : Int))).toNat a) (List.drop (IntKind.i64.wrap (i + (1 : Int))).toNat b) = false → sameS (List.drop i.toNat a) (List.drop i.toNat b) = false ∧ false = false) ∧ True) ∧ (True ∧ decide (i < len) = false → sameS (List.drop i.toNat a) (List.drop i.toNat b) = true ∧ () = ()) ∧ (True)
theorem sameRow.L0.eq  (a : List Int) (b : List Int) (len : Int) (i : Int) : sameRow.L0.g  a b len i = sameRow.L0.T  a b len i := by kernel_rfl
theorem sameRow.L0.ok  (a : List Int) (b : List Int) (len : Int) (i : Int) (hx : len = a.length ∧ a.length = b.length ∧ 0 ≤ i ∧ i ≤ a.length ∧ a.length ≤ 9223372036854775807) : sameRow.L0.T  a b len i := by
  obtain ⟨rfl, h1, h2, h3, h4⟩ := hx
  ((repeat' (first | exact trivial | apply And.intro)) <;> (intro hw; (try (simp only [zP, reduceCtorEq] at hw)); (try first | (exfalso; omega) | exact ⟨trivial, rfl⟩ | exact (hw hx).elim | exact (hw.2 hx).elim)))
  · obtain ⟨⟨⟨h6, -⟩, h5⟩, h7⟩ := hw
    rw [drop_int 0 h2 h6, drop_int 0 h2 (by omega), sameS]
    refine ⟨?_, rfl⟩
    rw [decide_eq_false h7]; rfl
  · obtain ⟨⟨⟨h6, -⟩, h5⟩, h7⟩ := hw
    rw [wrapI64 (x := i + 1) (by omega) (by omega), drop_int 0 h2 h6, drop_int 0 h2 (by omega), sameS]
    simp only [h7, decide_true, Bool.true_and, sameRow.L0.mu]
    refine ⟨⟨trivial, h1, by omega, by omega, h4⟩, by omega, fun h => ⟨h, trivial⟩, fun h => ⟨h, trivial⟩, trivial⟩
  · rw [drop_int_end hw, drop_int_end (by omega)]
    exact ⟨rfl, rfl⟩
theorem sameRow.L0.lp   : LpAt Tryd.prog 56 0 sameRow.L0 := lp_evalH (l := []) (lf := 1000) (fun _ => cfOf_ok (fns_nil _)) (lps_nil _ _) (by kernel_rfl) _ (sameRow.L0.mu ) (fun ⟨a, b, len, i⟩ hx => Hid.of (sameRow.L0.eq  a b len i) (sameRow.L0.ok  a b len i hx))
noncomputable def sameRow  : Face := ⟨56, [.v (.sl (.int .i64)), .v (.sl (.int .i64))], fun (a, b) => none,
  [⟨false, [.v .bool], fun (a, b) => sameS a b, fun (a, b) => none⟩]⟩
noncomputable def sameRow.g  (a : List Int) (b : List Int) : Prop := GoodFA Tryd.prog (cfOf []) [(0, sameRow.L0)] 1000 sameRow (a, b)
noncomputable def sameRow.q0 (a : List Int) (b : List Int) : Prop := (((True ∧ a.length ≤ (9223372036854775807 : Nat)) ∧ b.length ≤ (9223372036854775807 : Nat)) ∧ ((↑a.length : Int) != (↑b.length : Int)) = false) ∧ a.length ≤ (9223372036854775807 : Nat)
noncomputable def sameRow.q1 (a : List Int) (b : List Int) : Prop := (sameRow.q0 a b) ∧ (↑a.length : Int) = (↑a.length : Int) ∧ a.length = b.length ∧ (0 : Int) ≤ (0 : Int) ∧ (0 : Int) ≤ (↑a.length : Int) ∧ a.length ≤ (9223372036854775807 : Nat)
noncomputable def sameRow.T (a : List Int) (b : List Int) : Prop := (((True ∧ a.length ≤ (9223372036854775807 : Nat)) ∧ b.length ≤ (9223372036854775807 : Nat)) ∧ ((↑a.length : Int) != (↑b.length : Int)) = true → True ∧ false = sameS a b) ∧ ((sameRow.q0 a b) ∧ ¬((↑a.length : Int) = (↑a.length : Int) ∧ a.length = b.length ∧ (0 : Int) ≤ (0 : Int) ∧ (0 : Int) ≤ (↑a.length : Int) ∧ a.length ≤ (9223372036854775807 : Nat)) → False) ∧ ((sameRow.q1 a b) ∧ sameS (List.drop (Int.toNat (0 : Int)) a) (List.drop (Int.toNat (0 : Int)) b) = true → True ∧ true = sameS a b) ∧ ((sameRow.q1 a b) ∧ sameS (List.drop (Int.toNat (0 : Int)) a) (List.drop (Int.toNat (0 : Int)) b) = false → True ∧ false = sameS a b) ∧ (True)
theorem sameRow.eq  (a : List Int) (b : List Int) : sameRow.g  a b = sameRow.T  a b := by kernel_rfl
theorem sameRow.ok  (a : List Int) (b : List Int) : sameRow.T  a b := by
  delta sameRow.T sameRow.q0 sameRow.q1
  ((repeat' (first | exact trivial | apply And.intro)) <;> (intro hw; (try (simp only [zP, reduceCtorEq] at hw)); (try first | (exfalso; omega) | exact ⟨trivial, rfl⟩ | exact (hw hx).elim | exact (hw.2 hx).elim)))
  · refine ⟨trivial, ?_⟩
    cases h : sameS a b with
    | false => rfl
    | true => have := sameS_len h; omega
  · exact ⟨trivial, hw.2.symm⟩
  · exact ⟨trivial, hw.2.symm⟩
theorem sameRow.fn   : FnOk Tryd.prog sameRow := fn_evalH (l := [(0, sameRow.L0)]) (lf := 1000) (fun _ => cfOf_ok (fns_nil _)) _ (lps_cons (sameRow.L0.lp) (lps_nil _ _)) (by kernel_rfl) (fun ⟨a, b⟩ hx => Hid.of (sameRow.eq  a b) (sameRow.ok  a b))
abbrev Gr : Type := List ByteArray × List ByteArray × List (Int × List Int)
def gSmall (g : Gr) : Prop := g.1.length ≤ 99 ∧ g.2.1.length ≤ 99
def nonS (g : Gr) (s : Int) : Bool := decide (100 ≤ s) && decide (s < 100 + (g.2.1.length : Int))
def termS (g : Gr) (s : Int) : Bool := decide (1 ≤ s) && decide (s ≤ (g.1.length : Int))
def isS (g : Gr) (s : Int) : Bool := termS g s || nonS g s
noncomputable def nonIs  : Face := ⟨66, [.v GR, .v (.int .i64)], fun (g, s) => some (gSmall g),
  [⟨false, [.v .bool], fun (g, s) => nonS g s, fun (g, s) => none⟩]⟩
noncomputable def nonIs.g  (g : List ByteArray × List ByteArray × List (Int × List Int)) (s : Int) : Prop := GoodFA Tryd.prog (cfOf []) [] 1000 nonIs (g, s)
noncomputable def nonIs.T (g : List ByteArray × List ByteArray × List (Int × List Int)) (s : Int) : Prop := ((True ∧ decide (s ≥ (100 : Int)) = true) ∧ List.length g.2.1 ≤ (9223372036854775807 : Nat) → True ∧ decide (s < IntKind.i64.wrap ((100 : Int) + (↑(List.length g.2.1) : Int))) = nonS g s) ∧ (True ∧ decide (s ≥ (100 : Int)) = false → True ∧ false = nonS g s) ∧ (True)
theorem nonIs.eq  (g : List ByteArray × List ByteArray × List (Int × List Int)) (s : Int) : nonIs.g  g s = nonIs.T  g s := by kernel_rfl
theorem nonIs.ok  (g : List ByteArray × List ByteArray × List (Int × List Int)) (s : Int) (hx : gSmall g) : nonIs.T  g s := by
  obtain ⟨h1, h2⟩ := hx
  rw [nonIs.T, nonS]
  ((repeat' (first | exact trivial | apply And.intro)) <;> (intro hw; (try (simp only [zP, reduceCtorEq] at hw)); (try first | (exfalso; omega) | exact ⟨trivial, rfl⟩ | exact (hw hx).elim | exact (hw.2 hx).elim)))
  · rw [wrapI64 (x := 100 + (g.2.1.length : Int)) (by omega) (by omega)]; ((first | (refine ⟨trivial, ?_⟩) | skip) <;> (rw [Bool.eq_iff_iff]; (try simp only [Bool.or_eq_true, Bool.and_eq_true, Bool.not_eq_true', decide_eq_true_eq, decide_eq_false_iff_not, beq_iff_eq, bne_iff_ne, true_iff, iff_true, false_iff, iff_false, Bool.false_eq_true, ne_eq]); omega))
  · ((first | (refine ⟨trivial, ?_⟩) | skip) <;> (rw [Bool.eq_iff_iff]; (try simp only [Bool.or_eq_true, Bool.and_eq_true, Bool.not_eq_true', decide_eq_true_eq, decide_eq_false_iff_not, beq_iff_eq, bne_iff_ne, true_iff, iff_true, false_iff, iff_false, Bool.false_eq_true, ne_eq]); omega))
theorem nonIs.fn   : FnOk Tryd.prog nonIs := fn_evalH (l := []) (lf := 1000) (fun _ => cfOf_ok (fns_nil _)) _ (lps_nil _ _) (by kernel_rfl) (fun ⟨g, s⟩ hx => Hid.of (nonIs.eq  g s) (nonIs.ok  g s hx))
noncomputable def isF  : Face := ⟨40, [.v GR, .v (.int .i64)], fun (g, s) => some (gSmall g),
  [⟨false, [.v .bool], fun (g, s) => isS g s, fun (g, s) => none⟩]⟩
noncomputable def isF.g  (g : List ByteArray × List ByteArray × List (Int × List Int)) (s : Int) : Prop := GoodFA Tryd.prog (cfOf [nonIs]) [] 1000 isF (g, s)
noncomputable def isF.T (g : List ByteArray × List ByteArray × List (Int × List Int)) (s : Int) : Prop := (((True ∧ decide (s ≥ (1 : Int)) = true) ∧ List.length g.1 ≤ (9223372036854775807 : Nat)) ∧ decide (s ≤ (↑(List.length g.1) : Int)) = true → True ∧ true = isS g s) ∧ ((((True ∧ decide (s ≥ (1 : Int)) = true) ∧ List.length g.1 ≤ (9223372036854775807 : Nat)) ∧ decide (s ≤ (↑(List.length g.1) : Int)) = false) ∧ ¬gSmall g → False) ∧ ((((True ∧ decide (s ≥ (1 : Int)) = true) ∧ List.length g.1 ≤ (9223372036854775807 : Nat)) ∧ decide (s ≤ (↑(List.length g.1) : Int)) = false) ∧ gSmall g → True ∧ nonS g s = isS g s) ∧ ((True ∧ decide (s ≥ (1 : Int)) = false) ∧ ¬gSmall g → False) ∧ ((True ∧ decide (s ≥ (1 : Int)) = false) ∧ gSmall g → True ∧ nonS g s = isS g s) ∧ (True)
theorem isF.eq  (g : List ByteArray × List ByteArray × List (Int × List Int)) (s : Int) : isF.g  g s = isF.T  g s := by kernel_rfl
theorem isF.ok  (g : List ByteArray × List ByteArray × List (Int × List Int)) (s : Int) (hx : gSmall g) : isF.T  g s := by
  rw [isF.T, isS, termS]
  ((repeat' (first | exact trivial | apply And.intro)) <;> (intro hw; (try (simp only [zP, reduceCtorEq] at hw)); (try first | (exfalso; omega) | exact ⟨trivial, rfl⟩ | exact (hw hx).elim | exact (hw.2 hx).elim)))
  · ((first | (refine ⟨trivial, ?_⟩) | skip) <;> (rw [Bool.eq_iff_iff]; (try simp only [Bool.or_eq_true, Bool.and_eq_true, Bool.not_eq_true', decide_eq_true_eq, decide_eq_false_iff_not, beq_iff_eq, bne_iff_ne, true_iff, iff_true, false_iff, iff_false, Bool.false_eq_true, ne_eq]); omega))
  · refine ⟨trivial, ?_⟩
    rw [decide_eq_false hw.1.2, Bool.and_false, Bool.false_or]
  · refine ⟨trivial, ?_⟩
    rw [decide_eq_false (show ¬ 1 ≤ s from hw.1), Bool.false_and, Bool.false_or]
theorem isF.fn   : FnOk Tryd.prog isF := fn_evalH (l := []) (lf := 1000) (fun _ => cfOf_ok (fns_cons nonIs.fn (fns_nil _))) _ (lps_nil _ _) (by kernel_rfl) (fun ⟨g, s⟩ hx => Hid.of (isF.eq  g s) (isF.ok  g s hx))
noncomputable def gterm  : Face := ⟨98, [.v GR, .v (.int .i64)], fun (g, s) => some (gSmall g),
  [⟨false, [.v .bool], fun (g, s) => termS g s, fun (g, s) => none⟩]⟩
noncomputable def gterm.g  (g : List ByteArray × List ByteArray × List (Int × List Int)) (s : Int) : Prop := GoodFA Tryd.prog (cfOf []) [] 1000 gterm (g, s)
noncomputable def gterm.T (g : List ByteArray × List ByteArray × List (Int × List Int)) (s : Int) : Prop := (((True ∧ decide (s ≥ (1 : Int)) = true) ∧ List.length g.1 ≤ (9223372036854775807 : Nat)) ∧ decide (s ≤ (↑(List.length g.1) : Int)) = true → True ∧ decide (s < (100 : Int)) = termS g s) ∧ (((True ∧ decide (s ≥ (1 : Int)) = true) ∧ List.length g.1 ≤ (9223372036854775807 : Nat)) ∧ decide (s ≤ (↑(List.length g.1) : Int)) = false → True ∧ false = termS g s) ∧ (True ∧ decide (s ≥ (1 : Int)) = false → True ∧ false = termS g s) ∧ (True)
theorem gterm.eq  (g : List ByteArray × List ByteArray × List (Int × List Int)) (s : Int) : gterm.g  g s = gterm.T  g s := by kernel_rfl
theorem gterm.ok  (g : List ByteArray × List ByteArray × List (Int × List Int)) (s : Int) (hx : gSmall g) : gterm.T  g s := by
  obtain ⟨h1, h2⟩ := hx
  rw [gterm.T, termS]
  ((repeat' (first | exact trivial | apply And.intro)) <;> (intro hw; (try (simp only [zP, reduceCtorEq] at hw)); (try first | (exfalso; omega) | exact ⟨trivial, rfl⟩ | exact (hw hx).elim | exact (hw.2 hx).elim)))
  · ((first | (refine ⟨trivial, ?_⟩) | skip) <;> (rw [Bool.eq_iff_iff]; (try simp only [Bool.or_eq_true, Bool.and_eq_true, Bool.not_eq_true', decide_eq_true_eq, decide_eq_false_iff_not, beq_iff_eq, bne_iff_ne, true_iff, iff_true, false_iff, iff_false, Bool.false_eq_true, ne_eq]); omega))
  · ((first | (refine ⟨trivial, ?_⟩) | skip) <;> (rw [Bool.eq_iff_iff]; (try simp only [Bool.or_eq_true, Bool.and_eq_true, Bool.not_eq_true', decide_eq_true_eq, decide_eq_false_iff_not, beq_iff_eq, bne_iff_ne, true_iff, iff_true, false_iff, iff_false, Bool.false_eq_true, ne_eq]); omega))
  · ((first | (refine ⟨trivial, ?_⟩) | skip) <;> (rw [Bool.eq_iff_iff]; (try simp only [Bool.or_eq_true, Bool.and_eq_true, Bool.not_eq_true', decide_eq_true_eq, decide_eq_false_iff_not, beq_iff_eq, bne_iff_ne, true_iff, iff_true, false_iff, iff_false, Bool.false_eq_true, ne_eq]); omega))
theorem gterm.fn   : FnOk Tryd.prog gterm := fn_evalH (l := []) (lf := 1000) (fun _ => cfOf_ok (fns_nil _)) _ (lps_nil _ _) (by kernel_rfl) (fun ⟨g, s⟩ hx => Hid.of (gterm.eq  g s) (gterm.ok  g s hx))
noncomputable def gnon  : Face := ⟨96, [.v GR, .v (.int .i64)], fun (g, s) => some (gSmall g ∧ s ≤ 9223372036854775807),
  [⟨false, [.v .bool], fun (g, s) => nonS g s, fun (g, s) => none⟩]⟩
noncomputable def gnon.g  (g : List ByteArray × List ByteArray × List (Int × List Int)) (s : Int) : Prop := GoodFA Tryd.prog (cfOf []) [] 1000 gnon (g, s)
noncomputable def gnon.T (g : List ByteArray × List ByteArray × List (Int × List Int)) (s : Int) : Prop := ((True ∧ decide (s ≥ (100 : Int)) = true) ∧ List.length g.2.1 ≤ (9223372036854775807 : Nat) → True ∧ decide (IntKind.i64.wrap (s - (100 : Int)) < (↑(List.length g.2.1) : Int)) = nonS g s) ∧ (True ∧ decide (s ≥ (100 : Int)) = false → True ∧ false = nonS g s) ∧ (True)
theorem gnon.eq  (g : List ByteArray × List ByteArray × List (Int × List Int)) (s : Int) : gnon.g  g s = gnon.T  g s := by kernel_rfl
theorem gnon.ok  (g : List ByteArray × List ByteArray × List (Int × List Int)) (s : Int) (hx : gSmall g ∧ s ≤ 9223372036854775807) : gnon.T  g s := by
  obtain ⟨⟨h1, h2⟩, h4⟩ := hx
  rw [gnon.T, nonS]
  ((repeat' (first | exact trivial | apply And.intro)) <;> (intro hw; (try (simp only [zP, reduceCtorEq] at hw)); (try first | (exfalso; omega) | exact ⟨trivial, rfl⟩ | exact (hw hx).elim | exact (hw.2 hx).elim)))
  · rw [wrapI64 (x := s - 100) (by omega) (by omega)]; ((first | (refine ⟨trivial, ?_⟩) | skip) <;> (rw [Bool.eq_iff_iff]; (try simp only [Bool.or_eq_true, Bool.and_eq_true, Bool.not_eq_true', decide_eq_true_eq, decide_eq_false_iff_not, beq_iff_eq, bne_iff_ne, true_iff, iff_true, false_iff, iff_false, Bool.false_eq_true, ne_eq]); omega))
  · ((first | (refine ⟨trivial, ?_⟩) | skip) <;> (rw [Bool.eq_iff_iff]; (try simp only [Bool.or_eq_true, Bool.and_eq_true, Bool.not_eq_true', decide_eq_true_eq, decide_eq_false_iff_not, beq_iff_eq, bne_iff_ne, true_iff, iff_true, false_iff, iff_false, Bool.false_eq_true, ne_eq]); omega))
theorem gnon.fn   : FnOk Tryd.prog gnon := fn_evalH (l := []) (lf := 1000) (fun _ => cfOf_ok (fns_nil _)) _ (lps_nil _ _) (by kernel_rfl) (fun ⟨g, s⟩ hx => Hid.of (gnon.eq  g s) (gnon.ok  g s hx))
def idxS (s : ByteArray) : Int → List ByteArray → Int
  | _, [] => -1
  | k, a :: r => if (s.toList == a.toList) = true then k else idxS s (k + 1) r
def memB (s : ByteArray) (l : List ByteArray) : Bool := decide (0 ≤ idxS s 0 l)
theorem memB_k (s : ByteArray) : ∀ (l : List ByteArray) (k j : Int), 0 ≤ k → 0 ≤ j → (0 ≤ idxS s k l ↔ 0 ≤ idxS s j l)
  | [], _, _, _, _ => by simp [idxS]
  | a :: r, k, j, hk, hj => by
    rw [idxS, idxS]; split
    · omega
    · exact memB_k s r (k + 1) (j + 1) (by omega) (by omega)
theorem memB_cons (s a : ByteArray) (l : List ByteArray) : memB s (a :: l) = ((s.toList == a.toList) || memB s l) := by
  unfold memB
  rw [idxS]
  split
  · rename_i h; rw [h]; rfl
  · rename_i h
    rw [Bool.not_eq_true] at h
    rw [h, Bool.false_or, decide_eq_decide]
    exact memB_k s l _ _ (by decide) (by decide)
noncomputable def ixL  : LFace := ⟨[0, 1, 7, 8], [.v (.sl .str), .v .str, .v (.int .i64), .v (.int .i64)], fun (l, s, n, i) => some (n = l.length ∧ 0 ≤ i ∧ i ≤ n ∧ l.length ≤ 9223372036854775807),
  [⟨.normal, [], [], fun (l, s, n, i) => (), fun (l, s, n, i) => some (idxS s i (l.drop i.toNat) = -1)⟩,
   ⟨.ret, [4], [.v (.int .i64)], fun (l, s, n, i) => idxS s i (l.drop i.toNat), fun (l, s, n, i) => some (0 ≤ idxS s i (l.drop i.toNat))⟩]⟩
noncomputable def ixL.mu  : dens ixL.sh → Nat := fun (l, s, n, i) => (n - i).toNat
noncomputable def ixL.g  (l : List ByteArray) (s : ByteArray) (n : Int) (i : Int) : Prop := GoodLA Tryd.prog (cfOf []) [] 1000 107 0 ixL ixL.mu (l, s, n, i)
noncomputable def ixL.T (l : List ByteArray) (s : ByteArray) (n : Int) (i : Int) : Prop := (((True ∧ decide (i < n) = true) ∧ (0 : Int) ≤ i ∧ i < (↑l.length : Int)) ∧ (s.toList == (l.getD i.toNat ByteArray.empty).toList) = true → (0 : Int) ≤ idxS s i (List.drop i.toNat l) ∧ i = idxS s i (List.drop i.toNat l)) ∧ (((True ∧ decide (i < n) = true) ∧ (0 : Int) ≤ i ∧ i < (↑l.length : Int)) ∧ (s.toList == (l.getD i.toNat ByteArray.empty).toList) = false →
  (n = (↑l.length : Int) ∧ (0 : Int) ≤ IntKind.i64.wrap (i + (1 : Int)) ∧ IntKind.i64.wrap (i + (1 : Int)) ≤ n ∧ l.length ≤ (9223372036854775807 : Nat)) ∧ ixL.mu (l, s, n, IntKind.i64.wrap (i + (1 : Int))) < ixL.mu (l, s, n, i) ∧ (idxS s (IntKind.i64.wrap (i + (1 : Int))) (List.drop (IntKind.i64.wrap (i + (1 : Int))).toNat l) = (-1 : Int) → idxS s i (List.drop i.toNat l) = (-1 : Int) ∧ () = ()) ∧ ((0 : Int) ≤ idxS s (IntKind.i64.wrap (i + (1 : Int))) (List.drop (IntKind.i64.wrap (i + (1 : Int))).toNat l) → (0 : Int) ≤ idxS s i (List.drop i.toNat l) ∧ idxS s (IntKind.i64.wrap (i + (1 : Int))) (List.drop (IntKind.i64.wrap (i + (1 : Int))).toNat l) = idxS s i (List.drop i.toNat l)) ∧ True) ∧ ((True ∧ decide (i < n) = true) ∧ ¬((0 : Int) ≤ i ∧ i < (↑l.length : Int)) → False) ∧ (True ∧ decide (i < n) = false → idxS s i (List.drop i.toNat l) = (-1 : Int) ∧ () = ()) ∧ (True)
theorem ixL.eq  (l : List ByteArray) (s : ByteArray) (n : Int) (i : Int) : ixL.g  l s n i = ixL.T  l s n i := by kernel_rfl
theorem ixL.ok  (l : List ByteArray) (s : ByteArray) (n : Int) (i : Int) (hx : n = l.length ∧ 0 ≤ i ∧ i ≤ n ∧ l.length ≤ 9223372036854775807) : ixL.T  l s n i := by
  obtain ⟨rfl, h0, h1, h2⟩ := hx
  rw [ixL.T]
  by_cases hi : i < (l.length : Int)
  · rw [wrapI64 (x := i + 1) (by omega) (by omega), drop_int ByteArray.empty h0 hi, idxS]
    generalize l.getD i.toNat ByteArray.empty = a
    ((repeat' (first | exact trivial | apply And.intro)) <;> (intro hw; (try (simp only [zP, reduceCtorEq] at hw)); (try first | (exfalso; omega) | exact ⟨trivial, rfl⟩ | exact (hw hx).elim | exact (hw.2 hx).elim)))
    · rw [if_pos (beq_iff_eq.2 hw.2)]; exact ⟨h0, rfl⟩
    · rw [if_neg (by rw [beq_iff_eq]; exact hw.2)]
      exact ⟨⟨rfl, by omega, by omega, h2⟩, by simp only [ixL.mu]; omega, fun h => ⟨h, rfl⟩, fun h => ⟨h, rfl⟩, trivial⟩
  · rw [drop_int_end hi]
    ((repeat' (first | exact trivial | apply And.intro)) <;> (intro hw; (try (simp only [zP, reduceCtorEq] at hw)); (try first | (exfalso; omega) | exact ⟨trivial, rfl⟩ | exact (hw hx).elim | exact (hw.2 hx).elim)))
    exact ⟨rfl, rfl⟩
theorem ixL.lp   : LpAt Tryd.prog 107 0 ixL := lp_evalH (l := []) (lf := 1000) (fun _ => cfOf_ok (fns_nil _)) (lps_nil _ _) (by kernel_rfl) _ (ixL.mu ) (fun ⟨l, s, n, i⟩ hx => Hid.of (ixL.eq  l s n i) (ixL.ok  l s n i hx))
noncomputable def idxF  : Face := ⟨107, [.v (.sl .str), .v .str], fun (l, s) => none,
  [⟨false, [.v (.int .i64)], fun (l, s) => idxS s 0 l, fun (l, s) => none⟩]⟩
noncomputable def idxF.g  (l : List ByteArray) (s : ByteArray) : Prop := GoodFA Tryd.prog (cfOf []) [(0, ixL)] 1000 idxF (l, s)
noncomputable def idxF.T (l : List ByteArray) (s : ByteArray) : Prop := ((True ∧ l.length ≤ (9223372036854775807 : Nat)) ∧ ¬((↑l.length : Int) = (↑l.length : Int) ∧ (0 : Int) ≤ (0 : Int) ∧ (0 : Int) ≤ (↑l.length : Int) ∧ l.length ≤ (9223372036854775807 : Nat)) → False) ∧ (((True ∧ l.length ≤ (9223372036854775807 : Nat)) ∧ (↑l.length : Int) = (↑l.length : Int) ∧ (0 : Int) ≤ (0 : Int) ∧ (0 : Int) ≤ (↑l.length : Int) ∧ l.length ≤ (9223372036854775807 : Nat)) ∧ idxS s (0 : Int) (List.drop (Int.toNat (0 : Int)) l) = (-1 : Int) →
  True ∧ (-1 : Int) = idxS s (0 : Int) l) ∧ (((True ∧ l.length ≤ (9223372036854775807 : Nat)) ∧ (↑l.length : Int) = (↑l.length : Int) ∧ (0 : Int) ≤ (0 : Int) ∧ (0 : Int) ≤ (↑l.length : Int) ∧ l.length ≤ (9223372036854775807 : Nat)) ∧ (0 : Int) ≤ idxS s (0 : Int) (List.drop (Int.toNat (0 : Int)) l) →
  True ∧ idxS s (0 : Int) (List.drop (Int.toNat (0 : Int)) l) = idxS s (0 : Int) l) ∧ (True)
theorem idxF.eq  (l : List ByteArray) (s : ByteArray) : idxF.g  l s = idxF.T  l s := by kernel_rfl
theorem idxF.ok  (l : List ByteArray) (s : ByteArray) : idxF.T  l s := by
  rw [idxF.T]
  simp only [show Int.toNat 0 = 0 from rfl, List.drop_zero]
  ((repeat' (first | exact trivial | apply And.intro)) <;> (intro hw; (try (simp only [zP, reduceCtorEq] at hw)); (try first | (exfalso; omega) | exact ⟨trivial, rfl⟩ | exact (hw hx).elim | exact (hw.2 hx).elim)))
  all_goals first
    | exact ⟨trivial, hw.2.symm⟩
    | exact ⟨trivial, rfl⟩
    | exact ⟨trivial, trivial⟩
    | trace_state
theorem idxF.fn   : FnOk Tryd.prog idxF := fn_evalH (l := [(0, ixL)]) (lf := 1000) (fun _ => cfOf_ok (fns_nil _)) _ (lps_cons (ixL.lp) (lps_nil _ _)) (by kernel_rfl) (fun ⟨l, s⟩ hx => Hid.of (idxF.eq  l s) (idxF.ok  l s))
noncomputable def hasF  : Face := ⟨95, [.v (.sl .str), .v .str], fun (l, s) => none,
  [⟨false, [.v .bool], fun (l, s) => memB s l, fun (l, s) => none⟩]⟩
noncomputable def hasF.g  (l : List ByteArray) (s : ByteArray) : Prop := GoodFA Tryd.prog (cfOf [idxF]) [] 1000 hasF (l, s)
noncomputable def hasF.T (l : List ByteArray) (s : ByteArray) : Prop := (True → True ∧ decide (idxS s (0 : Int) l ≥ (0 : Int)) = memB s l) ∧ (True)
theorem hasF.eq  (l : List ByteArray) (s : ByteArray) : hasF.g  l s = hasF.T  l s := by kernel_rfl
theorem hasF.ok  (l : List ByteArray) (s : ByteArray) : hasF.T  l s := by
  rw [hasF.T, memB]
  ((repeat' (first | exact trivial | apply And.intro)) <;> (intro hw; (try (simp only [zP, reduceCtorEq] at hw)); (try first | (exfalso; omega) | exact ⟨trivial, rfl⟩ | exact (hw hx).elim | exact (hw.2 hx).elim)))
theorem hasF.fn   : FnOk Tryd.prog hasF := fn_evalH (l := []) (lf := 1000) (fun _ => cfOf_ok (fns_cons idxF.fn (fns_nil _))) _ (lps_nil _ _) (by kernel_rfl) (fun ⟨l, s⟩ hx => Hid.of (hasF.eq  l s) (hasF.ok  l s))
noncomputable def eqL  : LFace := ⟨[0, 1, 12, 13], [.v (.sl (.int .i64)), .v (.sl (.int .i64)), .v (.int .i64), .v (.int .i64)], fun (a, b, len, i) => some (len = a.length ∧ a.length = b.length ∧ 0 ≤ i ∧ i ≤ a.length ∧ a.length ≤ 9223372036854775807),
  [⟨.normal, [], [], fun (a, b, len, i) => (), fun (a, b, len, i) => some (sameS (a.drop i.toNat) (b.drop i.toNat) = true)⟩,
   ⟨.ret, [4], [.v .bool], fun (a, b, len, i) => false, fun (a, b, len, i) => some (sameS (a.drop i.toNat) (b.drop i.toNat) = false)⟩]⟩
noncomputable def eqL.mu  : dens eqL.sh → Nat := fun (a, b, len, i) => (a.length - i).toNat
noncomputable def eqL.g  (a : List Int) (b : List Int) (len : Int) (i : Int) : Prop := GoodLA Tryd.prog (cfOf []) [] 1000 109 0 eqL eqL.mu (a, b, len, i)
noncomputable def eqL.T (a : List Int) (b : List Int) (len : Int) (i : Int) : Prop := ((True ∧ decide (i < len) = true) ∧ ¬((0 : Int) ≤ i ∧ i < (↑a.length : Int)) → False) ∧ (((True ∧ decide (i < len) = true) ∧ (0 : Int) ≤ i ∧ i < (↑a.length : Int)) ∧ ¬((0 : Int) ≤ i ∧ i < (↑b.length : Int)) → False) ∧ ((((True ∧ decide (i < len) = true) ∧ (0 : Int) ≤ i ∧ i < (↑a.length : Int)) ∧ (0 : Int) ≤ i ∧ i < (↑b.length : Int)) ∧ (a.getD i.toNat (0 : Int) != b.getD i.toNat (0 : Int)) = true →
  sameS (List.drop i.toNat a) (List.drop i.toNat b) = false ∧ false = false) ∧ ((((True ∧ decide (i < len) = true) ∧ (0 : Int) ≤ i ∧ i < (↑a.length : Int)) ∧ (0 : Int) ≤ i ∧ i < (↑b.length : Int)) ∧ (a.getD i.toNat (0 : Int) != b.getD i.toNat (0 : Int)) = false →
  (len = (↑a.length : Int) ∧ a.length = b.length ∧ (0 : Int) ≤ IntKind.i64.wrap (i + (1 : Int)) ∧ IntKind.i64.wrap (i + (1 : Int)) ≤ (↑a.length : Int) ∧ a.length ≤ (9223372036854775807 : Nat)) ∧ eqL.mu (a, b, len, IntKind.i64.wrap (i + (1 : Int))) < eqL.mu (a, b, len, i) ∧ (sameS (List.drop (IntKind.i64.wrap (i + (1 : Int))).toNat a) (List.drop (IntKind.i64.wrap (i + (1 : Int))).toNat b) = true → sameS (List.drop i.toNat a) (List.drop i.toNat b) = true ∧ () = ()) ∧ (sameS (List.drop (IntKind.i64.wrap (i + (1 : Int))).toNat a) (List.drop (IntKind.i64.wrap (i + (1 : Int))).toNat b) = false → sameS (List.drop i.toNat a) (List.drop i.toNat b) = false ∧ false = false) ∧ True) ∧ (True ∧ decide (i < len) = false → sameS (List.drop i.toNat a) (List.drop i.toNat b) = true ∧ () = ()) ∧ (True)
theorem eqL.eq  (a : List Int) (b : List Int) (len : Int) (i : Int) : eqL.g  a b len i = eqL.T  a b len i := by kernel_rfl
theorem eqL.ok  (a : List Int) (b : List Int) (len : Int) (i : Int) (hx : len = a.length ∧ a.length = b.length ∧ 0 ≤ i ∧ i ≤ a.length ∧ a.length ≤ 9223372036854775807) : eqL.T  a b len i := by
  obtain ⟨rfl, h1, h2, h3, h4⟩ := hx
  ((repeat' (first | exact trivial | apply And.intro)) <;> (intro hw; (try (simp only [zP, reduceCtorEq] at hw)); (try first | (exfalso; omega) | exact ⟨trivial, rfl⟩ | exact (hw hx).elim | exact (hw.2 hx).elim)))
  · obtain ⟨⟨⟨h6, -⟩, h5⟩, h7⟩ := hw
    rw [drop_int 0 h2 h6, drop_int 0 h2 (by omega), sameS]
    refine ⟨?_, rfl⟩
    rw [decide_eq_false h7]; rfl
  · obtain ⟨⟨⟨h6, -⟩, h5⟩, h7⟩ := hw
    rw [wrapI64 (x := i + 1) (by omega) (by omega), drop_int 0 h2 h6, drop_int 0 h2 (by omega), sameS]
    simp only [h7, decide_true, Bool.true_and, eqL.mu]
    refine ⟨⟨trivial, h1, by omega, by omega, h4⟩, by omega, fun h => ⟨h, trivial⟩, fun h => ⟨h, trivial⟩, trivial⟩
  · rw [drop_int_end hw, drop_int_end (by omega)]
    exact ⟨rfl, rfl⟩
theorem eqL.lp   : LpAt Tryd.prog 109 0 eqL := lp_evalH (l := []) (lf := 1000) (fun _ => cfOf_ok (fns_nil _)) (lps_nil _ _) (by kernel_rfl) _ (eqL.mu ) (fun ⟨a, b, len, i⟩ hx => Hid.of (eqL.eq  a b len i) (eqL.ok  a b len i hx))
noncomputable def equalF  : Face := ⟨109, [.v (.sl (.int .i64)), .v (.sl (.int .i64))], fun (a, b) => none,
  [⟨false, [.v .bool], fun (a, b) => sameS a b, fun (a, b) => none⟩]⟩
noncomputable def equalF.g  (a : List Int) (b : List Int) : Prop := GoodFA Tryd.prog (cfOf []) [(0, eqL)] 1000 equalF (a, b)
noncomputable def equalF.q0 (a : List Int) (b : List Int) : Prop := (((True ∧ a.length ≤ (9223372036854775807 : Nat)) ∧ b.length ≤ (9223372036854775807 : Nat)) ∧ ((↑a.length : Int) != (↑b.length : Int)) = false) ∧ a.length ≤ (9223372036854775807 : Nat)
noncomputable def equalF.q1 (a : List Int) (b : List Int) : Prop := (equalF.q0 a b) ∧ (↑a.length : Int) = (↑a.length : Int) ∧ a.length = b.length ∧ (0 : Int) ≤ (0 : Int) ∧ (0 : Int) ≤ (↑a.length : Int) ∧ a.length ≤ (9223372036854775807 : Nat)
noncomputable def equalF.T (a : List Int) (b : List Int) : Prop := (((True ∧ a.length ≤ (9223372036854775807 : Nat)) ∧ b.length ≤ (9223372036854775807 : Nat)) ∧ ((↑a.length : Int) != (↑b.length : Int)) = true → True ∧ false = sameS a b) ∧ ((equalF.q0 a b) ∧ ¬((↑a.length : Int) = (↑a.length : Int) ∧ a.length = b.length ∧ (0 : Int) ≤ (0 : Int) ∧ (0 : Int) ≤ (↑a.length : Int) ∧ a.length ≤ (9223372036854775807 : Nat)) → False) ∧ ((equalF.q1 a b) ∧ sameS (List.drop (Int.toNat (0 : Int)) a) (List.drop (Int.toNat (0 : Int)) b) = true → True ∧ true = sameS a b) ∧ ((equalF.q1 a b) ∧ sameS (List.drop (Int.toNat (0 : Int)) a) (List.drop (Int.toNat (0 : Int)) b) = false → True ∧ false = sameS a b) ∧ (True)
theorem equalF.eq  (a : List Int) (b : List Int) : equalF.g  a b = equalF.T  a b := by kernel_rfl
theorem equalF.ok  (a : List Int) (b : List Int) : equalF.T  a b := by
  delta equalF.T equalF.q0 equalF.q1
  ((repeat' (first | exact trivial | apply And.intro)) <;> (intro hw; (try (simp only [zP, reduceCtorEq] at hw)); (try first | (exfalso; omega) | exact ⟨trivial, rfl⟩ | exact (hw hx).elim | exact (hw.2 hx).elim)))
  · refine ⟨trivial, ?_⟩
    cases h : sameS a b with
    | false => rfl
    | true => have := sameS_len h; omega
  · exact ⟨trivial, hw.2.symm⟩
  · exact ⟨trivial, hw.2.symm⟩
theorem equalF.fn   : FnOk Tryd.prog equalF := fn_evalH (l := [(0, eqL)]) (lf := 1000) (fun _ => cfOf_ok (fns_nil _)) _ (lps_cons (eqL.lp) (lps_nil _ _)) (by kernel_rfl) (fun ⟨a, b⟩ hx => Hid.of (equalF.eq  a b) (equalF.ok  a b))
def dg (n : Int) : Nat := if 0 ≤ n ∧ n < 64 then 2 ^ n.toNat else 0
theorem dg_lt (n : Int) : dg n < 18446744073709551616 := by
  unfold dg
  split
  · rw [show 18446744073709551616 = 2 ^ 64 from rfl]; exact Nat.pow_lt_pow_right (by decide) (by omega)
  · decide
theorem dg_bit (n : Int) (i : Nat) : (dg n).testBit i = decide (i < 64 ∧ n = (i : Int)) := by
  unfold dg
  split
  · rename_i h
    rw [Nat.testBit_two_pow, decide_eq_decide]
    omega
  · rename_i h
    rw [Nat.zero_testBit]
    symm
    rw [decide_eq_false_iff_not]
    omega
def okU (s : Int) : Prop := 0 ≤ s ∧ s < 18446744073709551616
def wI (s n : Int) : Int := ((s.toNat ||| dg n : Nat) : Int)
def hI (s n : Int) : Bool := decide (0 ≤ n ∧ n < 64) && s.toNat.testBit n.toNat
def jI (s t : Int) : Int := ((s.toNat ||| t.toNat : Nat) : Int)
def lI (s t : Int) : Int := ((XW.lessN s.toNat t.toNat : Nat) : Int)
def ofI : List Int → Int → Int
  | [], s => s
  | a :: r, s => ofI r (wI s a)
theorem okU_nat {s : Int} (h : okU s) : s = ((s.toNat : Nat) : Int) ∧ s.toNat < 18446744073709551616 := ⟨by have := h.1; omega, by have := h.2; have := h.1; omega⟩
theorem okU_of {n : Nat} (h : n < 18446744073709551616) : okU (n : Int) := ⟨by omega, by omega⟩
theorem okU_w {s : Int} (n : Int) (h : okU s) : okU (wI s n) := okU_of (XW.or_lt64 _ _ (okU_nat h).2 (dg_lt n))
theorem okU_j {s t : Int} (h : okU s) (k : okU t) : okU (jI s t) := okU_of (XW.or_lt64 _ _ (okU_nat h).2 (okU_nat k).2)
theorem okU_l {s t : Int} (h : okU s) : okU (lI s t) := okU_of (XW.lessN_lt _ _ (okU_nat h).2)
theorem okU_ofI : ∀ (l : List Int) {s : Int}, okU s → okU (ofI l s)
  | [], _, h => h
  | a :: r, _, h => okU_ofI r (okU_w a h)
theorem has_nat (s : Nat) (hs : s < 18446744073709551616) (n : Int) : (bits .and .u64 (s : Int) ((dg n : Nat) : Int) != 0) = (decide (0 ≤ n ∧ n < 64) && s.testBit n.toNat) := by
  rw [bits_and_u64_nat _ _ hs (dg_lt n)]
  by_cases h : 0 ≤ n ∧ n < 64
  · have e : dg n = 2 ^ n.toNat := by unfold dg; rw [if_pos h]
    rw [e]
    have hb : (s &&& 2 ^ n.toNat) = if s.testBit n.toNat then 2 ^ n.toNat else 0 := by
      apply Nat.eq_of_testBit_eq
      intro i
      rw [Nat.testBit_and, Nat.testBit_two_pow]
      by_cases hi : n.toNat = i
      · subst hi
        cases hh : s.testBit n.toNat
        · simp
        · simp
      · cases hh : s.testBit n.toNat
        · simp [hi]
        · simp [hi]
    rw [hb]
    have hp : 0 < 2 ^ n.toNat := Nat.two_pow_pos _
    cases hh : s.testBit n.toNat
    · simp [h]
    · have h2 : ¬ ((2 ^ n.toNat : Nat) : Int) = 0 := by omega
      rw [if_pos rfl]
      simp only [h, and_self, decide_true, Bool.true_and, bne_iff_ne, ne_eq]
      exact h2
  · have e : dg n = 0 := by unfold dg; rw [if_neg h]
    rw [e]
    simp [h]
noncomputable def digitF  : Face := ⟨59, [.v (.int .i64)], fun n => none,
  [⟨false, [.v (.int .u64)], fun n => ((dg n : Nat) : Int), fun n => none⟩]⟩
noncomputable def digitF.g  (n : Int) : Prop := GoodFA Tryd.prog (cfOf []) [] 1000 digitF n
noncomputable def digitF.T (n : Int) : Prop := (True ∧ decide (n < (0 : Int)) = true → True ∧ (0 : Int) = (↑(dg n) : Int)) ∧ ((True ∧ decide (n < (0 : Int)) = false) ∧ decide (n ≥ (64 : Int)) = true → True ∧ (0 : Int) = (↑(dg n) : Int)) ∧ (((True ∧ decide (n < (0 : Int)) = false) ∧ decide (n ≥ (64 : Int)) = false) ∧ (0 : Int) ≤ n → True ∧ IntKind.u64.wrap ((1 : Int) * (2 : Int) ^ min n.toNat IntKind.u64.bits) = (↑(dg n) : Int)) ∧ (((True ∧ decide (n < (0 : Int)) = false) ∧ decide (n ≥ (64 : Int)) = false) ∧ ¬(0 : Int) ≤ n → False) ∧ (True)
theorem digitF.eq  (n : Int) : digitF.g  n = digitF.T  n := by kernel_rfl
theorem digitF.ok  (n : Int) : digitF.T  n := by
  rw [digitF.T]
  unfold dg
  ((repeat' (first | exact trivial | apply And.intro)) <;> (intro hw; (try (simp only [zP, reduceCtorEq] at hw)); (try first | (exfalso; omega) | exact ⟨trivial, rfl⟩ | exact (hw hx).elim | exact (hw.2 hx).elim)))
  all_goals first
    | (refine ⟨trivial, ?_⟩; rw [if_neg (by omega)]; rfl)
    | (refine ⟨trivial, ?_⟩
       have h2 : 0 ≤ n ∧ n < 64 := by omega
       rw [if_pos h2, show min n.toNat IntKind.u64.bits = n.toNat by have : IntKind.u64.bits = 64 := rfl; omega]
       have hp : (2 : Nat) ^ n.toNat < 18446744073709551616 := by rw [show 18446744073709551616 = 2 ^ 64 from rfl]; exact Nat.pow_lt_pow_right (by decide) (by omega)
       rw [Int.one_mul, show (2 : Int) ^ n.toNat = ((2 ^ n.toNat : Nat) : Int) by simp, XW.wrap_u64_nat, Nat.mod_eq_of_lt hp])
    | trace_state
theorem digitF.fn   : FnOk Tryd.prog digitF := fn_evalH (l := []) (lf := 1000) (fun _ => cfOf_ok (fns_nil _)) _ (lps_nil _ _) (by kernel_rfl) (fun n hx => Hid.of (digitF.eq  n) (digitF.ok  n))
noncomputable def setHas  : Face := ⟨20, [.v (.int .u64), .v (.int .i64)], fun (s, n) => some (okU s),
  [⟨false, [.v .bool], fun (s, n) => hI s n, fun (s, n) => none⟩]⟩
noncomputable def setHas.g  (s : Int) (n : Int) : Prop := GoodFA Tryd.prog (cfOf [digitF]) [] 1000 setHas (s, n)
noncomputable def setHas.T (s : Int) (n : Int) : Prop := (True → True ∧ (bits BinOp.and IntKind.u64 s (↑(dg n) : Int) != (0 : Int)) = hI s n) ∧ (True)
theorem setHas.eq  (s : Int) (n : Int) : setHas.g  s n = setHas.T  s n := by kernel_rfl
theorem setHas.ok  (s : Int) (n : Int) (hx : okU s) : setHas.T  s n := by
  rw [setHas.T, hI, ← has_nat _ (okU_nat hx).2, ← (okU_nat hx).1]
  ((repeat' (first | exact trivial | apply And.intro)) <;> (intro hw; (try (simp only [zP, reduceCtorEq] at hw)); (try first | (exfalso; omega) | exact ⟨trivial, rfl⟩ | exact (hw hx).elim | exact (hw.2 hx).elim)))
theorem setHas.fn   : FnOk Tryd.prog setHas := fn_evalH (l := []) (lf := 1000) (fun _ => cfOf_ok (fns_cons digitF.fn (fns_nil _))) _ (lps_nil _ _) (by kernel_rfl) (fun ⟨s, n⟩ hx => Hid.of (setHas.eq  s n) (setHas.ok  s n hx))
noncomputable def setWith  : Face := ⟨44, [.v (.int .u64), .v (.int .i64)], fun (s, n) => some (okU s),
  [⟨false, [.v (.int .u64)], fun (s, n) => wI s n, fun (s, n) => none⟩]⟩
noncomputable def setWith.g  (s : Int) (n : Int) : Prop := GoodFA Tryd.prog (cfOf [digitF]) [] 1000 setWith (s, n)
noncomputable def setWith.T (s : Int) (n : Int) : Prop := (True → True ∧ bits BinOp.or IntKind.u64 s (↑(dg n) : Int) = wI s n) ∧ (True)
theorem setWith.eq  (s : Int) (n : Int) : setWith.g  s n = setWith.T  s n := by kernel_rfl
theorem setWith.ok  (s : Int) (n : Int) (hx : okU s) : setWith.T  s n := by
  have e := bits_or_u64_nat _ _ (okU_nat hx).2 (dg_lt n)
  rw [← (okU_nat hx).1] at e
  rw [setWith.T, e, wI]
  ((repeat' (first | exact trivial | apply And.intro)) <;> (intro hw; (try (simp only [zP, reduceCtorEq] at hw)); (try first | (exfalso; omega) | exact ⟨trivial, rfl⟩ | exact (hw hx).elim | exact (hw.2 hx).elim)))
theorem setWith.fn   : FnOk Tryd.prog setWith := fn_evalH (l := []) (lf := 1000) (fun _ => cfOf_ok (fns_cons digitF.fn (fns_nil _))) _ (lps_nil _ _) (by kernel_rfl) (fun ⟨s, n⟩ hx => Hid.of (setWith.eq  s n) (setWith.ok  s n hx))
noncomputable def setIn  : Face := ⟨34, [.v (.int .u64), .v (.int .u64)], fun (s, t) => some (okU s ∧ okU t),
  [⟨false, [.v .bool], fun (s, t) => decide (lI s t = 0), fun (s, t) => none⟩]⟩
noncomputable def setIn.g  (s : Int) (t : Int) : Prop := GoodFA Tryd.prog (cfOf []) [] 1000 setIn (s, t)
noncomputable def setIn.T (s : Int) (t : Int) : Prop := (True → True ∧ (bits BinOp.andNot IntKind.u64 s t == (0 : Int)) = decide (lI s t = (0 : Int))) ∧ (True)
theorem setIn.eq  (s : Int) (t : Int) : setIn.g  s t = setIn.T  s t := by kernel_rfl
theorem setIn.ok  (s : Int) (t : Int) (hx : okU s ∧ okU t) : setIn.T  s t := by
  have e := XW.bits_less_nat _ _ (okU_nat hx.1).2 (okU_nat hx.2).2
  rw [← (okU_nat hx.1).1, ← (okU_nat hx.2).1] at e
  rw [setIn.T, e, lI]
  ((repeat' (first | exact trivial | apply And.intro)) <;> (intro hw; (try (simp only [zP, reduceCtorEq] at hw)); (try first | (exfalso; omega) | exact ⟨trivial, rfl⟩ | exact (hw hx).elim | exact (hw.2 hx).elim)))
  all_goals (refine ⟨trivial, ?_⟩; rfl)
theorem setIn.fn   : FnOk Tryd.prog setIn := fn_evalH (l := []) (lf := 1000) (fun _ => cfOf_ok (fns_nil _)) _ (lps_nil _ _) (by kernel_rfl) (fun ⟨s, t⟩ hx => Hid.of (setIn.eq  s t) (setIn.ok  s t hx))
noncomputable def setLess  : Face := ⟨42, [.v (.int .u64), .v (.int .u64)], fun (s, t) => some (okU s ∧ okU t),
  [⟨false, [.v (.int .u64)], fun (s, t) => lI s t, fun (s, t) => none⟩]⟩
noncomputable def setLess.g  (s : Int) (t : Int) : Prop := GoodFA Tryd.prog (cfOf []) [] 1000 setLess (s, t)
noncomputable def setLess.T (s : Int) (t : Int) : Prop := (True → True ∧ bits BinOp.andNot IntKind.u64 s t = lI s t) ∧ (True)
theorem setLess.eq  (s : Int) (t : Int) : setLess.g  s t = setLess.T  s t := by kernel_rfl
theorem setLess.ok  (s : Int) (t : Int) (hx : okU s ∧ okU t) : setLess.T  s t := by
  have e := XW.bits_less_nat _ _ (okU_nat hx.1).2 (okU_nat hx.2).2
  rw [← (okU_nat hx.1).1, ← (okU_nat hx.2).1] at e
  rw [setLess.T, e, lI]
  ((repeat' (first | exact trivial | apply And.intro)) <;> (intro hw; (try (simp only [zP, reduceCtorEq] at hw)); (try first | (exfalso; omega) | exact ⟨trivial, rfl⟩ | exact (hw hx).elim | exact (hw.2 hx).elim)))
theorem setLess.fn   : FnOk Tryd.prog setLess := fn_evalH (l := []) (lf := 1000) (fun _ => cfOf_ok (fns_nil _)) _ (lps_nil _ _) (by kernel_rfl) (fun ⟨s, t⟩ hx => Hid.of (setLess.eq  s t) (setLess.ok  s t hx))
noncomputable def setJoin  : Face := ⟨43, [.v (.int .u64), .v (.int .u64)], fun (s, t) => some (okU s ∧ okU t),
  [⟨false, [.v (.int .u64)], fun (s, t) => jI s t, fun (s, t) => none⟩]⟩
noncomputable def setJoin.g  (s : Int) (t : Int) : Prop := GoodFA Tryd.prog (cfOf []) [] 1000 setJoin (s, t)
noncomputable def setJoin.T (s : Int) (t : Int) : Prop := (True → True ∧ bits BinOp.or IntKind.u64 s t = jI s t) ∧ (True)
theorem setJoin.eq  (s : Int) (t : Int) : setJoin.g  s t = setJoin.T  s t := by kernel_rfl
theorem setJoin.ok  (s : Int) (t : Int) (hx : okU s ∧ okU t) : setJoin.T  s t := by
  have e := bits_or_u64_nat _ _ (okU_nat hx.1).2 (okU_nat hx.2).2
  rw [← (okU_nat hx.1).1, ← (okU_nat hx.2).1] at e
  rw [setJoin.T, e, jI]
  ((repeat' (first | exact trivial | apply And.intro)) <;> (intro hw; (try (simp only [zP, reduceCtorEq] at hw)); (try first | (exfalso; omega) | exact ⟨trivial, rfl⟩ | exact (hw hx).elim | exact (hw.2 hx).elim)))
theorem setJoin.fn   : FnOk Tryd.prog setJoin := fn_evalH (l := []) (lf := 1000) (fun _ => cfOf_ok (fns_nil _)) _ (lps_nil _ _) (by kernel_rfl) (fun ⟨s, t⟩ hx => Hid.of (setJoin.eq  s t) (setJoin.ok  s t hx))
noncomputable def setOf.L0  : LFace := ⟨[2, 3, 6, 7, 8], [.v (.int .u64), .v (.int .u64), .v (.sl (.int .i64)), .v (.int .i64), .v (.int .i64)], fun (z, s, l, n, i) => some (n = l.length ∧ 0 ≤ i ∧ i ≤ n ∧ l.length ≤ 9223372036854775807 ∧ okU s),
  [⟨.normal, [2, 3], [.v (.int .u64), .v (.int .u64)], fun (z, s, l, n, i) => (z, ofI (l.drop i.toNat) s), fun (z, s, l, n, i) => none⟩]⟩
noncomputable def setOf.L0.mu  : dens setOf.L0.sh → Nat := fun (z, s, l, n, i) => (n - i).toNat
noncomputable def setOf.L0.g  (z : Int) (s : Int) (l : List Int) (n : Int) (i : Int) : Prop := GoodLA Tryd.prog (cfOf [setWith]) [] 1000 25 0 setOf.L0 setOf.L0.mu (z, s, l, n, i)
noncomputable def setOf.L0.T (z : Int) (s : Int) (l : List Int) (n : Int) (i : Int) : Prop := (((True ∧ decide (i < n) = true) ∧ (0 : Int) ≤ i ∧ i < (↑l.length : Int)) ∧ ¬okU s → False) ∧ (((True ∧ decide (i < n) = true) ∧ (0 : Int) ≤ i ∧ i < (↑l.length : Int)) ∧ okU s →
  (n = (↑l.length : Int) ∧ (0 : Int) ≤ IntKind.i64.wrap (i + (1 : Int)) ∧ IntKind.i64.wrap (i + (1 : Int)) ≤ n ∧ l.length ≤ (9223372036854775807 : Nat) ∧ okU (wI s (l.getD i.toNat (0 : Int)))) ∧ setOf.L0.mu (z, wI s (l.getD i.toNat (0 : Int)), l, n, IntKind.i64.wrap (i + (1 : Int))) < setOf.L0.mu (z, s, l, n, i) ∧ (True → True ∧ (z, ofI (List.drop (IntKind.i64.wrap (i + (1 : Int))).toNat l) (wI s (l.getD i.toNat (0 : Int)))) = (z, ofI (List.drop i.toNat l) s)) ∧ True) ∧ ((True ∧ decide (i < n) = true) ∧ ¬((0 : Int) ≤ i ∧ i < (↑l.length : Int)) → False) ∧ (True ∧ decide (i < n) = false → True ∧ (z, s) = (z, ofI (List.drop i.toNat l) s)) ∧ (True)
theorem setOf.L0.eq  (z : Int) (s : Int) (l : List Int) (n : Int) (i : Int) : setOf.L0.g  z s l n i = setOf.L0.T  z s l n i := by kernel_rfl
theorem setOf.L0.ok  (z : Int) (s : Int) (l : List Int) (n : Int) (i : Int) (hx : n = l.length ∧ 0 ≤ i ∧ i ≤ n ∧ l.length ≤ 9223372036854775807 ∧ okU s) : setOf.L0.T  z s l n i := by
  obtain ⟨rfl, h0, h1, h2, h3⟩ := hx
  rw [setOf.L0.T]
  by_cases hi : i < (l.length : Int)
  · rw [wrapI64 (x := i + 1) (by omega) (by omega), drop_int 0 h0 hi, ofI]
    have h4 := okU_w (l.getD i.toNat 0) h3
    ((repeat' (first | exact trivial | apply And.intro)) <;> (intro hw; (try (simp only [zP, reduceCtorEq] at hw)); (try first | (exfalso; omega) | exact ⟨trivial, rfl⟩ | exact (hw hx).elim | exact (hw.2 hx).elim)))
    all_goals first
      | exact hw.2 h3
      | exact ⟨⟨rfl, by omega, by omega, h2, h4⟩, by simp only [setOf.L0.mu]; omega, fun _ => ⟨trivial, rfl⟩, trivial⟩
      | trace_state
  · rw [drop_int_end hi]
    ((repeat' (first | exact trivial | apply And.intro)) <;> (intro hw; (try (simp only [zP, reduceCtorEq] at hw)); (try first | (exfalso; omega) | exact ⟨trivial, rfl⟩ | exact (hw hx).elim | exact (hw.2 hx).elim)))
    all_goals exact ⟨trivial, rfl⟩
theorem setOf.L0.lp   : LpAt Tryd.prog 25 0 setOf.L0 := lp_evalH (l := []) (lf := 1000) (fun _ => cfOf_ok (fns_cons setWith.fn (fns_nil _))) (lps_nil _ _) (by kernel_rfl) _ (setOf.L0.mu ) (fun ⟨z, s, l, n, i⟩ hx => Hid.of (setOf.L0.eq  z s l n i) (setOf.L0.ok  z s l n i hx))
noncomputable def setOf  : Face := ⟨25, [.v (.sl (.int .i64))], fun l => none,
  [⟨false, [.v (.int .u64)], fun l => ofI l 0, fun l => none⟩]⟩
noncomputable def setOf.g  (l : List Int) : Prop := GoodFA Tryd.prog (cfOf []) [(0, setOf.L0)] 1000 setOf l
noncomputable def setOf.T (l : List Int) : Prop := ((True ∧ l.length ≤ (9223372036854775807 : Nat)) ∧ ¬((↑l.length : Int) = (↑l.length : Int) ∧ (0 : Int) ≤ (0 : Int) ∧ (0 : Int) ≤ (↑l.length : Int) ∧ l.length ≤ (9223372036854775807 : Nat) ∧ okU (0 : Int)) → False) ∧ ((True ∧ l.length ≤ (9223372036854775807 : Nat)) ∧ (↑l.length : Int) = (↑l.length : Int) ∧ (0 : Int) ≤ (0 : Int) ∧ (0 : Int) ≤ (↑l.length : Int) ∧ l.length ≤ (9223372036854775807 : Nat) ∧ okU (0 : Int) →
  True ∧ ofI (List.drop (Int.toNat (0 : Int)) l) (0 : Int) = ofI l (0 : Int)) ∧ (True)
theorem setOf.eq  (l : List Int) : setOf.g  l = setOf.T  l := by kernel_rfl
theorem setOf.ok  (l : List Int) : setOf.T  l := by
  have h3 : okU 0 := ⟨by decide, by decide⟩
  rw [setOf.T]
  simp only [show Int.toNat 0 = 0 from rfl, List.drop_zero]
  ((repeat' (first | exact trivial | apply And.intro)) <;> (intro hw; (try (simp only [zP, reduceCtorEq] at hw)); (try first | (exfalso; omega) | exact ⟨trivial, rfl⟩ | exact (hw hx).elim | exact (hw.2 hx).elim)))
  all_goals first
    | exact hw.2 ⟨by omega, by omega, by omega, h3⟩
    | exact ⟨trivial, trivial⟩
    | trace_state
theorem setOf.fn   : FnOk Tryd.prog setOf := fn_evalH (l := [(0, setOf.L0)]) (lf := 1000) (fun _ => cfOf_ok (fns_nil _)) _ (lps_cons (setOf.L0.lp) (lps_nil _ _)) (by kernel_rfl) (fun l hx => Hid.of (setOf.eq  l) (setOf.ok  l))
end Go.Proofs.YtajnboigikdefaaDoor.D

namespace Go.Proofs.YtajnboigikdefaaDoor.D
open Go Go.EV Go.Proofs
set_option linter.unusedVariables false
set_option linter.unusedSimpArgs false
set_option maxRecDepth 100000
def grB1 (s : ByteArray) : Bool := decide ((bI s).headD 0 < 97)
def bA97 : ByteArray := ⟨#[97]⟩
theorem less_all (b : UInt8) : Op.bytesLess [b] [97] = decide ((b.toNat : Int) < 97) := by
  have h : (b < 97) = (b.toNat < 97) := by rw [UInt8.lt_iff_toNat_lt]; rfl
  by_cases hb : b.toNat < 97
  · simp [Op.bytesLess, h, hb]; omega
  · simp [Op.bytesLess, h, hb]; omega
theorem great_is {s : ByteArray} (h : 1 ≤ s.size) : Op.bytesLess (s.extract 0 1).toList bA97.toList = grB1 s := by
  have e2 : bA97.toList = [97] := by rw [toList_data]; rfl
  have e1 : (s.extract 0 1).toList = [s.get! 0] := by
    rw [toList_data, ext_toB, toB_list, List.drop_zero]
    have h2 := get0 s
    rw [size_list] at h
    revert h h2
    generalize s.data.toList = l
    cases l with
    | nil => intro h; simp at h
    | cons a r => intro _ h2; rw [h2]; rfl
  rw [e1, e2, less_all, grB1, head_bI]
noncomputable def greatF  : Face := ⟨94, [.v .str], fun s => some (1 ≤ s.size),
  [⟨false, [.v .bool], fun s => grB1 s, fun s => none⟩]⟩
noncomputable def greatF.g  (s : ByteArray) : Prop := GoodFA Tryd.prog (cfOf []) [] 1000 greatF s
noncomputable def greatF.T (s : ByteArray) : Prop := (True ∧ (0 : Int) ≤ (0 : Int) ∧ (0 : Int) ≤ (1 : Int) ∧ (1 : Int) ≤ (↑s.size : Int) → True ∧ Op.bytesLess (s.extract (Int.toNat (0 : Int)) (Int.toNat (1 : Int))).toList (bA97).toList = grB1 s) ∧ (True ∧ ¬((0 : Int) ≤ (0 : Int) ∧ (0 : Int) ≤ (1 : Int) ∧ (1 : Int) ≤ (↑s.size : Int)) → False) ∧ (True)
theorem greatF.eq  (s : ByteArray) : greatF.g  s = greatF.T  s := by kernel_rfl
theorem greatF.ok  (s : ByteArray) (hx : 1 ≤ s.size) : greatF.T  s := by
  rw [greatF.T]
  simp only [show Int.toNat 0 = 0 from rfl, show Int.toNat 1 = 1 from rfl, great_is hx]
  ((repeat' (first | exact trivial | apply And.intro)) <;> (intro hw; (try (simp only [zP, reduceCtorEq] at hw)); (try first | (exfalso; omega) | exact ⟨trivial, rfl⟩ | exact (hw hx).elim | exact (hw.2 hx).elim)))
  all_goals exact ⟨trivial, trivial⟩
theorem greatF.fn   : FnOk Tryd.prog greatF := fn_evalH (l := []) (lf := 1000) (fun _ => cfOf_ok (fns_nil _)) _ (lps_nil _ _) (by kernel_rfl) (fun s hx => Hid.of (greatF.eq  s) (greatF.ok  s hx))
def sumL : List (List ByteArray) → Int
  | [] => 0
  | a :: r => (a.length : Int) + sumL r
theorem sumL_nn : ∀ l, 0 ≤ sumL l
  | [] => Int.le_refl _
  | a :: r => by have := sumL_nn r; rw [sumL]; omega
noncomputable def ccL0  : LFace := ⟨[0, 2, 3, 9, 10, 11], [.v (.sl (.sl .str)), .un, .v (.int .i64), .v (.sl (.sl .str)), .v (.int .i64), .v (.int .i64)], fun (z, u, k, l, n, i) => some (n = l.length ∧ 0 ≤ i ∧ i ≤ n ∧ l.length ≤ 1000 ∧ 0 ≤ k ∧ k + sumL (l.drop i.toNat) ≤ 1000000),
  [⟨.normal, [0, 2, 3], [.v (.sl (.sl .str)), .un, .v (.int .i64)], fun (z, u, k, l, n, i) => (z, (), k + sumL (l.drop i.toNat)), fun (z, u, k, l, n, i) => none⟩]⟩
noncomputable def ccL0.mu  : dens ccL0.sh → Nat := fun (z, u, k, l, n, i) => (n - i).toNat
noncomputable def ccL0.g  (z : List (List ByteArray)) (u : Unit) (k : Int) (l : List (List ByteArray)) (n : Int) (i : Int) : Prop := GoodLA Tryd.prog (cfOf []) [] 1000 92 0 ccL0 ccL0.mu (z, u, k, l, n, i)
noncomputable def ccL0.T (z : List (List ByteArray)) (u : Unit) (k : Int) (l : List (List ByteArray)) (n : Int) (i : Int) : Prop := ((((True ∧ decide (i < n) = true) ∧ (0 : Int) ≤ i ∧ i < (↑l.length : Int)) ∧ (l.getD i.toNat []).length ≤ (9223372036854775807 : Nat)) ∧ decide (IntKind.i64.wrap (k + (↑(l.getD i.toNat []).length : Int)) < (0 : Int)) = true → False) ∧ ((((True ∧ decide (i < n) = true) ∧ (0 : Int) ≤ i ∧ i < (↑l.length : Int)) ∧ (l.getD i.toNat []).length ≤ (9223372036854775807 : Nat)) ∧ decide (IntKind.i64.wrap (k + (↑(l.getD i.toNat []).length : Int)) < (0 : Int)) = false →
  (n = (↑l.length : Int) ∧ (0 : Int) ≤ IntKind.i64.wrap (i + (1 : Int)) ∧ IntKind.i64.wrap (i + (1 : Int)) ≤ n ∧ l.length ≤ (1000 : Nat) ∧ (0 : Int) ≤ IntKind.i64.wrap (k + (↑(l.getD i.toNat []).length : Int)) ∧ IntKind.i64.wrap (k + (↑(l.getD i.toNat []).length : Int)) + sumL (List.drop (IntKind.i64.wrap (i + (1 : Int))).toNat l) ≤ (1000000 : Int)) ∧ ccL0.mu (z, (), IntKind.i64.wrap (k + (↑(l.getD i.toNat []).length : Int)), l, n, IntKind.i64.wrap (i + (1 : Int))) < ccL0.mu (z, u, k, l, n, i) ∧ (True → True ∧ (z, (), IntKind.i64.wrap (k + (↑(l.getD i.toNat []).length : Int)) + sumL (List.drop (IntKind.i64.wrap (i + (1 : Int))).toNat l)) = (z, (), k + sumL (List.drop i.toNat l))) ∧ True) ∧ ((True ∧ decide (i < n) = true) ∧ ¬((0 : Int) ≤ i ∧ i < (↑l.length : Int)) → False) ∧ (True ∧ decide (i < n) = false → True ∧ (z, (), k) = (z, (), k + sumL (List.drop i.toNat l))) ∧ (True)
theorem ccL0.eq  (z : List (List ByteArray)) (u : Unit) (k : Int) (l : List (List ByteArray)) (n : Int) (i : Int) : ccL0.g  z u k l n i = ccL0.T  z u k l n i := by kernel_rfl
theorem ccL0.ok  (z : List (List ByteArray)) (u : Unit) (k : Int) (l : List (List ByteArray)) (n : Int) (i : Int) (hx : n = l.length ∧ 0 ≤ i ∧ i ≤ n ∧ l.length ≤ 1000 ∧ 0 ≤ k ∧ k + sumL (l.drop i.toNat) ≤ 1000000) : ccL0.T  z u k l n i := by
  obtain ⟨rfl, h0, h1, h2, h3, h4⟩ := hx
  rw [ccL0.T]
  by_cases hi : i < (l.length : Int)
  · have hd := drop_int [] h0 hi
    rw [hd, sumL] at h4 ⊢
    generalize l.getD i.toNat [] = a at *
    have h5 := sumL_nn (l.drop (i + 1).toNat)
    rw [wrapI64 (x := i + 1) (by omega) (by omega), wrapI64 (x := k + (a.length : Int)) (by omega) (by omega)]
    ((repeat' (first | exact trivial | apply And.intro)) <;> (intro hw; (try (simp only [zP, reduceCtorEq] at hw)); (try first | (exfalso; omega) | exact ⟨trivial, rfl⟩ | exact (hw hx).elim | exact (hw.2 hx).elim)))
    all_goals first
      | (exfalso; omega)
      | exact ⟨⟨rfl, by omega, by omega, h2, by omega, by omega⟩, by simp only [ccL0.mu]; omega, fun _ => ⟨trivial, by rw [Int.add_assoc]⟩, trivial⟩
      | trace_state
  · rw [drop_int_end hi, sumL]
    ((repeat' (first | exact trivial | apply And.intro)) <;> (intro hw; (try (simp only [zP, reduceCtorEq] at hw)); (try first | (exfalso; omega) | exact ⟨trivial, rfl⟩ | exact (hw hx).elim | exact (hw.2 hx).elim)))
    all_goals first
      | (exfalso; omega)
      | exact ⟨trivial, by rw [Int.add_zero]⟩
      | trace_state
theorem ccL0.lp   : LpAt Tryd.prog 92 0 ccL0 := lp_evalH (l := []) (lf := 1000) (fun _ => cfOf_ok (fns_nil _)) (lps_nil _ _) (by kernel_rfl) _ (ccL0.mu ) (fun ⟨z, u, k, l, n, i⟩ hx => Hid.of (ccL0.eq  z u k l n i) (ccL0.ok  z u k l n i hx))
noncomputable def ccL2  : LFace := ⟨[2, 6, 25, 26, 27], [.un, .row .str 9, .v (.sl (.sl .str)), .v (.int .i64), .v (.int .i64)], fun (u, o, l, n, i) => some (n = l.length ∧ 0 ≤ i ∧ i ≤ n ∧ l.length ≤ 1000 ∧ (o.length : Int) + sumL (l.drop i.toNat) ≤ 1000000),
  [⟨.normal, [2, 6], [.un, .row .str 9], fun (u, o, l, n, i) => ((), o ++ (l.drop i.toNat).flatten), fun (u, o, l, n, i) => none⟩]⟩
noncomputable def ccL2.mu  : dens ccL2.sh → Nat := fun (u, o, l, n, i) => (n - i).toNat
noncomputable def ccL2.g  (u : Unit) (o : List ByteArray) (l : List (List ByteArray)) (n : Int) (i : Int) : Prop := GoodLA Tryd.prog (cfOf []) [] 1000 92 2 ccL2 ccL2.mu (u, o, l, n, i)
noncomputable def ccL2.T (u : Unit) (o : List ByteArray) (l : List (List ByteArray)) (n : Int) (i : Int) : Prop := (((True ∧ decide (i < n) = true) ∧ (0 : Int) ≤ i ∧ i < (↑l.length : Int)) ∧ (o.length + (l.getD i.toNat []).length) * (16 : Nat) ≤ (140737488355328 : Nat) →
  (n = (↑l.length : Int) ∧ (0 : Int) ≤ IntKind.i64.wrap (i + (1 : Int)) ∧ IntKind.i64.wrap (i + (1 : Int)) ≤ n ∧ l.length ≤ (1000 : Nat) ∧ (↑(o ++ l.getD i.toNat []).length : Int) + sumL (List.drop (IntKind.i64.wrap (i + (1 : Int))).toNat l) ≤ (1000000 : Int)) ∧ ccL2.mu ((), o ++ l.getD i.toNat [], l, n, IntKind.i64.wrap (i + (1 : Int))) < ccL2.mu (u, o, l, n, i) ∧ (True → True ∧ ((), o ++ l.getD i.toNat [] ++ (List.drop (IntKind.i64.wrap (i + (1 : Int))).toNat l).flatten) = ((), o ++ (List.drop i.toNat l).flatten)) ∧ True) ∧ (((True ∧ decide (i < n) = true) ∧ (0 : Int) ≤ i ∧ i < (↑l.length : Int)) ∧ ¬(o.length + (l.getD i.toNat []).length) * (16 : Nat) ≤ (140737488355328 : Nat) → False) ∧ ((True ∧ decide (i < n) = true) ∧ ¬((0 : Int) ≤ i ∧ i < (↑l.length : Int)) → False) ∧ (True ∧ decide (i < n) = false → True ∧ ((), o) = ((), o ++ (List.drop i.toNat l).flatten)) ∧ (True)
theorem ccL2.eq  (u : Unit) (o : List ByteArray) (l : List (List ByteArray)) (n : Int) (i : Int) : ccL2.g  u o l n i = ccL2.T  u o l n i := by kernel_rfl
theorem ccL2.ok  (u : Unit) (o : List ByteArray) (l : List (List ByteArray)) (n : Int) (i : Int) (hx : n = l.length ∧ 0 ≤ i ∧ i ≤ n ∧ l.length ≤ 1000 ∧ (o.length : Int) + sumL (l.drop i.toNat) ≤ 1000000) : ccL2.T  u o l n i := by
  obtain ⟨rfl, h0, h1, h2, h4⟩ := hx
  rw [ccL2.T]
  by_cases hi : i < (l.length : Int)
  · have hd := drop_int [] h0 hi
    rw [hd, sumL] at h4
    rw [hd, List.flatten_cons]
    generalize l.getD i.toNat [] = a at *
    have h5 := sumL_nn (l.drop (i + 1).toNat)
    rw [wrapI64 (x := i + 1) (by omega) (by omega)]
    ((repeat' (first | exact trivial | apply And.intro)) <;> (intro hw; (try (simp only [zP, reduceCtorEq] at hw)); (try first | (exfalso; omega) | exact ⟨trivial, rfl⟩ | exact (hw hx).elim | exact (hw.2 hx).elim)))
    all_goals first
      | (exfalso; omega)
      | exact ⟨⟨rfl, by omega, by omega, h2, by rw [List.length_append]; omega⟩, by simp only [ccL2.mu]; omega, fun _ => ⟨trivial, by rw [List.append_assoc]⟩, trivial⟩
      | trace_state
  · rw [drop_int_end hi, List.flatten_nil, List.append_nil]
    ((repeat' (first | exact trivial | apply And.intro)) <;> (intro hw; (try (simp only [zP, reduceCtorEq] at hw)); (try first | (exfalso; omega) | exact ⟨trivial, rfl⟩ | exact (hw hx).elim | exact (hw.2 hx).elim)))
    all_goals first
      | (exfalso; omega)
      | exact ⟨trivial, rfl⟩
      | trace_state
theorem ccL2.lp   : LpAt Tryd.prog 92 2 ccL2 := lp_evalH (l := []) (lf := 1000) (fun _ => cfOf_ok (fns_nil _)) (lps_nil _ _) (by kernel_rfl) _ (ccL2.mu ) (fun ⟨u, o, l, n, i⟩ hx => Hid.of (ccL2.eq  u o l n i) (ccL2.ok  u o l n i hx))
noncomputable def concatF  : Face := ⟨92, [.v (.sl (.sl .str))], fun l => some (l.length ≤ 1000 ∧ sumL l ≤ 1000),
  [⟨false, [.v (.sl .str)], fun l => l.flatten, fun l => none⟩]⟩
noncomputable def concatF.g  (l : List (List ByteArray)) : Prop := GoodFA Tryd.prog (inl Tryd.prog (cfOf []) 1) [(0, ccL0), (2, ccL2)] 1000 concatF l
noncomputable def concatF.q2 (l : List (List ByteArray)) : Prop := (True ∧ l.length ≤ (9223372036854775807 : Nat)) ∧ (↑l.length : Int) = (↑l.length : Int) ∧ (0 : Int) ≤ (0 : Int) ∧ (0 : Int) ≤ (↑l.length : Int) ∧ l.length ≤ (1000 : Nat) ∧ (0 : Int) ≤ (0 : Int) ∧ (0 : Int) + sumL (List.drop (Int.toNat (0 : Int)) l) ≤ (1000000 : Int)
noncomputable def concatF.q0 (l : List (List ByteArray)) : Prop := (concatF.q2 l) ∧ decide ((0 : Int) + sumL (List.drop (Int.toNat (0 : Int)) l) < (0 : Int)) = false
noncomputable def concatF.q5 (l : List (List ByteArray)) : Prop := (concatF.q0 l) ∧ decide (IntKind.i64.wrap ((0 : Int) + sumL (List.drop (Int.toNat (0 : Int)) l) - Int.ofNat (0 : Nat)) > (0 : Int)) = true
noncomputable def concatF.q1 (l : List (List ByteArray)) : Prop := ((concatF.q5 l) ∧ (0 : Int) ≤ IntKind.i64.wrap ((0 : Int) + sumL (List.drop (Int.toNat (0 : Int)) l) - Int.ofNat (0 : Nat)) ∧ IntKind.i64.wrap ((0 : Int) + sumL (List.drop (Int.toNat (0 : Int)) l) - Int.ofNat (0 : Nat)) * (↑(16 : Nat) : Int) ≤ (140737488355328 : Int)) ∧ l.length ≤ (9223372036854775807 : Nat)
noncomputable def concatF.q3 (l : List (List ByteArray)) : Prop := (↑l.length : Int) = (↑l.length : Int) ∧ (0 : Int) ≤ (0 : Int) ∧ (0 : Int) ≤ (↑l.length : Int) ∧ l.length ≤ (1000 : Nat) ∧ (↑(0 : Nat) : Int) + sumL (List.drop (Int.toNat (0 : Int)) l) ≤ (1000000 : Int)
noncomputable def concatF.q4 (l : List (List ByteArray)) : Prop := ((concatF.q0 l) ∧ decide (IntKind.i64.wrap ((0 : Int) + sumL (List.drop (Int.toNat (0 : Int)) l) - Int.ofNat (0 : Nat)) > (0 : Int)) = false) ∧ l.length ≤ (9223372036854775807 : Nat)
noncomputable def concatF.T (l : List (List ByteArray)) : Prop := ((True ∧ l.length ≤ (9223372036854775807 : Nat)) ∧ ¬((↑l.length : Int) = (↑l.length : Int) ∧ (0 : Int) ≤ (0 : Int) ∧ (0 : Int) ≤ (↑l.length : Int) ∧ l.length ≤ (1000 : Nat) ∧ (0 : Int) ≤ (0 : Int) ∧ (0 : Int) + sumL (List.drop (Int.toNat (0 : Int)) l) ≤ (1000000 : Int)) → False) ∧ ((concatF.q2 l) ∧ decide ((0 : Int) + sumL (List.drop (Int.toNat (0 : Int)) l) < (0 : Int)) = true → False) ∧ ((concatF.q1 l) ∧ ¬(concatF.q3 l) → False) ∧ ((concatF.q1 l) ∧ (↑l.length : Int) = (↑l.length : Int) ∧ (0 : Int) ≤ (0 : Int) ∧ (0 : Int) ≤ (↑l.length : Int) ∧ l.length ≤ (1000 : Nat) ∧ (↑(0 : Nat) : Int) + sumL (List.drop (Int.toNat (0 : Int)) l) ≤ (1000000 : Int) → True ∧ [] ++ (List.drop (Int.toNat (0 : Int)) l).flatten = l.flatten) ∧ ((concatF.q5 l) ∧ ¬((0 : Int) ≤ IntKind.i64.wrap ((0 : Int) + sumL (List.drop (Int.toNat (0 : Int)) l) - Int.ofNat (0 : Nat)) ∧ IntKind.i64.wrap ((0 : Int) + sumL (List.drop (Int.toNat (0 : Int)) l) - Int.ofNat (0 : Nat)) * (↑(16 : Nat) : Int) ≤ (140737488355328 : Int)) → False) ∧ ((concatF.q4 l) ∧ ¬(concatF.q3 l) → False) ∧ ((concatF.q4 l) ∧ (↑l.length : Int) = (↑l.length : Int) ∧ (0 : Int) ≤ (0 : Int) ∧ (0 : Int) ≤ (↑l.length : Int) ∧ l.length ≤ (1000 : Nat) ∧ (↑(0 : Nat) : Int) + sumL (List.drop (Int.toNat (0 : Int)) l) ≤ (1000000 : Int) → True ∧ [] ++ (List.drop (Int.toNat (0 : Int)) l).flatten = l.flatten) ∧ (True)
theorem concatF.eq  (l : List (List ByteArray)) : concatF.g  l = concatF.T  l := by kernel_rfl
theorem concatF.ok  (l : List (List ByteArray)) (hx : l.length ≤ 1000 ∧ sumL l ≤ 1000) : concatF.T  l := by
  obtain ⟨h1, h2⟩ := hx
  have h3 := sumL_nn l
  have e : IntKind.i64.wrap (sumL l - Int.ofNat 0) = sumL l := by rw [show Int.ofNat 0 = 0 from rfl, Int.sub_zero, wrapI64 (by omega) (by omega)]
  delta concatF.T concatF.q2 concatF.q0 concatF.q5 concatF.q1 concatF.q3 concatF.q4
  simp only [Int.zero_add, show Int.toNat 0 = 0 from rfl, List.drop_zero]
  simp only [e]
  simp only [show Int.toNat 0 = 0 from rfl, List.drop_zero, Int.zero_add, List.nil_append]
  ((repeat' (first | exact trivial | apply And.intro)) <;> (intro hw; (try (simp only [zP, reduceCtorEq] at hw)); (try first | (exfalso; omega) | exact ⟨trivial, rfl⟩ | exact (hw hx).elim | exact (hw.2 hx).elim)))
  all_goals first
    | (exfalso; omega)
    | exact ⟨trivial, trivial⟩
    | trace_state
theorem concatF.fn   : FnOk Tryd.prog concatF := fn_evalH (l := [(0, ccL0), (2, ccL2)]) (lf := 1000) (inl_ok (fun _ => cfOf_ok (fns_nil _)) (by kernel_rfl) 1) _ (lps_cons (ccL0.lp) (lps_cons (ccL2.lp) (lps_nil _ _))) (by kernel_rfl) (fun l hx => Hid.of (concatF.eq  l) (concatF.ok  l hx))
def namesL (nt : Int) (all : List ByteArray) : Int → List ByteArray → Bool
  | _, [] => true
  | i, s :: r => nameL (bI s) && ((grB1 s == decide (nt ≤ i)) && (!(memB s (all.take i.toNat)) && namesL nt all (i + 1) r))
def okN (l : List ByteArray) : Prop := ∀ s ∈ l, s.size ≤ 4000000
theorem nameL_pos {s : ByteArray} (h : nameL (bI s) = true) : 1 ≤ s.size := by
  rcases Nat.lt_or_ge s.size 1 with h1 | h1
  · rw [nameL_no (fun h2 => by omega)] at h; cases h
  · exact h1
theorem getD_mem {α : Type} {x : α} : ∀ {l : List α} {i : Nat}, i < l.length → l.getD i x ∈ l
  | [], i, h => by simp at h
  | a :: r, 0, _ => by simp
  | a :: r, i + 1, h => by rw [List.getD_cons_succ]; exact List.mem_cons_of_mem _ (getD_mem (by simpa using h))
noncomputable def nmL  : LFace := ⟨[1, 3, 12, 13, 14], [.p GR, .v (.sl .str), .v (.sl .str), .v (.int .i64), .v (.int .i64)], fun (g, all, l, n, i) => some (l = all ∧ n = l.length ∧ 0 ≤ i ∧ i ≤ n ∧ l.length ≤ 1000 ∧ okN l),
  [⟨.normal, [], [], fun (g, all, l, n, i) => (), fun (g, all, l, n, i) => some (namesL (g.1.length : Int) all i (all.drop i.toNat) = true)⟩,
   ⟨.ret, [2], [.v .bool], fun (g, all, l, n, i) => false, fun (g, all, l, n, i) => some (namesL (g.1.length : Int) all i (all.drop i.toNat) = false)⟩]⟩
noncomputable def nmL.mu  : dens nmL.sh → Nat := fun (g, all, l, n, i) => (n - i).toNat
noncomputable def nmL.g  (g : List ByteArray × List ByteArray × List (Int × List Int)) (all : List ByteArray) (l : List ByteArray) (n : Int) (i : Int) : Prop := GoodLA Tryd.prog (cfOf [nameF, greatF, hasF]) [] 1000 78 0 nmL nmL.mu (g, all, l, n, i)
noncomputable def nmL.q0 (g : List ByteArray × List ByteArray × List (Int × List Int)) (l : List ByteArray) (n : Int) (i : Int) : Prop := ((((True ∧ decide (i < n) = true) ∧ (0 : Int) ≤ i ∧ i < (↑l.length : Int)) ∧ (l.getD i.toNat ByteArray.empty).size ≤ (4000000 : Nat)) ∧ (!nameL (bI (l.getD i.toNat ByteArray.empty))) = false) ∧ List.length g.1 ≤ (9223372036854775807 : Nat)
noncomputable def nmL.q1 (g : List ByteArray × List ByteArray × List (Int × List Int)) (l : List ByteArray) (n : Int) (i : Int) : Prop := ((nmL.q0 g l n i) ∧ (1 : Nat) ≤ (l.getD i.toNat ByteArray.empty).size) ∧ (grB1 (l.getD i.toNat ByteArray.empty) != decide (i ≥ (↑(List.length g.1) : Int))) = false
noncomputable def nmL.T (g : List ByteArray × List ByteArray × List (Int × List Int)) (all : List ByteArray) (l : List ByteArray) (n : Int) (i : Int) : Prop := (((True ∧ decide (i < n) = true) ∧ (0 : Int) ≤ i ∧ i < (↑l.length : Int)) ∧ ¬(l.getD i.toNat ByteArray.empty).size ≤ (4000000 : Nat) → False) ∧ ((((True ∧ decide (i < n) = true) ∧ (0 : Int) ≤ i ∧ i < (↑l.length : Int)) ∧ (l.getD i.toNat ByteArray.empty).size ≤ (4000000 : Nat)) ∧ (!nameL (bI (l.getD i.toNat ByteArray.empty))) = true → namesL (↑(List.length g.1) : Int) all i (List.drop i.toNat all) = false ∧ false = false) ∧ ((nmL.q0 g l n i) ∧ ¬(1 : Nat) ≤ (l.getD i.toNat ByteArray.empty).size → False) ∧ (((nmL.q0 g l n i) ∧ (1 : Nat) ≤ (l.getD i.toNat ByteArray.empty).size) ∧ (grB1 (l.getD i.toNat ByteArray.empty) != decide (i ≥ (↑(List.length g.1) : Int))) = true → namesL (↑(List.length g.1) : Int) all i (List.drop i.toNat all) = false ∧ false = false) ∧ ((nmL.q1 g l n i) ∧ ¬((0 : Int) ≤ (0 : Int) ∧ (0 : Int) ≤ i ∧ i ≤ (↑all.length : Int)) → False) ∧ (((nmL.q1 g l n i) ∧ (0 : Int) ≤ (0 : Int) ∧ (0 : Int) ≤ i ∧ i ≤ (↑all.length : Int)) ∧ memB (l.getD i.toNat ByteArray.empty) (List.drop (Int.toNat (0 : Int)) (List.take i.toNat all)) = true → namesL (↑(List.length g.1) : Int) all i (List.drop i.toNat all) = false ∧ false = false) ∧ (((nmL.q1 g l n i) ∧ (0 : Int) ≤ (0 : Int) ∧ (0 : Int) ≤ i ∧ i ≤ (↑all.length : Int)) ∧ memB (l.getD i.toNat ByteArray.empty) (List.drop (Int.toNat (0 : Int)) (List.take i.toNat all)) = false → (l = all ∧ n = (↑l.length : Int) ∧ (0 : Int) ≤ IntKind.i64.wrap (i + (1 : Int)) ∧ IntKind.i64.wrap (i + (1 : Int)) ≤ n ∧ l.length ≤ (1000 : Nat) ∧ okN l) ∧ nmL.mu (g, all, l, n, IntKind.i64.wrap (i + (1 : Int))) < nmL.mu (g, all, l, n, i) ∧ (namesL (↑(List.length g.1) : Int) all (IntKind.i64.wrap (i + (1 : Int))) (List.drop (IntKind.i64.wrap (i + (1 : Int))).toNat all) = true → namesL (↑(List.length g.1) : Int) all i (List.drop i.toNat all) = true ∧ () = ()) ∧ (namesL (↑(List.length g.1) : Int) all (IntKind.i64.wrap (i + (1 : Int))) (List.drop (IntKind.i64.wrap (i + (1 : Int))).toNat all) = false → namesL (↑(List.length g.1) : Int) all i (List.drop i.toNat all) = false ∧ false = false) ∧ True) ∧ ((True ∧ decide (i < n) = true) ∧ ¬((0 : Int) ≤ i ∧ i < (↑l.length : Int)) → False) ∧ (True ∧ decide (i < n) = false → namesL (↑(List.length g.1) : Int) all i (List.drop i.toNat all) = true ∧ () = ()) ∧ (True)
theorem nmL.eq  (g : List ByteArray × List ByteArray × List (Int × List Int)) (all : List ByteArray) (l : List ByteArray) (n : Int) (i : Int) : nmL.g  g all l n i = nmL.T  g all l n i := by kernel_rfl
theorem nmL.ok  (g : List ByteArray × List ByteArray × List (Int × List Int)) (all : List ByteArray) (l : List ByteArray) (n : Int) (i : Int) (hx : l = all ∧ n = l.length ∧ 0 ≤ i ∧ i ≤ n ∧ l.length ≤ 1000 ∧ okN l) : nmL.T  g all l n i := by
  obtain ⟨rfl, rfl, h0, h1, h2, h3⟩ := hx
  delta nmL.T nmL.q0 nmL.q1
  by_cases hi : i < (l.length : Int)
  · have hm := h3 _ (getD_mem (x := ByteArray.empty) (show i.toNat < l.length by omega))
    rw [drop_int ByteArray.empty h0 hi, namesL, wrapI64 (x := i + 1) (by omega) (by omega)]
    simp only [show Int.toNat 0 = 0 from rfl, List.drop_zero]
    generalize l.getD i.toNat ByteArray.empty = s at *
    generalize l.drop (i + 1).toNat = r at *
    generalize memB s (l.take i.toNat) = b at *
    have hp : nameL (bI s) = true → 1 ≤ s.size := nameL_pos
    generalize nameL (bI s) = c at *
    generalize grB1 s = d at *
    ((repeat' (first | exact trivial | apply And.intro)) <;> (intro hw; (try (simp only [zP, reduceCtorEq] at hw)); (try first | (exfalso; omega) | exact ⟨trivial, rfl⟩ | exact (hw hx).elim | exact (hw.2 hx).elim)))
    all_goals first
      | (exfalso; omega)
      | exact (hw.2 (hp (by simp_all))).elim
      | (refine ⟨?_, trivial⟩; simp_all; done)
      | (refine ⟨⟨trivial, trivial, by omega, by omega, h2, h3⟩, by simp only [nmL.mu]; omega, fun h => ⟨?_, trivial⟩, fun h => ⟨?_, trivial⟩, trivial⟩ <;> (clear h3; simp_all; done))
      | trace_state
  · rw [drop_int_end hi, namesL]
    ((repeat' (first | exact trivial | apply And.intro)) <;> (intro hw; (try (simp only [zP, reduceCtorEq] at hw)); (try first | (exfalso; omega) | exact ⟨trivial, rfl⟩ | exact (hw hx).elim | exact (hw.2 hx).elim)))
    all_goals first
      | (exfalso; omega)
      | exact ⟨rfl, rfl⟩
      | trace_state
theorem nmL.lp   : LpAt Tryd.prog 78 0 nmL := lp_evalH (l := []) (lf := 1000) (fun _ => cfOf_ok (fns_cons nameF.fn (fns_cons greatF.fn (fns_cons hasF.fn (fns_nil _))))) (lps_nil _ _) (by kernel_rfl) _ (nmL.mu ) (fun ⟨g, all, l, n, i⟩ hx => Hid.of (nmL.eq  g all l n i) (nmL.ok  g all l n i hx))
def namesS (g : Gr) : Bool := namesL (g.1.length : Int) (g.1 ++ g.2.1) 0 (g.1 ++ g.2.1)
noncomputable def namesF  : Face := ⟨78, [.v GR], fun g => some (gSmall g ∧ okN g.1 ∧ okN g.2.1),
  [⟨false, [.v .bool], fun g => namesS g, fun g => none⟩]⟩
noncomputable def namesF.g  (g : List ByteArray × List ByteArray × List (Int × List Int)) : Prop := GoodFA Tryd.prog (cfOf [concatF]) [(0, nmL)] 1000 namesF g
noncomputable def namesF.q0 (g : List ByteArray × List ByteArray × List (Int × List Int)) : Prop := ((True ∧ (2 : Nat) ≤ (1000 : Nat) ∧ sumL [g.1, g.2.1] ≤ (1000 : Int)) ∧ [g.1, g.2.1].flatten.length ≤ (9223372036854775807 : Nat)) ∧ [g.1, g.2.1].flatten = [g.1, g.2.1].flatten ∧ (↑[g.1, g.2.1].flatten.length : Int) = (↑[g.1, g.2.1].flatten.length : Int) ∧ (0 : Int) ≤ (0 : Int) ∧ (0 : Int) ≤ (↑[g.1, g.2.1].flatten.length : Int) ∧ [g.1, g.2.1].flatten.length ≤ (1000 : Nat) ∧ okN [g.1, g.2.1].flatten
noncomputable def namesF.T (g : List ByteArray × List ByteArray × List (Int × List Int)) : Prop := (True ∧ ¬((2 : Nat) ≤ (1000 : Nat) ∧ sumL [g.1, g.2.1] ≤ (1000 : Int)) → False) ∧ (((True ∧ (2 : Nat) ≤ (1000 : Nat) ∧ sumL [g.1, g.2.1] ≤ (1000 : Int)) ∧ [g.1, g.2.1].flatten.length ≤ (9223372036854775807 : Nat)) ∧ ¬([g.1, g.2.1].flatten = [g.1, g.2.1].flatten ∧ (↑[g.1, g.2.1].flatten.length : Int) = (↑[g.1, g.2.1].flatten.length : Int) ∧ (0 : Int) ≤ (0 : Int) ∧ (0 : Int) ≤ (↑[g.1, g.2.1].flatten.length : Int) ∧ [g.1, g.2.1].flatten.length ≤ (1000 : Nat) ∧ okN [g.1, g.2.1].flatten) → False) ∧ ((namesF.q0 g) ∧ namesL (↑(List.length g.1) : Int) [g.1, g.2.1].flatten (0 : Int) (List.drop (Int.toNat (0 : Int)) [g.1, g.2.1].flatten) = true → True ∧ true = namesS g) ∧ ((namesF.q0 g) ∧ namesL (↑(List.length g.1) : Int) [g.1, g.2.1].flatten (0 : Int) (List.drop (Int.toNat (0 : Int)) [g.1, g.2.1].flatten) = false → True ∧ false = namesS g) ∧ (True)
theorem namesF.eq  (g : List ByteArray × List ByteArray × List (Int × List Int)) : namesF.g  g = namesF.T  g := by kernel_rfl
theorem namesF.ok  (g : List ByteArray × List ByteArray × List (Int × List Int)) (hx : gSmall g ∧ okN g.1 ∧ okN g.2.1) : namesF.T  g := by
  obtain ⟨⟨h1, h2⟩, h3, h4⟩ := hx
  have e : sumL [g.1, g.2.1] = (g.1.length : Int) + g.2.1.length := by rw [sumL, sumL, sumL]; omega
  have hl : (g.1 ++ g.2.1).length = g.1.length + g.2.1.length := List.length_append
  have hn : okN (g.1 ++ g.2.1) := fun s hs => (List.mem_append.1 hs).elim (h3 s) (h4 s)
  delta namesF.T namesF.q0
  rw [namesS]
  simp only [show Int.toNat 0 = 0 from rfl, List.drop_zero, List.flatten_cons, List.flatten_nil, List.append_nil, e]
  generalize g.1 ++ g.2.1 = l at *
  generalize namesL (g.1.length : Int) l 0 l = b at *
  ((repeat' (first | exact trivial | apply And.intro)) <;> (intro hw; (try (simp only [zP, reduceCtorEq] at hw)); (try first | (exfalso; omega) | exact ⟨trivial, rfl⟩ | exact (hw hx).elim | exact (hw.2 hx).elim)))
  all_goals first
    | (exfalso; omega)
    | exact (hw.2 ⟨by omega, by omega, by omega, hn⟩).elim
    | exact (hw.2 ⟨by show 2 ≤ 1000; decide, by omega⟩).elim
    | exact ⟨trivial, hw.2.symm⟩
    | trace_state
theorem namesF.fn   : FnOk Tryd.prog namesF := fn_evalH (l := [(0, nmL)]) (lf := 1000) (fun _ => cfOf_ok (fns_cons concatF.fn (fns_nil _))) _ (lps_cons (nmL.lp) (lps_nil _ _)) (by kernel_rfl) (fun g hx => Hid.of (namesF.eq  g) (namesF.ok  g hx))
def idxP {α : Type} (f : α → Bool) : Int → List α → Int
  | _, [] => -1
  | k, a :: r => if f a = true then k else idxP f (k + 1) r
theorem idxP_any {α : Type} (f : α → Bool) : ∀ (l : List α) (k : Int), 0 ≤ k → decide (0 ≤ idxP f k l) = l.any f
  | [], _, _ => rfl
  | a :: r, k, hk => by
    rw [idxP, List.any_cons]
    split
    · rename_i h; rw [h, Bool.true_or]; exact decide_eq_true hk
    · rename_i h; rw [Bool.not_eq_true] at h; rw [h, Bool.false_or]; exact idxP_any f r (k + 1) (by omega)
theorem idxP_any0 {α : Type} (f : α → Bool) (l : List α) : decide (0 ≤ idxP f 0 l) = l.any f := idxP_any f l 0 (by decide)
def okR (l : List Int) : Prop := ∀ s ∈ l, s ≤ 9223372036854775807
def alkS (p q : Int × List Int) : Bool := decide (q.1 = p.1) && sameS q.2 p.2
def leftIs (i : Int) (q : Int × List Int) : Bool := decide (q.1 = 100 + i)
def strange (g : Gr) (s : Int) : Bool := !(termS g s) && !(nonS g s)
noncomputable def alk1  : Face := ⟨108, [.v PR, .p PR], fun (q, p) => none,
  [⟨false, [.v .bool], fun (q, p) => alkS p q, fun (q, p) => none⟩]⟩
noncomputable def alk1.g  (q : Int × List Int) (p : Int × List Int) : Prop := GoodFA Tryd.prog (cfOf [equalF]) [] 1000 alk1 (q, p)
noncomputable def alk1.T (q : Int × List Int) (p : Int × List Int) : Prop := (True ∧ (q.1 == p.1) = true → True ∧ sameS q.2 p.2 = alkS p q) ∧ (True ∧ (q.1 == p.1) = false → True ∧ false = alkS p q) ∧ (True)
theorem alk1.eq  (q : Int × List Int) (p : Int × List Int) : alk1.g  q p = alk1.T  q p := by kernel_rfl
theorem alk1.ok  (q : Int × List Int) (p : Int × List Int) : alk1.T  q p := by
  rw [alk1.T, alkS]
  ((repeat' (first | exact trivial | apply And.intro)) <;> (intro hw; (try (simp only [zP, reduceCtorEq] at hw)); (try first | (exfalso; omega) | exact ⟨trivial, rfl⟩ | exact (hw hx).elim | exact (hw.2 hx).elim)))
  all_goals first
    | (refine ⟨trivial, ?_⟩; simp_all; done)
    | trace_state
theorem alk1.fn   : FnOk Tryd.prog alk1 := fn_evalH (l := []) (lf := 1000) (fun _ => cfOf_ok (fns_cons equalF.fn (fns_nil _))) _ (lps_nil _ _) (by kernel_rfl) (fun ⟨q, p⟩ hx => Hid.of (alk1.eq  q p) (alk1.ok  q p))
noncomputable def left1  : Face := ⟨81, [.v PR, .p (.int .i64)], fun (q, i) => some (0 ≤ i ∧ i ≤ 1000),
  [⟨false, [.v .bool], fun (q, i) => leftIs i q, fun (q, i) => none⟩]⟩
noncomputable def left1.g  (q : Int × List Int) (i : Int) : Prop := GoodFA Tryd.prog (cfOf []) [] 1000 left1 (q, i)
noncomputable def left1.T (q : Int × List Int) (i : Int) : Prop := (True → True ∧ (q.1 == IntKind.i64.wrap ((100 : Int) + i)) = leftIs i q) ∧ (True)
theorem left1.eq  (q : Int × List Int) (i : Int) : left1.g  q i = left1.T  q i := by kernel_rfl
theorem left1.ok  (q : Int × List Int) (i : Int) (hx : 0 ≤ i ∧ i ≤ 1000) : left1.T  q i := by
  rw [left1.T, leftIs, wrapI64 (x := 100 + i) (by omega) (by omega)]
  ((repeat' (first | exact trivial | apply And.intro)) <;> (intro hw; (try (simp only [zP, reduceCtorEq] at hw)); (try first | (exfalso; omega) | exact ⟨trivial, rfl⟩ | exact (hw hx).elim | exact (hw.2 hx).elim)))
  all_goals first
    | exact ⟨trivial, trivial⟩
    | (refine ⟨trivial, ?_⟩; rfl)
    | trace_state
theorem left1.fn   : FnOk Tryd.prog left1 := fn_evalH (l := []) (lf := 1000) (fun _ => cfOf_ok (fns_nil _)) _ (lps_nil _ _) (by kernel_rfl) (fun ⟨q, i⟩ hx => Hid.of (left1.eq  q i) (left1.ok  q i hx))
noncomputable def stra1  : Face := ⟨97, [.v (.int .i64), .p GR], fun (s, g) => some (gSmall g ∧ s ≤ 9223372036854775807),
  [⟨false, [.v .bool], fun (s, g) => strange g s, fun (s, g) => none⟩]⟩
noncomputable def stra1.g  (s : Int) (g : List ByteArray × List ByteArray × List (Int × List Int)) : Prop := GoodFA Tryd.prog (cfOf [gterm, gnon]) [] 1000 stra1 (s, g)
noncomputable def stra1.T (s : Int) (g : List ByteArray × List ByteArray × List (Int × List Int)) : Prop := (True ∧ ¬gSmall g → False) ∧ (((True ∧ gSmall g) ∧ (!termS g s) = true) ∧ ¬(gSmall g ∧ s ≤ (9223372036854775807 : Int)) → False) ∧ (((True ∧ gSmall g) ∧ (!termS g s) = true) ∧ gSmall g ∧ s ≤ (9223372036854775807 : Int) → True ∧ (!nonS g s) = strange g s) ∧ ((True ∧ gSmall g) ∧ (!termS g s) = false → True ∧ false = strange g s) ∧ (True)
theorem stra1.eq  (s : Int) (g : List ByteArray × List ByteArray × List (Int × List Int)) : stra1.g  s g = stra1.T  s g := by kernel_rfl
theorem stra1.ok  (s : Int) (g : List ByteArray × List ByteArray × List (Int × List Int)) (hx : gSmall g ∧ s ≤ 9223372036854775807) : stra1.T  s g := by
  rw [stra1.T, strange]
  ((repeat' (first | exact trivial | apply And.intro)) <;> (intro hw; (try (simp only [zP, reduceCtorEq] at hw)); (try first | (exfalso; omega) | exact ⟨trivial, rfl⟩ | exact (hw hx).elim | exact (hw.2 hx).elim)))
  all_goals first
    | exact (hw hx.1).elim
    | exact (hw.2 ⟨hx.1, hx.2⟩).elim
    | exact ⟨trivial, trivial⟩
    | (refine ⟨trivial, ?_⟩; simp_all; done)
    | trace_state
theorem stra1.fn   : FnOk Tryd.prog stra1 := fn_evalH (l := []) (lf := 1000) (fun _ => cfOf_ok (fns_cons gterm.fn (fns_cons gnon.fn (fns_nil _)))) _ (lps_nil _ _) (by kernel_rfl) (fun ⟨s, g⟩ hx => Hid.of (stra1.eq  s g) (stra1.ok  s g hx))
noncomputable def ixaL  : LFace := ⟨[0, 1, 7, 8], [.v (.sl PR), .clo 108 [PR], .v (.int .i64), .v (.int .i64)], fun (l, p, n, i) => some (n = l.length ∧ 0 ≤ i ∧ i ≤ n ∧ l.length ≤ 9223372036854775807),
  [⟨.normal, [], [], fun (l, p, n, i) => (), fun (l, p, n, i) => some (idxP (alkS p) i (l.drop i.toNat) = -1)⟩,
   ⟨.ret, [4], [.v (.int .i64)], fun (l, p, n, i) => idxP (alkS p) i (l.drop i.toNat), fun (l, p, n, i) => some (0 ≤ idxP (alkS p) i (l.drop i.toNat))⟩]⟩
noncomputable def ixaL.mu  : dens ixaL.sh → Nat := fun (l, p, n, i) => (n - i).toNat
noncomputable def ixaL.g  (l : List (Int × List Int)) (p : Int × List Int) (n : Int) (i : Int) : Prop := GoodLA Tryd.prog (cfOf [alk1]) [] 1000 100 0 ixaL ixaL.mu (l, p, n, i)
noncomputable def ixaL.T (l : List (Int × List Int)) (p : Int × List Int) (n : Int) (i : Int) : Prop := (((True ∧ decide (i < n) = true) ∧ (0 : Int) ≤ i ∧ i < (↑l.length : Int)) ∧ alkS p (l.getD i.toNat ((0 : Int), [])) = true → (0 : Int) ≤ idxP (alkS p) i (List.drop i.toNat l) ∧ i = idxP (alkS p) i (List.drop i.toNat l)) ∧ (((True ∧ decide (i < n) = true) ∧ (0 : Int) ≤ i ∧ i < (↑l.length : Int)) ∧ alkS p (l.getD i.toNat ((0 : Int), [])) = false →
  (n = (↑l.length : Int) ∧ (0 : Int) ≤ IntKind.i64.wrap (i + (1 : Int)) ∧ IntKind.i64.wrap (i + (1 : Int)) ≤ n ∧ l.length ≤ (9223372036854775807 : Nat)) ∧ ixaL.mu (l, p, n, IntKind.i64.wrap (i + (1 : Int))) < ixaL.mu (l, p, n, i) ∧ (idxP (alkS p) (IntKind.i64.wrap (i + (1 : Int))) (List.drop (IntKind.i64.wrap (i + (1 : Int))).toNat l) = (-1 : Int) → idxP (alkS p) i (List.drop i.toNat l) = (-1 : Int) ∧ () = ()) ∧ ((0 : Int) ≤ idxP (alkS p) (IntKind.i64.wrap (i + (1 : Int))) (List.drop (IntKind.i64.wrap (i + (1 : Int))).toNat l) → (0 : Int) ≤ idxP (alkS p) i (List.drop i.toNat l) ∧ idxP (alkS p) (IntKind.i64.wrap (i + (1 : Int))) (List.drop (IntKind.i64.wrap (i + (1 : Int))).toNat l) = idxP (alkS p) i (List.drop i.toNat l)) ∧ True) ∧ ((True ∧ decide (i < n) = true) ∧ ¬((0 : Int) ≤ i ∧ i < (↑l.length : Int)) → False) ∧ (True ∧ decide (i < n) = false → idxP (alkS p) i (List.drop i.toNat l) = (-1 : Int) ∧ () = ()) ∧ (True)
theorem ixaL.eq  (l : List (Int × List Int)) (p : Int × List Int) (n : Int) (i : Int) : ixaL.g  l p n i = ixaL.T  l p n i := by kernel_rfl
theorem ixaL.ok  (l : List (Int × List Int)) (p : Int × List Int) (n : Int) (i : Int) (hx : n = l.length ∧ 0 ≤ i ∧ i ≤ n ∧ l.length ≤ 9223372036854775807) : ixaL.T  l p n i := by
  obtain ⟨rfl, h0, h1, h2⟩ := hx
  rw [ixaL.T]
  by_cases hi : i < (l.length : Int)
  · rw [wrapI64 (x := i + 1) (by omega) (by omega), drop_int (0, []) h0 hi, idxP]
    generalize l.getD i.toNat (0, []) = a
    ((repeat' (first | exact trivial | apply And.intro)) <;> (intro hw; (try (simp only [zP, reduceCtorEq] at hw)); (try first | (exfalso; omega) | exact ⟨trivial, rfl⟩ | exact (hw hx).elim | exact (hw.2 hx).elim)))
    all_goals first
      | (exfalso; omega)
      | exact (hw.2 hq).elim
      | (rw [if_pos hw.2]; exact ⟨h0, rfl⟩)
      | (rw [if_neg (by rw [hw.2]; exact Bool.false_ne_true)]
         exact ⟨⟨rfl, by omega, by omega, h2⟩, by simp only [ixaL.mu]; omega, fun h => ⟨h, rfl⟩, fun h => ⟨h, rfl⟩, trivial⟩)
      | trace_state
  · rw [drop_int_end hi]
    ((repeat' (first | exact trivial | apply And.intro)) <;> (intro hw; (try (simp only [zP, reduceCtorEq] at hw)); (try first | (exfalso; omega) | exact ⟨trivial, rfl⟩ | exact (hw hx).elim | exact (hw.2 hx).elim)))
    all_goals exact ⟨rfl, rfl⟩
theorem ixaL.lp   : LpAt Tryd.prog 100 0 ixaL := lp_evalH (l := []) (lf := 1000) (fun _ => cfOf_ok (fns_cons alk1.fn (fns_nil _))) (lps_nil _ _) (by kernel_rfl) _ (ixaL.mu ) (fun ⟨l, p, n, i⟩ hx => Hid.of (ixaL.eq  l p n i) (ixaL.ok  l p n i hx))
noncomputable def ixaF  : Face := ⟨100, [.v (.sl PR), .clo 108 [PR]], fun (l, p) => none,
  [⟨false, [.v (.int .i64)], fun (l, p) => idxP (alkS p) 0 l, fun (l, p) => none⟩]⟩
noncomputable def ixaF.g  (l : List (Int × List Int)) (p : Int × List Int) : Prop := GoodFA Tryd.prog (cfOf []) [(0, ixaL)] 1000 ixaF (l, p)
noncomputable def ixaF.T (l : List (Int × List Int)) (p : Int × List Int) : Prop := ((True ∧ l.length ≤ (9223372036854775807 : Nat)) ∧ ¬((↑l.length : Int) = (↑l.length : Int) ∧ (0 : Int) ≤ (0 : Int) ∧ (0 : Int) ≤ (↑l.length : Int) ∧ l.length ≤ (9223372036854775807 : Nat)) → False) ∧ (((True ∧ l.length ≤ (9223372036854775807 : Nat)) ∧ (↑l.length : Int) = (↑l.length : Int) ∧ (0 : Int) ≤ (0 : Int) ∧ (0 : Int) ≤ (↑l.length : Int) ∧ l.length ≤ (9223372036854775807 : Nat)) ∧ idxP (alkS p) (0 : Int) (List.drop (Int.toNat (0 : Int)) l) = (-1 : Int) →
  True ∧ (-1 : Int) = idxP (alkS p) (0 : Int) l) ∧ (((True ∧ l.length ≤ (9223372036854775807 : Nat)) ∧ (↑l.length : Int) = (↑l.length : Int) ∧ (0 : Int) ≤ (0 : Int) ∧ (0 : Int) ≤ (↑l.length : Int) ∧ l.length ≤ (9223372036854775807 : Nat)) ∧ (0 : Int) ≤ idxP (alkS p) (0 : Int) (List.drop (Int.toNat (0 : Int)) l) →
  True ∧ idxP (alkS p) (0 : Int) (List.drop (Int.toNat (0 : Int)) l) = idxP (alkS p) (0 : Int) l) ∧ (True)
theorem ixaF.eq  (l : List (Int × List Int)) (p : Int × List Int) : ixaF.g  l p = ixaF.T  l p := by kernel_rfl
theorem ixaF.ok  (l : List (Int × List Int)) (p : Int × List Int) : ixaF.T  l p := by
  rw [ixaF.T]
  simp only [show Int.toNat 0 = 0 from rfl, List.drop_zero]
  ((repeat' (first | exact trivial | apply And.intro)) <;> (intro hw; (try (simp only [zP, reduceCtorEq] at hw)); (try first | (exfalso; omega) | exact ⟨trivial, rfl⟩ | exact (hw hx).elim | exact (hw.2 hx).elim)))
  all_goals first
    | (exfalso; omega)
    | exact ⟨trivial, hw.2.symm⟩
    | exact ⟨trivial, rfl⟩
    | exact ⟨trivial, trivial⟩
    | trace_state
theorem ixaF.fn   : FnOk Tryd.prog ixaF := fn_evalH (l := [(0, ixaL)]) (lf := 1000) (fun _ => cfOf_ok (fns_nil _)) _ (lps_cons (ixaL.lp) (lps_nil _ _)) (by kernel_rfl) (fun ⟨l, p⟩ hx => Hid.of (ixaF.eq  l p) (ixaF.ok  l p))
noncomputable def cfaF  : Face := ⟨80, [.v (.sl PR), .clo 108 [PR]], fun (l, p) => none,
  [⟨false, [.v .bool], fun (l, p) => l.any (alkS p), fun (l, p) => none⟩]⟩
noncomputable def cfaF.g  (l : List (Int × List Int)) (p : Int × List Int) : Prop := GoodFA Tryd.prog (cfOf [ixaF]) [] 1000 cfaF (l, p)
noncomputable def cfaF.T (l : List (Int × List Int)) (p : Int × List Int) : Prop := (True → True ∧ decide (idxP (alkS p) (0 : Int) l ≥ (0 : Int)) = l.any (alkS p)) ∧ (True)
theorem cfaF.eq  (l : List (Int × List Int)) (p : Int × List Int) : cfaF.g  l p = cfaF.T  l p := by kernel_rfl
theorem cfaF.ok  (l : List (Int × List Int)) (p : Int × List Int) : cfaF.T  l p := by
  rw [cfaF.T, ← idxP_any0]
  ((repeat' (first | exact trivial | apply And.intro)) <;> (intro hw; (try (simp only [zP, reduceCtorEq] at hw)); (try first | (exfalso; omega) | exact ⟨trivial, rfl⟩ | exact (hw hx).elim | exact (hw.2 hx).elim)))
  all_goals first
    | (exfalso; omega)
    | exact ⟨trivial, trivial⟩
    | exact ⟨trivial, rfl⟩
    | trace_state
theorem cfaF.fn   : FnOk Tryd.prog cfaF := fn_evalH (l := []) (lf := 1000) (fun _ => cfOf_ok (fns_cons ixaF.fn (fns_nil _))) _ (lps_nil _ _) (by kernel_rfl) (fun ⟨l, p⟩ hx => Hid.of (cfaF.eq  l p) (cfaF.ok  l p))
noncomputable def ixcL  : LFace := ⟨[0, 1, 7, 8], [.v (.sl PR), .clo 81 [.int .i64], .v (.int .i64), .v (.int .i64)], fun (l, p, n, i) => some ((0 ≤ p ∧ p ≤ 1000) ∧ n = l.length ∧ 0 ≤ i ∧ i ≤ n ∧ l.length ≤ 9223372036854775807),
  [⟨.normal, [], [], fun (l, p, n, i) => (), fun (l, p, n, i) => some (idxP (leftIs p) i (l.drop i.toNat) = -1)⟩,
   ⟨.ret, [4], [.v (.int .i64)], fun (l, p, n, i) => idxP (leftIs p) i (l.drop i.toNat), fun (l, p, n, i) => some (0 ≤ idxP (leftIs p) i (l.drop i.toNat))⟩]⟩
noncomputable def ixcL.mu  : dens ixcL.sh → Nat := fun (l, p, n, i) => (n - i).toNat
noncomputable def ixcL.g  (l : List (Int × List Int)) (p : Int) (n : Int) (i : Int) : Prop := GoodLA Tryd.prog (cfOf [left1]) [] 1000 100 0 ixcL ixcL.mu (l, p, n, i)
noncomputable def ixcL.T (l : List (Int × List Int)) (p : Int) (n : Int) (i : Int) : Prop := (((True ∧ decide (i < n) = true) ∧ (0 : Int) ≤ i ∧ i < (↑l.length : Int)) ∧ ¬((0 : Int) ≤ p ∧ p ≤ (1000 : Int)) → False) ∧ ((((True ∧ decide (i < n) = true) ∧ (0 : Int) ≤ i ∧ i < (↑l.length : Int)) ∧ (0 : Int) ≤ p ∧ p ≤ (1000 : Int)) ∧ leftIs p (l.getD i.toNat ((0 : Int), [])) = true →
  (0 : Int) ≤ idxP (leftIs p) i (List.drop i.toNat l) ∧ i = idxP (leftIs p) i (List.drop i.toNat l)) ∧ ((((True ∧ decide (i < n) = true) ∧ (0 : Int) ≤ i ∧ i < (↑l.length : Int)) ∧ (0 : Int) ≤ p ∧ p ≤ (1000 : Int)) ∧ leftIs p (l.getD i.toNat ((0 : Int), [])) = false →
  (((0 : Int) ≤ p ∧ p ≤ (1000 : Int)) ∧ n = (↑l.length : Int) ∧ (0 : Int) ≤ IntKind.i64.wrap (i + (1 : Int)) ∧ IntKind.i64.wrap (i + (1 : Int)) ≤ n ∧ l.length ≤ (9223372036854775807 : Nat)) ∧ ixcL.mu (l, p, n, IntKind.i64.wrap (i + (1 : Int))) < ixcL.mu (l, p, n, i) ∧ (idxP (leftIs p) (IntKind.i64.wrap (i + (1 : Int))) (List.drop (IntKind.i64.wrap (i + (1 : Int))).toNat l) = (-1 : Int) → idxP (leftIs p) i (List.drop i.toNat l) = (-1 : Int) ∧ () = ()) ∧ ((0 : Int) ≤ idxP (leftIs p) (IntKind.i64.wrap (i + (1 : Int))) (List.drop (IntKind.i64.wrap (i + (1 : Int))).toNat l) → (0 : Int) ≤ idxP (leftIs p) i (List.drop i.toNat l) ∧ idxP (leftIs p) (IntKind.i64.wrap (i + (1 : Int))) (List.drop (IntKind.i64.wrap (i + (1 : Int))).toNat l) = idxP (leftIs p) i (List.drop i.toNat l)) ∧ True) ∧ ((True ∧ decide (i < n) = true) ∧ ¬((0 : Int) ≤ i ∧ i < (↑l.length : Int)) → False) ∧ (True ∧ decide (i < n) = false → idxP (leftIs p) i (List.drop i.toNat l) = (-1 : Int) ∧ () = ()) ∧ (True)
theorem ixcL.eq  (l : List (Int × List Int)) (p : Int) (n : Int) (i : Int) : ixcL.g  l p n i = ixcL.T  l p n i := by kernel_rfl
theorem ixcL.ok  (l : List (Int × List Int)) (p : Int) (n : Int) (i : Int) (hx : (0 ≤ p ∧ p ≤ 1000) ∧ n = l.length ∧ 0 ≤ i ∧ i ≤ n ∧ l.length ≤ 9223372036854775807) : ixcL.T  l p n i := by
  obtain ⟨hq, rfl, h0, h1, h2⟩ := hx
  rw [ixcL.T]
  by_cases hi : i < (l.length : Int)
  · rw [wrapI64 (x := i + 1) (by omega) (by omega), drop_int (0, []) h0 hi, idxP]
    generalize l.getD i.toNat (0, []) = a
    ((repeat' (first | exact trivial | apply And.intro)) <;> (intro hw; (try (simp only [zP, reduceCtorEq] at hw)); (try first | (exfalso; omega) | exact ⟨trivial, rfl⟩ | exact (hw hx).elim | exact (hw.2 hx).elim)))
    all_goals first
      | (exfalso; omega)
      | exact (hw.2 hq).elim
      | (rw [if_pos hw.2]; exact ⟨h0, rfl⟩)
      | (rw [if_neg (by rw [hw.2]; exact Bool.false_ne_true)]
         exact ⟨⟨hq, rfl, by omega, by omega, h2⟩, by simp only [ixcL.mu]; omega, fun h => ⟨h, rfl⟩, fun h => ⟨h, rfl⟩, trivial⟩)
      | trace_state
  · rw [drop_int_end hi]
    ((repeat' (first | exact trivial | apply And.intro)) <;> (intro hw; (try (simp only [zP, reduceCtorEq] at hw)); (try first | (exfalso; omega) | exact ⟨trivial, rfl⟩ | exact (hw hx).elim | exact (hw.2 hx).elim)))
    all_goals exact ⟨rfl, rfl⟩
theorem ixcL.lp   : LpAt Tryd.prog 100 0 ixcL := lp_evalH (l := []) (lf := 1000) (fun _ => cfOf_ok (fns_cons left1.fn (fns_nil _))) (lps_nil _ _) (by kernel_rfl) _ (ixcL.mu ) (fun ⟨l, p, n, i⟩ hx => Hid.of (ixcL.eq  l p n i) (ixcL.ok  l p n i hx))
noncomputable def ixcF  : Face := ⟨100, [.v (.sl PR), .clo 81 [.int .i64]], fun (l, p) => some (0 ≤ p ∧ p ≤ 1000),
  [⟨false, [.v (.int .i64)], fun (l, p) => idxP (leftIs p) 0 l, fun (l, p) => none⟩]⟩
noncomputable def ixcF.g  (l : List (Int × List Int)) (p : Int) : Prop := GoodFA Tryd.prog (cfOf []) [(0, ixcL)] 1000 ixcF (l, p)
noncomputable def ixcF.q0 (l : List (Int × List Int)) (p : Int) : Prop := (True ∧ l.length ≤ (9223372036854775807 : Nat)) ∧ ((0 : Int) ≤ p ∧ p ≤ (1000 : Int)) ∧ (↑l.length : Int) = (↑l.length : Int) ∧ (0 : Int) ≤ (0 : Int) ∧ (0 : Int) ≤ (↑l.length : Int) ∧ l.length ≤ (9223372036854775807 : Nat)
noncomputable def ixcF.T (l : List (Int × List Int)) (p : Int) : Prop := ((True ∧ l.length ≤ (9223372036854775807 : Nat)) ∧ ¬(((0 : Int) ≤ p ∧ p ≤ (1000 : Int)) ∧ (↑l.length : Int) = (↑l.length : Int) ∧ (0 : Int) ≤ (0 : Int) ∧ (0 : Int) ≤ (↑l.length : Int) ∧ l.length ≤ (9223372036854775807 : Nat)) → False) ∧ ((ixcF.q0 l p) ∧ idxP (leftIs p) (0 : Int) (List.drop (Int.toNat (0 : Int)) l) = (-1 : Int) → True ∧ (-1 : Int) = idxP (leftIs p) (0 : Int) l) ∧ ((ixcF.q0 l p) ∧ (0 : Int) ≤ idxP (leftIs p) (0 : Int) (List.drop (Int.toNat (0 : Int)) l) → True ∧ idxP (leftIs p) (0 : Int) (List.drop (Int.toNat (0 : Int)) l) = idxP (leftIs p) (0 : Int) l) ∧ (True)
theorem ixcF.eq  (l : List (Int × List Int)) (p : Int) : ixcF.g  l p = ixcF.T  l p := by kernel_rfl
theorem ixcF.ok  (l : List (Int × List Int)) (p : Int) (hx : 0 ≤ p ∧ p ≤ 1000) : ixcF.T  l p := by
  delta ixcF.T ixcF.q0
  simp only [show Int.toNat 0 = 0 from rfl, List.drop_zero]
  ((repeat' (first | exact trivial | apply And.intro)) <;> (intro hw; (try (simp only [zP, reduceCtorEq] at hw)); (try first | (exfalso; omega) | exact ⟨trivial, rfl⟩ | exact (hw hx).elim | exact (hw.2 hx).elim)))
  all_goals first
    | (exfalso; omega)
    | exact ⟨trivial, hw.2.symm⟩
    | exact ⟨trivial, rfl⟩
    | exact ⟨trivial, trivial⟩
    | trace_state
theorem ixcF.fn   : FnOk Tryd.prog ixcF := fn_evalH (l := [(0, ixcL)]) (lf := 1000) (fun _ => cfOf_ok (fns_nil _)) _ (lps_cons (ixcL.lp) (lps_nil _ _)) (by kernel_rfl) (fun ⟨l, p⟩ hx => Hid.of (ixcF.eq  l p) (ixcF.ok  l p hx))
noncomputable def cfcF  : Face := ⟨80, [.v (.sl PR), .clo 81 [.int .i64]], fun (l, p) => some (0 ≤ p ∧ p ≤ 1000),
  [⟨false, [.v .bool], fun (l, p) => l.any (leftIs p), fun (l, p) => none⟩]⟩
noncomputable def cfcF.g  (l : List (Int × List Int)) (p : Int) : Prop := GoodFA Tryd.prog (cfOf [ixcF]) [] 1000 cfcF (l, p)
noncomputable def cfcF.T (l : List (Int × List Int)) (p : Int) : Prop := (True ∧ ¬((0 : Int) ≤ p ∧ p ≤ (1000 : Int)) → False) ∧ (True ∧ (0 : Int) ≤ p ∧ p ≤ (1000 : Int) → True ∧ decide (idxP (leftIs p) (0 : Int) l ≥ (0 : Int)) = l.any (leftIs p)) ∧ (True)
theorem cfcF.eq  (l : List (Int × List Int)) (p : Int) : cfcF.g  l p = cfcF.T  l p := by kernel_rfl
theorem cfcF.ok  (l : List (Int × List Int)) (p : Int) (hx : 0 ≤ p ∧ p ≤ 1000) : cfcF.T  l p := by
  rw [cfcF.T, ← idxP_any0]
  ((repeat' (first | exact trivial | apply And.intro)) <;> (intro hw; (try (simp only [zP, reduceCtorEq] at hw)); (try first | (exfalso; omega) | exact ⟨trivial, rfl⟩ | exact (hw hx).elim | exact (hw.2 hx).elim)))
  all_goals first
    | (exfalso; omega)
    | exact ⟨trivial, trivial⟩
    | exact ⟨trivial, rfl⟩
    | trace_state
theorem cfcF.fn   : FnOk Tryd.prog cfcF := fn_evalH (l := []) (lf := 1000) (fun _ => cfOf_ok (fns_cons ixcF.fn (fns_nil _))) _ (lps_nil _ _) (by kernel_rfl) (fun ⟨l, p⟩ hx => Hid.of (cfcF.eq  l p) (cfcF.ok  l p hx))
noncomputable def ixiL  : LFace := ⟨[0, 1, 7, 8], [.v (.sl (.int .i64)), .clo 97 [GR], .v (.int .i64), .v (.int .i64)], fun (l, g, n, i) => some (gSmall g ∧ okR l ∧ n = l.length ∧ 0 ≤ i ∧ i ≤ n ∧ l.length ≤ 9223372036854775807),
  [⟨.normal, [], [], fun (l, g, n, i) => (), fun (l, g, n, i) => some (idxP (strange g) i (l.drop i.toNat) = -1)⟩,
   ⟨.ret, [4], [.v (.int .i64)], fun (l, g, n, i) => idxP (strange g) i (l.drop i.toNat), fun (l, g, n, i) => some (0 ≤ idxP (strange g) i (l.drop i.toNat))⟩]⟩
noncomputable def ixiL.mu  : dens ixiL.sh → Nat := fun (l, g, n, i) => (n - i).toNat
noncomputable def ixiL.g  (l : List Int) (g : List ByteArray × List ByteArray × List (Int × List Int)) (n : Int) (i : Int) : Prop := GoodLA Tryd.prog (cfOf [stra1]) [] 1000 101 0 ixiL ixiL.mu (l, g, n, i)
noncomputable def ixiL.T (l : List Int) (g : List ByteArray × List ByteArray × List (Int × List Int)) (n : Int) (i : Int) : Prop := (((True ∧ decide (i < n) = true) ∧ (0 : Int) ≤ i ∧ i < (↑l.length : Int)) ∧ ¬(gSmall g ∧ l.getD i.toNat (0 : Int) ≤ (9223372036854775807 : Int)) → False) ∧ ((((True ∧ decide (i < n) = true) ∧ (0 : Int) ≤ i ∧ i < (↑l.length : Int)) ∧ gSmall g ∧ l.getD i.toNat (0 : Int) ≤ (9223372036854775807 : Int)) ∧ strange g (l.getD i.toNat (0 : Int)) = true →
  (0 : Int) ≤ idxP (strange g) i (List.drop i.toNat l) ∧ i = idxP (strange g) i (List.drop i.toNat l)) ∧ ((((True ∧ decide (i < n) = true) ∧ (0 : Int) ≤ i ∧ i < (↑l.length : Int)) ∧ gSmall g ∧ l.getD i.toNat (0 : Int) ≤ (9223372036854775807 : Int)) ∧ strange g (l.getD i.toNat (0 : Int)) = false →
  (gSmall g ∧ okR l ∧ n = (↑l.length : Int) ∧ (0 : Int) ≤ IntKind.i64.wrap (i + (1 : Int)) ∧ IntKind.i64.wrap (i + (1 : Int)) ≤ n ∧ l.length ≤ (9223372036854775807 : Nat)) ∧ ixiL.mu (l, g, n, IntKind.i64.wrap (i + (1 : Int))) < ixiL.mu (l, g, n, i) ∧ (idxP (strange g) (IntKind.i64.wrap (i + (1 : Int))) (List.drop (IntKind.i64.wrap (i + (1 : Int))).toNat l) = (-1 : Int) → idxP (strange g) i (List.drop i.toNat l) = (-1 : Int) ∧ () = ()) ∧ ((0 : Int) ≤ idxP (strange g) (IntKind.i64.wrap (i + (1 : Int))) (List.drop (IntKind.i64.wrap (i + (1 : Int))).toNat l) → (0 : Int) ≤ idxP (strange g) i (List.drop i.toNat l) ∧ idxP (strange g) (IntKind.i64.wrap (i + (1 : Int))) (List.drop (IntKind.i64.wrap (i + (1 : Int))).toNat l) = idxP (strange g) i (List.drop i.toNat l)) ∧ True) ∧ ((True ∧ decide (i < n) = true) ∧ ¬((0 : Int) ≤ i ∧ i < (↑l.length : Int)) → False) ∧ (True ∧ decide (i < n) = false → idxP (strange g) i (List.drop i.toNat l) = (-1 : Int) ∧ () = ()) ∧ (True)
theorem ixiL.eq  (l : List Int) (g : List ByteArray × List ByteArray × List (Int × List Int)) (n : Int) (i : Int) : ixiL.g  l g n i = ixiL.T  l g n i := by kernel_rfl
theorem ixiL.ok  (l : List Int) (g : List ByteArray × List ByteArray × List (Int × List Int)) (n : Int) (i : Int) (hx : gSmall g ∧ okR l ∧ n = l.length ∧ 0 ≤ i ∧ i ≤ n ∧ l.length ≤ 9223372036854775807) : ixiL.T  l g n i := by
  obtain ⟨hg, hr, rfl, h0, h1, h2⟩ := hx
  rw [ixiL.T]
  by_cases hi : i < (l.length : Int)
  · have hm := hr _ (getD_mem (x := 0) (show i.toNat < l.length by omega))
    rw [wrapI64 (x := i + 1) (by omega) (by omega), drop_int 0 h0 hi, idxP]
    generalize l.getD i.toNat 0 = a at *
    ((repeat' (first | exact trivial | apply And.intro)) <;> (intro hw; (try (simp only [zP, reduceCtorEq] at hw)); (try first | (exfalso; omega) | exact ⟨trivial, rfl⟩ | exact (hw hx).elim | exact (hw.2 hx).elim)))
    all_goals first
      | (exfalso; omega)
      | exact (hw.2 ⟨hg, hm⟩).elim
      | (rw [if_pos hw.2]; exact ⟨h0, rfl⟩)
      | (rw [if_neg (by rw [hw.2]; exact Bool.false_ne_true)]
         exact ⟨⟨hg, hr, rfl, by omega, by omega, h2⟩, by simp only [ixiL.mu]; omega, fun h => ⟨h, rfl⟩, fun h => ⟨h, rfl⟩, trivial⟩)
      | trace_state
  · rw [drop_int_end hi]
    ((repeat' (first | exact trivial | apply And.intro)) <;> (intro hw; (try (simp only [zP, reduceCtorEq] at hw)); (try first | (exfalso; omega) | exact ⟨trivial, rfl⟩ | exact (hw hx).elim | exact (hw.2 hx).elim)))
    all_goals exact ⟨rfl, rfl⟩
theorem ixiL.lp   : LpAt Tryd.prog 101 0 ixiL := lp_evalH (l := []) (lf := 1000) (fun _ => cfOf_ok (fns_cons stra1.fn (fns_nil _))) (lps_nil _ _) (by kernel_rfl) _ (ixiL.mu ) (fun ⟨l, g, n, i⟩ hx => Hid.of (ixiL.eq  l g n i) (ixiL.ok  l g n i hx))
noncomputable def ixiF  : Face := ⟨101, [.v (.sl (.int .i64)), .clo 97 [GR]], fun (l, g) => some (gSmall g ∧ okR l),
  [⟨false, [.v (.int .i64)], fun (l, g) => idxP (strange g) 0 l, fun (l, g) => none⟩]⟩
noncomputable def ixiF.g  (l : List Int) (g : List ByteArray × List ByteArray × List (Int × List Int)) : Prop := GoodFA Tryd.prog (cfOf []) [(0, ixiL)] 1000 ixiF (l, g)
noncomputable def ixiF.q0 (l : List Int) (g : List ByteArray × List ByteArray × List (Int × List Int)) : Prop := (True ∧ l.length ≤ (9223372036854775807 : Nat)) ∧ gSmall g ∧ okR l ∧ (↑l.length : Int) = (↑l.length : Int) ∧ (0 : Int) ≤ (0 : Int) ∧ (0 : Int) ≤ (↑l.length : Int) ∧ l.length ≤ (9223372036854775807 : Nat)
noncomputable def ixiF.T (l : List Int) (g : List ByteArray × List ByteArray × List (Int × List Int)) : Prop := ((True ∧ l.length ≤ (9223372036854775807 : Nat)) ∧ ¬(gSmall g ∧ okR l ∧ (↑l.length : Int) = (↑l.length : Int) ∧ (0 : Int) ≤ (0 : Int) ∧ (0 : Int) ≤ (↑l.length : Int) ∧ l.length ≤ (9223372036854775807 : Nat)) → False) ∧ ((ixiF.q0 l g) ∧ idxP (strange g) (0 : Int) (List.drop (Int.toNat (0 : Int)) l) = (-1 : Int) → True ∧ (-1 : Int) = idxP (strange g) (0 : Int) l) ∧ ((ixiF.q0 l g) ∧ (0 : Int) ≤ idxP (strange g) (0 : Int) (List.drop (Int.toNat (0 : Int)) l) → True ∧ idxP (strange g) (0 : Int) (List.drop (Int.toNat (0 : Int)) l) = idxP (strange g) (0 : Int) l) ∧ (True)
theorem ixiF.eq  (l : List Int) (g : List ByteArray × List ByteArray × List (Int × List Int)) : ixiF.g  l g = ixiF.T  l g := by kernel_rfl
theorem ixiF.ok  (l : List Int) (g : List ByteArray × List ByteArray × List (Int × List Int)) (hx : gSmall g ∧ okR l) : ixiF.T  l g := by
  obtain ⟨hg, hr⟩ := hx
  delta ixiF.T ixiF.q0
  simp only [show Int.toNat 0 = 0 from rfl, List.drop_zero]
  ((repeat' (first | exact trivial | apply And.intro)) <;> (intro hw; (try (simp only [zP, reduceCtorEq] at hw)); (try first | (exfalso; omega) | exact ⟨trivial, rfl⟩ | exact (hw hx).elim | exact (hw.2 hx).elim)))
  all_goals first
    | (exfalso; omega)
    | exact (hw.2 ⟨hg, hr, by omega, by omega, by omega⟩).elim
    | exact ⟨trivial, hw.2.symm⟩
    | exact ⟨trivial, rfl⟩
    | exact ⟨trivial, trivial⟩
    | trace_state
theorem ixiF.fn   : FnOk Tryd.prog ixiF := fn_evalH (l := [(0, ixiL)]) (lf := 1000) (fun _ => cfOf_ok (fns_nil _)) _ (lps_cons (ixiL.lp) (lps_nil _ _)) (by kernel_rfl) (fun ⟨l, g⟩ hx => Hid.of (ixiF.eq  l g) (ixiF.ok  l g hx))
noncomputable def cfiF  : Face := ⟨82, [.v (.sl (.int .i64)), .clo 97 [GR]], fun (l, g) => some (gSmall g ∧ okR l),
  [⟨false, [.v .bool], fun (l, g) => l.any (strange g), fun (l, g) => none⟩]⟩
noncomputable def cfiF.g  (l : List Int) (g : List ByteArray × List ByteArray × List (Int × List Int)) : Prop := GoodFA Tryd.prog (cfOf [ixiF]) [] 1000 cfiF (l, g)
noncomputable def cfiF.T (l : List Int) (g : List ByteArray × List ByteArray × List (Int × List Int)) : Prop := (True ∧ ¬(gSmall g ∧ okR l) → False) ∧ (True ∧ gSmall g ∧ okR l → True ∧ decide (idxP (strange g) (0 : Int) l ≥ (0 : Int)) = l.any (strange g)) ∧ (True)
theorem cfiF.eq  (l : List Int) (g : List ByteArray × List ByteArray × List (Int × List Int)) : cfiF.g  l g = cfiF.T  l g := by kernel_rfl
theorem cfiF.ok  (l : List Int) (g : List ByteArray × List ByteArray × List (Int × List Int)) (hx : gSmall g ∧ okR l) : cfiF.T  l g := by
  rw [cfiF.T, ← idxP_any0]
  ((repeat' (first | exact trivial | apply And.intro)) <;> (intro hw; (try (simp only [zP, reduceCtorEq] at hw)); (try first | (exfalso; omega) | exact ⟨trivial, rfl⟩ | exact (hw hx).elim | exact (hw.2 hx).elim)))
  all_goals first
    | (exfalso; omega)
    | exact (hw hx).elim
    | exact ⟨trivial, trivial⟩
    | exact ⟨trivial, rfl⟩
    | trace_state
theorem cfiF.fn   : FnOk Tryd.prog cfiF := fn_evalH (l := []) (lf := 1000) (fun _ => cfOf_ok (fns_cons ixiF.fn (fns_nil _))) _ (lps_nil _ _) (by kernel_rfl) (fun ⟨l, g⟩ hx => Hid.of (cfiF.eq  l g) (cfiF.ok  l g hx))
noncomputable def alikeF  : Face := ⟨99, [.v (.sl PR), .v PR], fun (l, p) => none,
  [⟨false, [.v .bool], fun (l, p) => l.any (alkS p), fun (l, p) => none⟩]⟩
noncomputable def alikeF.g  (l : List (Int × List Int)) (p : Int × List Int) : Prop := GoodFA Tryd.prog (cfOf [cfaF]) [] 1000 alikeF (l, p)
noncomputable def alikeF.T (l : List (Int × List Int)) (p : Int × List Int) : Prop := (True → True ∧ l.any (alkS p) = l.any (alkS p)) ∧ (True)
theorem alikeF.eq  (l : List (Int × List Int)) (p : Int × List Int) : alikeF.g  l p = alikeF.T  l p := by kernel_rfl
theorem alikeF.ok  (l : List (Int × List Int)) (p : Int × List Int) : alikeF.T  l p := by
  rw [alikeF.T]
  ((repeat' (first | exact trivial | apply And.intro)) <;> (intro hw; (try (simp only [zP, reduceCtorEq] at hw)); (try first | (exfalso; omega) | exact ⟨trivial, rfl⟩ | exact (hw hx).elim | exact (hw.2 hx).elim)))
  all_goals first
    | exact ⟨trivial, trivial⟩
    | exact ⟨trivial, rfl⟩
    | trace_state
theorem alikeF.fn   : FnOk Tryd.prog alikeF := fn_evalH (l := []) (lf := 1000) (fun _ => cfOf_ok (fns_cons cfaF.fn (fns_nil _))) _ (lps_nil _ _) (by kernel_rfl) (fun ⟨l, p⟩ hx => Hid.of (alikeF.eq  l p) (alikeF.ok  l p))
def prodL (g : Gr) (ps : List (Int × List Int)) : Int → List (Int × List Int) → Bool
  | _, [] => true
  | i, p :: r => nonS g p.1 && (decide (p.2.length ≤ 6) && (!(p.2.any (strange g)) && (!((ps.take i.toNat).any (alkS p)) && prodL g ps (i + 1) r)))
def okPs (l : List (Int × List Int)) : Prop := ∀ p ∈ l, p.1 ≤ 9223372036854775807 ∧ okR p.2
noncomputable def pdL  : LFace := ⟨[1, 6, 7, 8], [.p GR, .v (.sl PR), .v (.int .i64), .v (.int .i64)], fun (g, l, n, i) => some (gSmall g ∧ l = g.2.2 ∧ n = l.length ∧ 0 ≤ i ∧ i ≤ n ∧ l.length ≤ 9223372036854775807 ∧ okPs l),
  [⟨.normal, [], [], fun (g, l, n, i) => (), fun (g, l, n, i) => some (prodL g g.2.2 i (l.drop i.toNat) = true)⟩,
   ⟨.ret, [2], [.v .bool], fun (g, l, n, i) => false, fun (g, l, n, i) => some (prodL g g.2.2 i (l.drop i.toNat) = false)⟩]⟩
noncomputable def pdL.mu  : dens pdL.sh → Nat := fun (g, l, n, i) => (n - i).toNat
noncomputable def pdL.g  (g : List ByteArray × List ByteArray × List (Int × List Int)) (l : List (Int × List Int)) (n : Int) (i : Int) : Prop := GoodLA Tryd.prog (cfOf [gnon, cfiF, alikeF]) [] 1000 79 0 pdL pdL.mu (g, l, n, i)
noncomputable def pdL.q1 (g : List ByteArray × List ByteArray × List (Int × List Int)) (l : List (Int × List Int)) (n : Int) (i : Int) : Prop := ((True ∧ decide (i < n) = true) ∧ (0 : Int) ≤ i ∧ i < (↑l.length : Int)) ∧ gSmall g ∧ (l.getD i.toNat ((0 : Int), [])).1 ≤ (9223372036854775807 : Int)
noncomputable def pdL.q0 (g : List ByteArray × List ByteArray × List (Int × List Int)) (l : List (Int × List Int)) (n : Int) (i : Int) : Prop := (((pdL.q1 g l n i) ∧ (!nonS g (l.getD i.toNat ((0 : Int), [])).1) = false) ∧ List.length (l.getD i.toNat ((0 : Int), [])).2 ≤ (9223372036854775807 : Nat)) ∧ decide ((↑(List.length (l.getD i.toNat ((0 : Int), [])).2) : Int) > (6 : Int)) = false
noncomputable def pdL.q2 (g : List ByteArray × List ByteArray × List (Int × List Int)) (l : List (Int × List Int)) (n : Int) (i : Int) : Prop := ((pdL.q0 g l n i) ∧ gSmall g ∧ okR (l.getD i.toNat ((0 : Int), [])).2) ∧ List.any (l.getD i.toNat ((0 : Int), [])).2 (strange g) = false
noncomputable def pdL.T (g : List ByteArray × List ByteArray × List (Int × List Int)) (l : List (Int × List Int)) (n : Int) (i : Int) : Prop := (((True ∧ decide (i < n) = true) ∧ (0 : Int) ≤ i ∧ i < (↑l.length : Int)) ∧ ¬(gSmall g ∧ (l.getD i.toNat ((0 : Int), [])).1 ≤ (9223372036854775807 : Int)) → False) ∧ ((pdL.q1 g l n i) ∧ (!nonS g (l.getD i.toNat ((0 : Int), [])).1) = true → prodL g g.2.2 i (List.drop i.toNat l) = false ∧ false = false) ∧ ((((pdL.q1 g l n i) ∧ (!nonS g (l.getD i.toNat ((0 : Int), [])).1) = false) ∧ List.length (l.getD i.toNat ((0 : Int), [])).2 ≤ (9223372036854775807 : Nat)) ∧ decide ((↑(List.length (l.getD i.toNat ((0 : Int), [])).2) : Int) > (6 : Int)) = true → prodL g g.2.2 i (List.drop i.toNat l) = false ∧ false = false) ∧ ((pdL.q0 g l n i) ∧ ¬(gSmall g ∧ okR (l.getD i.toNat ((0 : Int), [])).2) → False) ∧ (((pdL.q0 g l n i) ∧ gSmall g ∧ okR (l.getD i.toNat ((0 : Int), [])).2) ∧ List.any (l.getD i.toNat ((0 : Int), [])).2 (strange g) = true → prodL g g.2.2 i (List.drop i.toNat l) = false ∧ false = false) ∧ ((pdL.q2 g l n i) ∧ ¬((0 : Int) ≤ (0 : Int) ∧ (0 : Int) ≤ i ∧ i ≤ (↑(List.length g.2.2) : Int)) → False) ∧ (((pdL.q2 g l n i) ∧ (0 : Int) ≤ (0 : Int) ∧ (0 : Int) ≤ i ∧ i ≤ (↑(List.length g.2.2) : Int)) ∧ (List.drop (Int.toNat (0 : Int)) (List.take i.toNat g.2.2)).any (alkS (l.getD i.toNat ((0 : Int), []))) = true → prodL g g.2.2 i (List.drop i.toNat l) = false ∧ false = false) ∧ (((pdL.q2 g l n i) ∧ (0 : Int) ≤ (0 : Int) ∧ (0 : Int) ≤ i ∧ i ≤ (↑(List.length g.2.2) : Int)) ∧ (List.drop (Int.toNat (0 : Int)) (List.take i.toNat g.2.2)).any (alkS (l.getD i.toNat ((0 : Int), []))) = false → (gSmall g ∧ l = g.2.2 ∧ n = (↑l.length : Int) ∧ (0 : Int) ≤ IntKind.i64.wrap (i + (1 : Int)) ∧ IntKind.i64.wrap (i + (1 : Int)) ≤ n ∧ l.length ≤ (9223372036854775807 : Nat) ∧ okPs l) ∧ pdL.mu (g, l, n, IntKind.i64.wrap (i + (1 : Int))) < pdL.mu (g, l, n, i) ∧ (prodL g g.2.2 (IntKind.i64.wrap (i + (1 : Int))) (List.drop (IntKind.i64.wrap (i + (1 : Int))).toNat l) = true → prodL g g.2.2 i (List.drop i.toNat l) = true ∧ () = ()) ∧ (prodL g g.2.2 (IntKind.i64.wrap (i + (1 : Int))) (List.drop (IntKind.i64.wrap (i + (1 : Int))).toNat l) = false → prodL g g.2.2 i (List.drop i.toNat l) = false ∧ false = false) ∧ True) ∧ ((True ∧ decide (i < n) = true) ∧ ¬((0 : Int) ≤ i ∧ i < (↑l.length : Int)) → False) ∧ (True ∧ decide (i < n) = false → prodL g g.2.2 i (List.drop i.toNat l) = true ∧ () = ()) ∧ (True)
theorem pdL.eq  (g : List ByteArray × List ByteArray × List (Int × List Int)) (l : List (Int × List Int)) (n : Int) (i : Int) : pdL.g  g l n i = pdL.T  g l n i := by kernel_rfl
theorem pdL.ok  (g : List ByteArray × List ByteArray × List (Int × List Int)) (l : List (Int × List Int)) (n : Int) (i : Int) (hx : gSmall g ∧ l = g.2.2 ∧ n = l.length ∧ 0 ≤ i ∧ i ≤ n ∧ l.length ≤ 9223372036854775807 ∧ okPs l) : pdL.T  g l n i := by
  obtain ⟨hg, rfl, rfl, h0, h1, h2, h3⟩ := hx
  delta pdL.T pdL.q1 pdL.q0 pdL.q2
  by_cases hi : i < (g.2.2.length : Int)
  · obtain ⟨m1, m2⟩ := h3 _ (getD_mem (x := (0, [])) (show i.toNat < g.2.2.length by omega))
    rw [drop_int (0, []) h0 hi, prodL, wrapI64 (x := i + 1) (by omega) (by omega)]
    simp only [show Int.toNat 0 = 0 from rfl, List.drop_zero]
    generalize g.2.2.getD i.toNat (0, []) = p at *
    generalize g.2.2.drop (i + 1).toNat = r at *
    generalize List.any (List.take i.toNat g.2.2) (alkS p) = b at *
    generalize p.2.any (strange g) = c at *
    generalize nonS g p.1 = d at *
    have hl : decide (p.2.length ≤ 6) = !(decide ((p.2.length : Int) > 6)) := by
      by_cases h : p.2.length ≤ 6
      · rw [decide_eq_true h, decide_eq_false (show ¬ (p.2.length : Int) > 6 by omega)]; rfl
      · rw [decide_eq_false h, decide_eq_true (show (p.2.length : Int) > 6 by omega)]; rfl
    rw [hl]
    generalize prodL g g.2.2 (i + 1) r = q at *
    ((repeat' (first | exact trivial | apply And.intro)) <;> (intro hw; (try (simp only [zP, reduceCtorEq] at hw)); (try first | (exfalso; omega) | exact ⟨trivial, rfl⟩ | exact (hw hx).elim | exact (hw.2 hx).elim)))
    all_goals first
      | (exfalso; omega)
      | exact (hw.2 ⟨hg, m1⟩).elim
      | exact (hw.2 ⟨hg, m2⟩).elim
      | (refine ⟨?_, trivial⟩; clear hl h3; simp_all; done)
      | (refine ⟨?_, rfl⟩; clear hl h3; simp_all; done)
      | (refine ⟨⟨hg, trivial, trivial, by omega, by omega, h2, h3⟩, by simp only [pdL.mu]; omega, fun h => ⟨?_, trivial⟩, fun h => ⟨?_, trivial⟩, trivial⟩ <;> (clear h3 hl; simp_all; done))
      | trace_state
  · rw [drop_int_end hi, prodL]
    ((repeat' (first | exact trivial | apply And.intro)) <;> (intro hw; (try (simp only [zP, reduceCtorEq] at hw)); (try first | (exfalso; omega) | exact ⟨trivial, rfl⟩ | exact (hw hx).elim | exact (hw.2 hx).elim)))
    all_goals first
      | (exfalso; omega)
      | exact ⟨rfl, rfl⟩
      | trace_state
theorem pdL.lp   : LpAt Tryd.prog 79 0 pdL := lp_evalH (l := []) (lf := 1000) (fun _ => cfOf_ok (fns_cons gnon.fn (fns_cons cfiF.fn (fns_cons alikeF.fn (fns_nil _))))) (lps_nil _ _) (by kernel_rfl) _ (pdL.mu ) (fun ⟨g, l, n, i⟩ hx => Hid.of (pdL.eq  g l n i) (pdL.ok  g l n i hx))
def prodsS (g : Gr) : Bool := prodL g g.2.2 0 g.2.2
noncomputable def prodsF  : Face := ⟨79, [.v GR], fun g => some (gSmall g ∧ okPs g.2.2),
  [⟨false, [.v .bool], fun g => prodsS g, fun g => none⟩]⟩
noncomputable def prodsF.g  (g : List ByteArray × List ByteArray × List (Int × List Int)) : Prop := GoodFA Tryd.prog (cfOf []) [(0, pdL)] 1000 prodsF g
noncomputable def prodsF.q0 (g : List ByteArray × List ByteArray × List (Int × List Int)) : Prop := (True ∧ List.length g.2.2 ≤ (9223372036854775807 : Nat)) ∧ gSmall g ∧ g.2.2 = g.2.2 ∧ (↑(List.length g.2.2) : Int) = (↑(List.length g.2.2) : Int) ∧ (0 : Int) ≤ (0 : Int) ∧ (0 : Int) ≤ (↑(List.length g.2.2) : Int) ∧ List.length g.2.2 ≤ (9223372036854775807 : Nat) ∧ okPs g.2.2
noncomputable def prodsF.T (g : List ByteArray × List ByteArray × List (Int × List Int)) : Prop := ((True ∧ List.length g.2.2 ≤ (9223372036854775807 : Nat)) ∧ ¬(gSmall g ∧ g.2.2 = g.2.2 ∧ (↑(List.length g.2.2) : Int) = (↑(List.length g.2.2) : Int) ∧ (0 : Int) ≤ (0 : Int) ∧ (0 : Int) ≤ (↑(List.length g.2.2) : Int) ∧ List.length g.2.2 ≤ (9223372036854775807 : Nat) ∧ okPs g.2.2) → False) ∧ ((prodsF.q0 g) ∧ prodL g g.2.2 (0 : Int) (List.drop (Int.toNat (0 : Int)) g.2.2) = true → True ∧ true = prodsS g) ∧ ((prodsF.q0 g) ∧ prodL g g.2.2 (0 : Int) (List.drop (Int.toNat (0 : Int)) g.2.2) = false → True ∧ false = prodsS g) ∧ (True)
theorem prodsF.eq  (g : List ByteArray × List ByteArray × List (Int × List Int)) : prodsF.g  g = prodsF.T  g := by kernel_rfl
theorem prodsF.ok  (g : List ByteArray × List ByteArray × List (Int × List Int)) (hx : gSmall g ∧ okPs g.2.2) : prodsF.T  g := by
  obtain ⟨hg, h3⟩ := hx
  delta prodsF.T prodsF.q0
  rw [prodsS]
  simp only [show Int.toNat 0 = 0 from rfl, List.drop_zero]
  generalize prodL g g.2.2 0 g.2.2 = b at *
  ((repeat' (first | exact trivial | apply And.intro)) <;> (intro hw; (try (simp only [zP, reduceCtorEq] at hw)); (try first | (exfalso; omega) | exact ⟨trivial, rfl⟩ | exact (hw hx).elim | exact (hw.2 hx).elim)))
  all_goals first
    | (exfalso; omega)
    | exact (hw.2 ⟨hg, by omega, by omega, by omega, h3⟩).elim
    | exact ⟨trivial, hw.2.symm⟩
    | trace_state
theorem prodsF.fn   : FnOk Tryd.prog prodsF := fn_evalH (l := [(0, pdL)]) (lf := 1000) (fun _ => cfOf_ok (fns_nil _)) _ (lps_cons (pdL.lp) (lps_nil _ _)) (by kernel_rfl) (fun g hx => Hid.of (prodsF.eq  g) (prodsF.ok  g hx))
def leftsL (ps : List (Int × List Int)) : Nat → Int → Bool
  | 0, _ => true
  | k + 1, i => ps.any (leftIs i) && leftsL ps k (i + 1)
def cntB (n most : Int) : Bool := decide (1 ≤ n) && decide (n ≤ most)
noncomputable def countF  : Face := ⟨77, [.v (.int .i64), .v (.int .i64)], fun (n, m) => none,
  [⟨false, [.v .bool], fun (n, m) => cntB n m, fun (n, m) => none⟩]⟩
noncomputable def countF.g  (n : Int) (m : Int) : Prop := GoodFA Tryd.prog (cfOf []) [] 1000 countF (n, m)
noncomputable def countF.T (n : Int) (m : Int) : Prop := (True ∧ decide (n ≥ (1 : Int)) = true → True ∧ decide (n ≤ m) = cntB n m) ∧ (True ∧ decide (n ≥ (1 : Int)) = false → True ∧ false = cntB n m) ∧ (True)
theorem countF.eq  (n : Int) (m : Int) : countF.g  n m = countF.T  n m := by kernel_rfl
theorem countF.ok  (n : Int) (m : Int) : countF.T  n m := by
  rw [countF.T, cntB]
  ((repeat' (first | exact trivial | apply And.intro)) <;> (intro hw; (try (simp only [zP, reduceCtorEq] at hw)); (try first | (exfalso; omega) | exact ⟨trivial, rfl⟩ | exact (hw hx).elim | exact (hw.2 hx).elim)))
  all_goals ((first | (refine ⟨trivial, ?_⟩) | skip) <;> (rw [Bool.eq_iff_iff]; (try simp only [Bool.or_eq_true, Bool.and_eq_true, Bool.not_eq_true', decide_eq_true_eq, decide_eq_false_iff_not, beq_iff_eq, bne_iff_ne, true_iff, iff_true, false_iff, iff_false, Bool.false_eq_true, ne_eq]); omega))
theorem countF.fn   : FnOk Tryd.prog countF := fn_evalH (l := []) (lf := 1000) (fun _ => cfOf_ok (fns_nil _)) _ (lps_nil _ _) (by kernel_rfl) (fun ⟨n, m⟩ hx => Hid.of (countF.eq  n m) (countF.ok  n m))
noncomputable def ckL  : LFace := ⟨[1, 35, 36], [.p GR, .v (.int .i64), .v (.int .i64)], fun (g, n, i) => some (n = g.2.1.length ∧ 0 ≤ i ∧ i ≤ n ∧ n ≤ 99),
  [⟨.normal, [], [], fun (g, n, i) => (), fun (g, n, i) => some (leftsL g.2.2 (n - i).toNat i = true)⟩,
   ⟨.ret, [2], [.v (.int .i64)], fun (g, n, i) => 1, fun (g, n, i) => some (leftsL g.2.2 (n - i).toNat i = false)⟩]⟩
noncomputable def ckL.mu  : dens ckL.sh → Nat := fun (g, n, i) => (n - i).toNat
noncomputable def ckL.g  (g : List ByteArray × List ByteArray × List (Int × List Int)) (n : Int) (i : Int) : Prop := GoodLA Tryd.prog (cfOf [cfcF]) [] 1000 63 0 ckL ckL.mu (g, n, i)
noncomputable def ckL.T (g : List ByteArray × List ByteArray × List (Int × List Int)) (n : Int) (i : Int) : Prop := ((True ∧ decide (i < n) = true) ∧ ¬((0 : Int) ≤ i ∧ i ≤ (1000 : Int)) → False) ∧ (((True ∧ decide (i < n) = true) ∧ (0 : Int) ≤ i ∧ i ≤ (1000 : Int)) ∧ (!List.any g.2.2 (leftIs i)) = true → leftsL g.2.2 (n - i).toNat i = false ∧ (1 : Int) = (1 : Int)) ∧ (((True ∧ decide (i < n) = true) ∧ (0 : Int) ≤ i ∧ i ≤ (1000 : Int)) ∧ (!List.any g.2.2 (leftIs i)) = false →
  (n = (↑(List.length g.2.1) : Int) ∧ (0 : Int) ≤ IntKind.i64.wrap (i + (1 : Int)) ∧ IntKind.i64.wrap (i + (1 : Int)) ≤ n ∧ n ≤ (99 : Int)) ∧ ckL.mu (g, n, IntKind.i64.wrap (i + (1 : Int))) < ckL.mu (g, n, i) ∧ (leftsL g.2.2 (n - IntKind.i64.wrap (i + (1 : Int))).toNat (IntKind.i64.wrap (i + (1 : Int))) = true → leftsL g.2.2 (n - i).toNat i = true ∧ () = ()) ∧ (leftsL g.2.2 (n - IntKind.i64.wrap (i + (1 : Int))).toNat (IntKind.i64.wrap (i + (1 : Int))) = false → leftsL g.2.2 (n - i).toNat i = false ∧ (1 : Int) = (1 : Int)) ∧ True) ∧ (True ∧ decide (i < n) = false → leftsL g.2.2 (n - i).toNat i = true ∧ () = ()) ∧ (True)
theorem ckL.eq  (g : List ByteArray × List ByteArray × List (Int × List Int)) (n : Int) (i : Int) : ckL.g  g n i = ckL.T  g n i := by kernel_rfl
theorem ckL.ok  (g : List ByteArray × List ByteArray × List (Int × List Int)) (n : Int) (i : Int) (hx : n = g.2.1.length ∧ 0 ≤ i ∧ i ≤ n ∧ n ≤ 99) : ckL.T  g n i := by
  obtain ⟨rfl, h0, h1, h2⟩ := hx
  rw [ckL.T]
  by_cases hi : i < (g.2.1.length : Int)
  · rw [show ((g.2.1.length : Int) - i).toNat = ((g.2.1.length : Int) - (i + 1)).toNat + 1 by omega, leftsL, wrapI64 (x := i + 1) (by omega) (by omega)]
    ((repeat' (first | exact trivial | apply And.intro)) <;> (intro hw; (try (simp only [zP, reduceCtorEq] at hw)); (try first | (exfalso; omega) | exact ⟨trivial, rfl⟩ | exact (hw hx).elim | exact (hw.2 hx).elim)))
    all_goals first
      | (exfalso; omega)
      | (rw [hw.2]; exact ⟨rfl, rfl⟩)
      | (rw [hw.2]; exact ⟨⟨rfl, by omega, by omega, h2⟩, by simp only [ckL.mu]; omega, fun h => ⟨h, rfl⟩, fun h => ⟨h, rfl⟩, trivial⟩)
      | trace_state
  · rw [show ((g.2.1.length : Int) - i).toNat = 0 by omega, leftsL]
    ((repeat' (first | exact trivial | apply And.intro)) <;> (intro hw; (try (simp only [zP, reduceCtorEq] at hw)); (try first | (exfalso; omega) | exact ⟨trivial, rfl⟩ | exact (hw hx).elim | exact (hw.2 hx).elim)))
    all_goals first
      | (exfalso; omega)
      | exact ⟨rfl, rfl⟩
      | trace_state
theorem ckL.lp   : LpAt Tryd.prog 63 0 ckL := lp_evalH (l := []) (lf := 1000) (fun _ => cfOf_ok (fns_cons cfcF.fn (fns_nil _))) (lps_nil _ _) (by kernel_rfl) _ (ckL.mu ) (fun ⟨g, n, i⟩ hx => Hid.of (ckL.eq  g n i) (ckL.ok  g n i hx))
def okG (g : Gr) : Prop := gSmall g ∧ okN g.1 ∧ okN g.2.1 ∧ okPs g.2.2
def checkB (g : Gr) : Bool := cntB g.1.length 8 && (cntB g.2.1.length 8 && (cntB g.2.2.length 24 && (namesS g && (prodsS g && leftsL g.2.2 g.2.1.length 0))))
noncomputable def gcheckF  : Face := ⟨63, [.v GR], fun g => some (okG g),
  [⟨false, [.v (.int .i64)], fun g => if checkB g = true then 0 else 1, fun g => none⟩]⟩
noncomputable def gcheckF.g  (g : List ByteArray × List ByteArray × List (Int × List Int)) : Prop := GoodFA Tryd.prog (cfOf [countF, namesF, prodsF]) [(0, ckL)] 1000 gcheckF g
noncomputable def gcheckF.q2 (g : List ByteArray × List ByteArray × List (Int × List Int)) : Prop := ((True ∧ List.length g.1 ≤ (9223372036854775807 : Nat)) ∧ (!cntB (↑(List.length g.1) : Int) (8 : Int)) = false) ∧ List.length g.2.1 ≤ (9223372036854775807 : Nat)
noncomputable def gcheckF.q0 (g : List ByteArray × List ByteArray × List (Int × List Int)) : Prop := (((gcheckF.q2 g) ∧ (!cntB (↑(List.length g.2.1) : Int) (8 : Int)) = false) ∧ List.length g.2.2 ≤ (9223372036854775807 : Nat)) ∧ (!cntB (↑(List.length g.2.2) : Int) (24 : Int)) = false
noncomputable def gcheckF.q3 (g : List ByteArray × List ByteArray × List (Int × List Int)) : Prop := ((gcheckF.q0 g) ∧ gSmall g ∧ okN g.1 ∧ okN g.2.1) ∧ (!namesS g) = false
noncomputable def gcheckF.q1 (g : List ByteArray × List ByteArray × List (Int × List Int)) : Prop := ((((gcheckF.q3 g) ∧ gSmall g ∧ okPs g.2.2) ∧ (!prodsS g) = false) ∧ List.length g.2.1 ≤ (9223372036854775807 : Nat)) ∧ (↑(List.length g.2.1) : Int) = (↑(List.length g.2.1) : Int) ∧ (0 : Int) ≤ (0 : Int) ∧ (0 : Int) ≤ (↑(List.length g.2.1) : Int) ∧ (↑(List.length g.2.1) : Int) ≤ (99 : Int)
noncomputable def gcheckF.T (g : List ByteArray × List ByteArray × List (Int × List Int)) : Prop := ((True ∧ List.length g.1 ≤ (9223372036854775807 : Nat)) ∧ (!cntB (↑(List.length g.1) : Int) (8 : Int)) = true → True ∧ (1 : Int) = if checkB g = true then (0 : Int) else (1 : Int)) ∧ ((gcheckF.q2 g) ∧ (!cntB (↑(List.length g.2.1) : Int) (8 : Int)) = true → True ∧ (1 : Int) = if checkB g = true then (0 : Int) else (1 : Int)) ∧ ((((gcheckF.q2 g) ∧ (!cntB (↑(List.length g.2.1) : Int) (8 : Int)) = false) ∧ List.length g.2.2 ≤ (9223372036854775807 : Nat)) ∧ (!cntB (↑(List.length g.2.2) : Int) (24 : Int)) = true → True ∧ (1 : Int) = if checkB g = true then (0 : Int) else (1 : Int)) ∧ ((gcheckF.q0 g) ∧ ¬(gSmall g ∧ okN g.1 ∧ okN g.2.1) → False) ∧ (((gcheckF.q0 g) ∧ gSmall g ∧ okN g.1 ∧ okN g.2.1) ∧ (!namesS g) = true → True ∧ (1 : Int) = if checkB g = true then (0 : Int) else (1 : Int)) ∧ ((gcheckF.q3 g) ∧ ¬(gSmall g ∧ okPs g.2.2) → False) ∧ (((gcheckF.q3 g) ∧ gSmall g ∧ okPs g.2.2) ∧ (!prodsS g) = true → True ∧ (1 : Int) = if checkB g = true then (0 : Int) else (1 : Int)) ∧ (((((gcheckF.q3 g) ∧ gSmall g ∧ okPs g.2.2) ∧ (!prodsS g) = false) ∧ List.length g.2.1 ≤ (9223372036854775807 : Nat)) ∧ ¬((↑(List.length g.2.1) : Int) = (↑(List.length g.2.1) : Int) ∧ (0 : Int) ≤ (0 : Int) ∧ (0 : Int) ≤ (↑(List.length g.2.1) : Int) ∧ (↑(List.length g.2.1) : Int) ≤ (99 : Int)) → False) ∧ ((gcheckF.q1 g) ∧ leftsL g.2.2 ((↑(List.length g.2.1) : Int) - (0 : Int)).toNat (0 : Int) = true → True ∧ (0 : Int) = if checkB g = true then (0 : Int) else (1 : Int)) ∧ ((gcheckF.q1 g) ∧ leftsL g.2.2 ((↑(List.length g.2.1) : Int) - (0 : Int)).toNat (0 : Int) = false → True ∧ (1 : Int) = if checkB g = true then (0 : Int) else (1 : Int)) ∧ (True)
theorem gcheckF.eq  (g : List ByteArray × List ByteArray × List (Int × List Int)) : gcheckF.g  g = gcheckF.T  g := by kernel_rfl
theorem gcheckF.ok  (g : List ByteArray × List ByteArray × List (Int × List Int)) (hx : okG g) : gcheckF.T  g := by
  obtain ⟨hg, h1, h2, h3⟩ := hx
  have h4 := hg.2
  delta gcheckF.T gcheckF.q2 gcheckF.q0 gcheckF.q3 gcheckF.q1
  rw [checkB]
  simp only [show Int.toNat 0 = 0 from rfl, Int.sub_zero, Int.toNat_natCast]
  generalize cntB (g.1.length : Int) 8 = c1 at *
  generalize cntB (g.2.1.length : Int) 8 = c2 at *
  generalize cntB (g.2.2.length : Int) 24 = c3 at *
  generalize namesS g = c4 at *
  generalize prodsS g = c5 at *
  generalize leftsL g.2.2 g.2.1.length 0 = c6 at *
  ((repeat' (first | exact trivial | apply And.intro)) <;> (intro hw; (try (simp only [zP, reduceCtorEq] at hw)); (try first | (exfalso; omega) | exact ⟨trivial, rfl⟩ | exact (hw hx).elim | exact (hw.2 hx).elim)))
  all_goals first
    | (exfalso; omega)
    | exact (hw.2 ⟨hg, h1, h2⟩).elim
    | exact (hw.2 ⟨hg, h3⟩).elim
    | (refine ⟨trivial, ?_⟩; simp_all; done)
    | trace_state
theorem gcheckF.fn   : FnOk Tryd.prog gcheckF := fn_evalH (l := [(0, ckL)]) (lf := 1000) (fun _ => cfOf_ok (fns_cons countF.fn (fns_cons namesF.fn (fns_cons prodsF.fn (fns_nil _))))) _ (lps_cons (ckL.lp) (lps_nil _ _)) (by kernel_rfl) (fun g hx => Hid.of (gcheckF.eq  g) (gcheckF.ok  g hx))
end Go.Proofs.YtajnboigikdefaaDoor.D

namespace Go.Proofs.YtajnboigikdefaaDoor.D
open Go Go.EV Go.Proofs
set_option linter.unusedVariables false
set_option linter.unusedSimpArgs false
set_option maxRecDepth 100000
def badS (tm : Bool) (s n : Int) : Bool := if n < 100 then !tm else !(hI s (n - 100))
def allT (tm : Bool) (s : Int) (l : List Int) : Bool := !(l.any (badS tm s))
noncomputable def bad1  : Face := ⟨83, [.v (.int .i64), .p .bool, .p (.int .u64)], fun (n, tm, s) => some (okU s ∧ n ≤ 9223372036854775807),
  [⟨false, [.v .bool], fun (n, tm, s) => badS tm s n, fun (n, tm, s) => none⟩]⟩
noncomputable def bad1.g  (n : Int) (tm : Bool) (s : Int) : Prop := GoodFA Tryd.prog (cfOf [setHas]) [] 1000 bad1 (n, tm, s)
noncomputable def bad1.T (n : Int) (tm : Bool) (s : Int) : Prop := (True ∧ decide (n < (100 : Int)) = true → True ∧ (!tm) = badS tm s n) ∧ ((True ∧ decide (n < (100 : Int)) = false) ∧ ¬okU s → False) ∧ ((True ∧ decide (n < (100 : Int)) = false) ∧ okU s → True ∧ (!hI s (IntKind.i64.wrap (n - (100 : Int)))) = badS tm s n) ∧ (True)
theorem bad1.eq  (n : Int) (tm : Bool) (s : Int) : bad1.g  n tm s = bad1.T  n tm s := by kernel_rfl
theorem bad1.ok  (n : Int) (tm : Bool) (s : Int) (hx : okU s ∧ n ≤ 9223372036854775807) : bad1.T  n tm s := by
  obtain ⟨h1, h2⟩ := hx
  rw [bad1.T, badS]
  by_cases hn : n < 100
  · ((repeat' (first | exact trivial | apply And.intro)) <;> (intro hw; (try (simp only [zP, reduceCtorEq] at hw)); (try first | (exfalso; omega) | exact ⟨trivial, rfl⟩ | exact (hw hx).elim | exact (hw.2 hx).elim)))
    all_goals first
      | (exfalso; omega)
      | (refine ⟨trivial, ?_⟩; rw [if_pos hn])
      | trace_state
  · rw [wrapI64 (x := n - 100) (by omega) (by omega)]
    ((repeat' (first | exact trivial | apply And.intro)) <;> (intro hw; (try (simp only [zP, reduceCtorEq] at hw)); (try first | (exfalso; omega) | exact ⟨trivial, rfl⟩ | exact (hw hx).elim | exact (hw.2 hx).elim)))
    all_goals first
      | (exfalso; omega)
      | exact (hw.2 h1).elim
      | (refine ⟨trivial, ?_⟩; rw [if_neg hn])
      | trace_state
theorem bad1.fn   : FnOk Tryd.prog bad1 := fn_evalH (l := []) (lf := 1000) (fun _ => cfOf_ok (fns_cons setHas.fn (fns_nil _))) _ (lps_nil _ _) (by kernel_rfl) (fun ⟨n, tm, s⟩ hx => Hid.of (bad1.eq  n tm s) (bad1.ok  n tm s hx))
noncomputable def ixbL  : LFace := ⟨[0, 1, 7, 8], [.v (.sl (.int .i64)), .clo 83 [.bool, .int .u64], .v (.int .i64), .v (.int .i64)], fun (l, c, n, i) => some (okU c.2 ∧ okR l ∧ n = l.length ∧ 0 ≤ i ∧ i ≤ n ∧ l.length ≤ 9223372036854775807),
  [⟨.normal, [], [], fun (l, c, n, i) => (), fun (l, c, n, i) => some (idxP (badS c.1 c.2) i (l.drop i.toNat) = -1)⟩,
   ⟨.ret, [4], [.v (.int .i64)], fun (l, c, n, i) => idxP (badS c.1 c.2) i (l.drop i.toNat), fun (l, c, n, i) => some (0 ≤ idxP (badS c.1 c.2) i (l.drop i.toNat))⟩]⟩
noncomputable def ixbL.mu  : dens ixbL.sh → Nat := fun (l, c, n, i) => (n - i).toNat
noncomputable def ixbL.g  (l : List Int) (c : Bool × Int) (n : Int) (i : Int) : Prop := GoodLA Tryd.prog (cfOf [bad1]) [] 1000 101 0 ixbL ixbL.mu (l, c, n, i)
noncomputable def ixbL.q0 (l : List Int) (c : Bool × Int) (n : Int) (i : Int) : Prop := ((True ∧ decide (i < n) = true) ∧ (0 : Int) ≤ i ∧ i < (↑l.length : Int)) ∧ okU c.2 ∧ l.getD i.toNat (0 : Int) ≤ (9223372036854775807 : Int)
noncomputable def ixbL.T (l : List Int) (c : Bool × Int) (n : Int) (i : Int) : Prop := (((True ∧ decide (i < n) = true) ∧ (0 : Int) ≤ i ∧ i < (↑l.length : Int)) ∧ ¬(okU c.2 ∧ l.getD i.toNat (0 : Int) ≤ (9223372036854775807 : Int)) → False) ∧ ((ixbL.q0 l c n i) ∧ badS c.1 c.2 (l.getD i.toNat (0 : Int)) = true → (0 : Int) ≤ idxP (badS c.1 c.2) i (List.drop i.toNat l) ∧ i = idxP (badS c.1 c.2) i (List.drop i.toNat l)) ∧ ((ixbL.q0 l c n i) ∧ badS c.1 c.2 (l.getD i.toNat (0 : Int)) = false → (okU c.2 ∧ okR l ∧ n = (↑l.length : Int) ∧ (0 : Int) ≤ IntKind.i64.wrap (i + (1 : Int)) ∧ IntKind.i64.wrap (i + (1 : Int)) ≤ n ∧ l.length ≤ (9223372036854775807 : Nat)) ∧ ixbL.mu (l, c, n, IntKind.i64.wrap (i + (1 : Int))) < ixbL.mu (l, c, n, i) ∧ (idxP (badS c.1 c.2) (IntKind.i64.wrap (i + (1 : Int))) (List.drop (IntKind.i64.wrap (i + (1 : Int))).toNat l) = (-1 : Int) → idxP (badS c.1 c.2) i (List.drop i.toNat l) = (-1 : Int) ∧ () = ()) ∧ ((0 : Int) ≤ idxP (badS c.1 c.2) (IntKind.i64.wrap (i + (1 : Int))) (List.drop (IntKind.i64.wrap (i + (1 : Int))).toNat l) → (0 : Int) ≤ idxP (badS c.1 c.2) i (List.drop i.toNat l) ∧ idxP (badS c.1 c.2) (IntKind.i64.wrap (i + (1 : Int))) (List.drop (IntKind.i64.wrap (i + (1 : Int))).toNat l) = idxP (badS c.1 c.2) i (List.drop i.toNat l)) ∧ True) ∧ ((True ∧ decide (i < n) = true) ∧ ¬((0 : Int) ≤ i ∧ i < (↑l.length : Int)) → False) ∧ (True ∧ decide (i < n) = false → idxP (badS c.1 c.2) i (List.drop i.toNat l) = (-1 : Int) ∧ () = ()) ∧ (True)
theorem ixbL.eq  (l : List Int) (c : Bool × Int) (n : Int) (i : Int) : ixbL.g  l c n i = ixbL.T  l c n i := by kernel_rfl
theorem ixbL.ok  (l : List Int) (c : Bool × Int) (n : Int) (i : Int) (hx : okU c.2 ∧ okR l ∧ n = l.length ∧ 0 ≤ i ∧ i ≤ n ∧ l.length ≤ 9223372036854775807) : ixbL.T  l c n i := by
  obtain ⟨hg, hr, rfl, h0, h1, h2⟩ := hx
  delta ixbL.T ixbL.q0
  by_cases hi : i < (l.length : Int)
  · have hm := hr _ (getD_mem (x := 0) (show i.toNat < l.length by omega))
    rw [wrapI64 (x := i + 1) (by omega) (by omega), drop_int 0 h0 hi, idxP]
    generalize l.getD i.toNat 0 = a at *
    ((repeat' (first | exact trivial | apply And.intro)) <;> (intro hw; (try (simp only [zP, reduceCtorEq] at hw)); (try first | (exfalso; omega) | exact ⟨trivial, rfl⟩ | exact (hw hx).elim | exact (hw.2 hx).elim)))
    all_goals first
      | (exfalso; omega)
      | exact (hw.2 ⟨hg, hm⟩).elim
      | (rw [if_pos hw.2]; exact ⟨h0, rfl⟩)
      | (rw [if_neg (by rw [hw.2]; exact Bool.false_ne_true)]
         exact ⟨⟨hg, hr, rfl, by omega, by omega, h2⟩, by simp only [ixbL.mu]; omega, fun h => ⟨h, rfl⟩, fun h => ⟨h, rfl⟩, trivial⟩)
      | trace_state
  · rw [drop_int_end hi]
    ((repeat' (first | exact trivial | apply And.intro)) <;> (intro hw; (try (simp only [zP, reduceCtorEq] at hw)); (try first | (exfalso; omega) | exact ⟨trivial, rfl⟩ | exact (hw hx).elim | exact (hw.2 hx).elim)))
    all_goals exact ⟨rfl, rfl⟩
theorem ixbL.lp   : LpAt Tryd.prog 101 0 ixbL := lp_evalH (l := []) (lf := 1000) (fun _ => cfOf_ok (fns_cons bad1.fn (fns_nil _))) (lps_nil _ _) (by kernel_rfl) _ (ixbL.mu ) (fun ⟨l, c, n, i⟩ hx => Hid.of (ixbL.eq  l c n i) (ixbL.ok  l c n i hx))
noncomputable def ixbF  : Face := ⟨101, [.v (.sl (.int .i64)), .clo 83 [.bool, .int .u64]], fun (l, c) => some (okU c.2 ∧ okR l),
  [⟨false, [.v (.int .i64)], fun (l, c) => idxP (badS c.1 c.2) 0 l, fun (l, c) => none⟩]⟩
noncomputable def ixbF.g  (l : List Int) (c : Bool × Int) : Prop := GoodFA Tryd.prog (cfOf []) [(0, ixbL)] 1000 ixbF (l, c)
noncomputable def ixbF.q0 (l : List Int) (c : Bool × Int) : Prop := (True ∧ l.length ≤ (9223372036854775807 : Nat)) ∧ okU c.2 ∧ okR l ∧ (↑l.length : Int) = (↑l.length : Int) ∧ (0 : Int) ≤ (0 : Int) ∧ (0 : Int) ≤ (↑l.length : Int) ∧ l.length ≤ (9223372036854775807 : Nat)
noncomputable def ixbF.T (l : List Int) (c : Bool × Int) : Prop := ((True ∧ l.length ≤ (9223372036854775807 : Nat)) ∧ ¬(okU c.2 ∧ okR l ∧ (↑l.length : Int) = (↑l.length : Int) ∧ (0 : Int) ≤ (0 : Int) ∧ (0 : Int) ≤ (↑l.length : Int) ∧ l.length ≤ (9223372036854775807 : Nat)) → False) ∧ ((ixbF.q0 l c) ∧ idxP (badS c.1 c.2) (0 : Int) (List.drop (Int.toNat (0 : Int)) l) = (-1 : Int) → True ∧ (-1 : Int) = idxP (badS c.1 c.2) (0 : Int) l) ∧ ((ixbF.q0 l c) ∧ (0 : Int) ≤ idxP (badS c.1 c.2) (0 : Int) (List.drop (Int.toNat (0 : Int)) l) → True ∧ idxP (badS c.1 c.2) (0 : Int) (List.drop (Int.toNat (0 : Int)) l) = idxP (badS c.1 c.2) (0 : Int) l) ∧ (True)
theorem ixbF.eq  (l : List Int) (c : Bool × Int) : ixbF.g  l c = ixbF.T  l c := by kernel_rfl
theorem ixbF.ok  (l : List Int) (c : Bool × Int) (hx : okU c.2 ∧ okR l) : ixbF.T  l c := by
  obtain ⟨hg, hr⟩ := hx
  delta ixbF.T ixbF.q0
  simp only [show Int.toNat 0 = 0 from rfl, List.drop_zero]
  ((repeat' (first | exact trivial | apply And.intro)) <;> (intro hw; (try (simp only [zP, reduceCtorEq] at hw)); (try first | (exfalso; omega) | exact ⟨trivial, rfl⟩ | exact (hw hx).elim | exact (hw.2 hx).elim)))
  all_goals first
    | (exfalso; omega)
    | exact (hw.2 ⟨hg, hr, by omega, by omega, by omega⟩).elim
    | exact ⟨trivial, hw.2.symm⟩
    | exact ⟨trivial, rfl⟩
    | exact ⟨trivial, trivial⟩
    | trace_state
theorem ixbF.fn   : FnOk Tryd.prog ixbF := fn_evalH (l := [(0, ixbL)]) (lf := 1000) (fun _ => cfOf_ok (fns_nil _)) _ (lps_cons (ixbL.lp) (lps_nil _ _)) (by kernel_rfl) (fun ⟨l, c⟩ hx => Hid.of (ixbF.eq  l c) (ixbF.ok  l c hx))
noncomputable def cfbF  : Face := ⟨82, [.v (.sl (.int .i64)), .clo 83 [.bool, .int .u64]], fun (l, c) => some (okU c.2 ∧ okR l),
  [⟨false, [.v .bool], fun (l, c) => l.any (badS c.1 c.2), fun (l, c) => none⟩]⟩
noncomputable def cfbF.g  (l : List Int) (c : Bool × Int) : Prop := GoodFA Tryd.prog (cfOf [ixbF]) [] 1000 cfbF (l, c)
noncomputable def cfbF.T (l : List Int) (c : Bool × Int) : Prop := (True ∧ ¬(okU c.2 ∧ okR l) → False) ∧ (True ∧ okU c.2 ∧ okR l → True ∧ decide (idxP (badS c.1 c.2) (0 : Int) l ≥ (0 : Int)) = l.any (badS c.1 c.2)) ∧ (True)
theorem cfbF.eq  (l : List Int) (c : Bool × Int) : cfbF.g  l c = cfbF.T  l c := by kernel_rfl
theorem cfbF.ok  (l : List Int) (c : Bool × Int) (hx : okU c.2 ∧ okR l) : cfbF.T  l c := by
  rw [cfbF.T, ← idxP_any0]
  ((repeat' (first | exact trivial | apply And.intro)) <;> (intro hw; (try (simp only [zP, reduceCtorEq] at hw)); (try first | (exfalso; omega) | exact ⟨trivial, rfl⟩ | exact (hw hx).elim | exact (hw.2 hx).elim)))
  all_goals first
    | (exfalso; omega)
    | exact (hw hx).elim
    | exact ⟨trivial, trivial⟩
    | exact ⟨trivial, rfl⟩
    | trace_state
theorem cfbF.fn   : FnOk Tryd.prog cfbF := fn_evalH (l := []) (lf := 1000) (fun _ => cfOf_ok (fns_cons ixbF.fn (fns_nil _))) _ (lps_nil _ _) (by kernel_rfl) (fun ⟨l, c⟩ hx => Hid.of (cfbF.eq  l c) (cfbF.ok  l c hx))
noncomputable def allF  : Face := ⟨64, [.v (.sl (.int .i64)), .v (.int .u64), .v .bool], fun (l, s, tm) => some (okU s ∧ okR l),
  [⟨false, [.v .bool], fun (l, s, tm) => allT tm s l, fun (l, s, tm) => none⟩]⟩
noncomputable def allF.g  (l : List Int) (s : Int) (tm : Bool) : Prop := GoodFA Tryd.prog (cfOf [cfbF]) [] 1000 allF (l, s, tm)
noncomputable def allF.T (l : List Int) (s : Int) (tm : Bool) : Prop := (True ∧ ¬(okU s ∧ okR l) → False) ∧ (True ∧ okU s ∧ okR l → True ∧ (!l.any (badS tm s)) = allT tm s l) ∧ (True)
theorem allF.eq  (l : List Int) (s : Int) (tm : Bool) : allF.g  l s tm = allF.T  l s tm := by kernel_rfl
theorem allF.ok  (l : List Int) (s : Int) (tm : Bool) (hx : okU s ∧ okR l) : allF.T  l s tm := by
  rw [allF.T, allT]
  ((repeat' (first | exact trivial | apply And.intro)) <;> (intro hw; (try (simp only [zP, reduceCtorEq] at hw)); (try first | (exfalso; omega) | exact ⟨trivial, rfl⟩ | exact (hw hx).elim | exact (hw.2 hx).elim)))
  all_goals first
    | exact (hw hx).elim
    | exact ⟨trivial, trivial⟩
    | trace_state
theorem allF.fn   : FnOk Tryd.prog allF := fn_evalH (l := []) (lf := 1000) (fun _ => cfOf_ok (fns_cons cfbF.fn (fns_nil _))) _ (lps_nil _ _) (by kernel_rfl) (fun ⟨l, s, tm⟩ hx => Hid.of (allF.eq  l s tm) (allF.ok  l s tm hx))
def missing (s : Int) : Nat := (List.range 64).countP fun i => !s.toNat.testBit i
theorem hI_wI {s n m : Int} : hI (wI s n) m = (hI s m || decide (m = n ∧ 0 ≤ n ∧ n < 64)) := by
  unfold hI wI
  rw [Int.toNat_natCast, Nat.testBit_or, dg_bit]
  by_cases h : 0 ≤ m ∧ m < 64
  · rw [decide_eq_true h, Bool.true_and, Bool.true_and]
    congr 1
    rw [decide_eq_decide]
    omega
  · rw [decide_eq_false h, Bool.false_and, Bool.false_and, Bool.false_or]
    symm; rw [decide_eq_false_iff_not]; omega
theorem hI_ext {s t : Int} (hs : okU s) (ht : okU t) (h : ∀ n, hI s n = hI t n) : s = t := by
  rw [(okU_nat hs).1, (okU_nat ht).1]
  congr 1
  apply Nat.eq_of_testBit_eq
  intro i
  rcases Nat.lt_or_ge i 64 with hi | hi
  · have := h (i : Int)
    unfold hI at this
    rw [decide_eq_true (show (0 : Int) ≤ i ∧ (i : Int) < 64 by omega), Bool.true_and, Bool.true_and, Int.toNat_natCast] at this
    exact this
  · rw [Nat.testBit_lt_two_pow, Nat.testBit_lt_two_pow]
    · exact Nat.lt_of_lt_of_le (okU_nat ht).2 (Nat.le_trans (by decide) (Nat.pow_le_pow_right (show 0 < 2 by decide) hi))
    · exact Nat.lt_of_lt_of_le (okU_nat hs).2 (Nat.le_trans (by decide) (Nat.pow_le_pow_right (show 0 < 2 by decide) hi))
theorem countP_lt {f g : Nat → Bool} : ∀ (l : List Nat), (∀ i, g i = true → f i = true) → (∃ i ∈ l, f i = true ∧ g i = false) → l.countP g < l.countP f
  | [], _, h => by obtain ⟨i, hi, _⟩ := h; simp at hi
  | a :: r, h, hx => by
    have hle : r.countP g ≤ r.countP f := List.countP_mono_left fun i _ => h i
    rw [List.countP_cons, List.countP_cons]
    by_cases ha : f a = true ∧ g a = false
    · rw [ha.1, ha.2, if_pos rfl, if_neg Bool.false_ne_true]; omega
    · have hr : ∃ i ∈ r, f i = true ∧ g i = false := by
        obtain ⟨i, hi, h1⟩ := hx
        rcases List.mem_cons.1 hi with e | hi
        · subst e; exact absurd h1 ha
        · exact ⟨i, hi, h1⟩
      have ih := countP_lt r h hr
      cases hg : g a with
      | true => rw [h a hg]; omega
      | false => cases hf : f a with
        | true => exact absurd ⟨hf, hg⟩ ha
        | false => omega
theorem missing_w {s n : Int} (h : hI s n = false) (h0 : 0 ≤ n) (h1 : n < 64) : missing (wI s n) < missing s := by
  apply countP_lt
  · intro i hi
    unfold wI at hi
    rw [Int.toNat_natCast, Nat.testBit_or] at hi
    cases hb : s.toNat.testBit i with
    | false => rfl
    | true => rw [hb] at hi; simp at hi
  · refine ⟨n.toNat, List.mem_range.2 (by omega), ?_, ?_⟩
    · unfold hI at h
      rw [decide_eq_true ⟨h0, h1⟩, Bool.true_and] at h
      rw [h]; rfl
    · unfold wI
      rw [Int.toNat_natCast, Nat.testBit_or, dg_bit, decide_eq_true (by omega), Bool.or_true]; rfl
def subS (s t : Int) : Prop := ∀ n, hI s n = true → hI t n = true
theorem sub_w (s n : Int) : subS s (wI s n) := fun m h => by rw [hI_wI, h]; rfl
theorem missing_le {s t : Int} (h : subS s t) : missing t ≤ missing s := by
  apply List.countP_mono_left
  intro i hi hb
  have hi := List.mem_range.1 hi
  have := h (i : Int)
  unfold hI at this
  rw [decide_eq_true (show (0 : Int) ≤ i ∧ (i : Int) < 64 by omega), Bool.true_and, Bool.true_and, Int.toNat_natCast] at this
  cases hs : s.toNat.testBit i with
  | false => rfl
  | true => rw [this hs] at hb; cases hb
def canS (tm : Bool) (s : Int) (p : Int × List Int) : Bool := !(hI s (p.1 - 100)) && allT tm s p.2
def roundS (tm : Bool) : List (Int × List Int) → Int → Int
  | [], s => s
  | p :: r, s => roundS tm r (if canS tm s p = true then wI s (p.1 - 100) else s)
def roundB (tm : Bool) : List (Int × List Int) → Int → Bool
  | [], _ => false
  | p :: r, s => canS tm s p || roundB tm r (if canS tm s p = true then wI s (p.1 - 100) else s)
def okL (l : List (Int × List Int)) : Prop := ∀ p ∈ l, 100 ≤ p.1 ∧ p.1 < 164 ∧ okR p.2
theorem okU_round (tm : Bool) : ∀ (l : List (Int × List Int)) {s : Int}, okU s → okU (roundS tm l s)
  | [], _, h => h
  | p :: r, s, h => okU_round tm r (by split; exact okU_w _ h; exact h)
theorem sub_round (tm : Bool) : ∀ (l : List (Int × List Int)) (s : Int), subS s (roundS tm l s)
  | [], s => fun n h => h
  | p :: r, s => fun n h => by
    rw [roundS]
    apply sub_round tm r
    split
    · exact sub_w _ _ n h
    · exact h
theorem round_less (tm : Bool) : ∀ (l : List (Int × List Int)) (s : Int), okL l → roundB tm l s = true → missing (roundS tm l s) < missing s
  | [], s, _, h => by simp [roundB] at h
  | p :: r, s, hl, h => by
    rw [roundB] at h
    rw [roundS]
    have hp := hl p (List.mem_cons_self ..)
    have hr : okL r := fun q hq => hl q (List.mem_cons_of_mem _ hq)
    by_cases hc : canS tm s p = true
    · rw [if_pos hc]
      have h1 : hI s (p.1 - 100) = false := by
        unfold canS at hc
        rw [Bool.and_eq_true, Bool.not_eq_true'] at hc
        exact hc.1
      have h2 := missing_w h1 (by omega) (by omega)
      have h3 := missing_le (sub_round tm r (wI s (p.1 - 100)))
      omega
    · rw [if_neg hc] at h ⊢
      rw [Bool.not_eq_true] at hc
      rw [hc, Bool.false_or] at h
      exact round_less tm r s hr h
theorem round_same (tm : Bool) : ∀ (l : List (Int × List Int)) (s : Int), roundB tm l s = false → roundS tm l s = s ∧ ∀ p ∈ l, canS tm s p = false
  | [], s, _ => ⟨rfl, fun p h => by simp at h⟩
  | p :: r, s, h => by
    rw [roundB, Bool.or_eq_false_iff] at h
    obtain ⟨ha, hb⟩ := h
    rw [ha, if_neg Bool.false_ne_true] at hb
    obtain ⟨h1, h2⟩ := round_same tm r s hb
    rw [roundS, ha, if_neg Bool.false_ne_true]
    exact ⟨h1, fun q hq => (List.mem_cons.1 hq).elim (fun e => by rw [e]; exact ha) (h2 q)⟩
def fixN (tm : Bool) (l : List (Int × List Int)) : Nat → Int → Int
  | 0, s => s
  | k + 1, s => if roundB tm l s = true then fixN tm l k (roundS tm l s) else s
def fixS (tm : Bool) (l : List (Int × List Int)) (s : Int) : Int := fixN tm l (missing s + 1) s
theorem fixN_fuel (tm : Bool) (l : List (Int × List Int)) (hl : okL l) : ∀ (k m : Nat) (s : Int), missing s < k → missing s < m → fixN tm l k s = fixN tm l m s
  | 0, _, _, h, _ => by omega
  | _, 0, _, _, h => by omega
  | k + 1, m + 1, s, h1, h2 => by
    rw [fixN, fixN]
    split
    · rename_i h
      have := round_less tm l s hl h
      exact fixN_fuel tm l hl k m _ (by omega) (by omega)
    · rfl
theorem fixS_eq (tm : Bool) {l : List (Int × List Int)} (hl : okL l) (s : Int) : fixS tm l s = if roundB tm l s = true then fixS tm l (roundS tm l s) else s := by
  unfold fixS
  rw [fixN]
  split
  · rename_i h
    have := round_less tm l s hl h
    exact fixN_fuel tm l hl _ _ _ (by omega) (by omega)
  · rfl
noncomputable def grL2  : LFace := ⟨[1, 2, 4, 5, 6, 15, 16, 17], [.v .bool, .p GR, .un, .v (.int .u64), .v .bool, .v (.sl PR), .v (.int .i64), .v (.int .i64)], fun (tm, g, u, s, more, l, n, i) => some (n = l.length ∧ 0 ≤ i ∧ i ≤ n ∧ l.length ≤ 9223372036854775807 ∧ okL l ∧ okU s),
  [⟨.normal, [1, 2, 4, 5, 6], [.v .bool, .p GR, .un, .v (.int .u64), .v .bool], fun (tm, g, u, s, more, l, n, i) => (tm, g, (), roundS tm (l.drop i.toNat) s, more || roundB tm (l.drop i.toNat) s), fun (tm, g, u, s, more, l, n, i) => none⟩]⟩
noncomputable def grL2.mu  : dens grL2.sh → Nat := fun (tm, g, u, s, more, l, n, i) => (n - i).toNat
noncomputable def grL2.g  (tm : Bool) (g : List ByteArray × List ByteArray × List (Int × List Int)) (u : Unit) (s : Int) (more : Bool) (l : List (Int × List Int)) (n : Int) (i : Int) : Prop := GoodLA Tryd.prog (cfOf [setHas, allF, setWith]) [] 1000 58 2 grL2 grL2.mu (tm, g, u, s, more, l, n, i)
noncomputable def grL2.q0 (s : Int) (l : List (Int × List Int)) (n : Int) (i : Int) : Prop := (((True ∧ decide (i < n) = true) ∧ (0 : Int) ≤ i ∧ i < (↑l.length : Int)) ∧ okU s) ∧ (!hI s (IntKind.i64.wrap ((l.getD i.toNat ((0 : Int), [])).1 - (100 : Int)))) = true
noncomputable def grL2.q1 (tm : Bool) (g : List ByteArray × List ByteArray × List (Int × List Int)) (s : Int) (more : Bool) (l : List (Int × List Int)) (i : Int) : Prop := True → True ∧ (tm, g, (), roundS tm (List.drop (IntKind.i64.wrap (i + (1 : Int))).toNat l) s, more || roundB tm (List.drop (IntKind.i64.wrap (i + (1 : Int))).toNat l) s) = (tm, g, (), roundS tm (List.drop i.toNat l) s, more || roundB tm (List.drop i.toNat l) s)
noncomputable def grL2.T (tm : Bool) (g : List ByteArray × List ByteArray × List (Int × List Int)) (u : Unit) (s : Int) (more : Bool) (l : List (Int × List Int)) (n : Int) (i : Int) : Prop := (((True ∧ decide (i < n) = true) ∧ (0 : Int) ≤ i ∧ i < (↑l.length : Int)) ∧ ¬okU s → False) ∧ ((grL2.q0 s l n i) ∧ ¬(okU s ∧ okR (l.getD i.toNat ((0 : Int), [])).2) → False) ∧ ((((grL2.q0 s l n i) ∧ okU s ∧ okR (l.getD i.toNat ((0 : Int), [])).2) ∧ allT tm s (l.getD i.toNat ((0 : Int), [])).2 = true) ∧ ¬okU s → False) ∧ ((((grL2.q0 s l n i) ∧ okU s ∧ okR (l.getD i.toNat ((0 : Int), [])).2) ∧ allT tm s (l.getD i.toNat ((0 : Int), [])).2 = true) ∧ okU s → (n = (↑l.length : Int) ∧ (0 : Int) ≤ IntKind.i64.wrap (i + (1 : Int)) ∧ IntKind.i64.wrap (i + (1 : Int)) ≤ n ∧ l.length ≤ (9223372036854775807 : Nat) ∧ okL l ∧ okU (wI s (IntKind.i64.wrap ((l.getD i.toNat ((0 : Int), [])).1 - (100 : Int))))) ∧ grL2.mu (tm, g, (), wI s (IntKind.i64.wrap ((l.getD i.toNat ((0 : Int), [])).1 - (100 : Int))), true, l, n, IntKind.i64.wrap (i + (1 : Int))) < grL2.mu (tm, g, u, s, more, l, n, i) ∧ (True → True ∧ (tm, g, (), roundS tm (List.drop (IntKind.i64.wrap (i + (1 : Int))).toNat l) (wI s (IntKind.i64.wrap ((l.getD i.toNat ((0 : Int), ([] : List Int))).1 - (100 : Int)))), true || roundB tm (List.drop (IntKind.i64.wrap (i + (1 : Int))).toNat l) (wI s (IntKind.i64.wrap ((l.getD i.toNat ((0 : Int), ([] : List Int))).1 - (100 : Int))))) = (tm, g, (), roundS tm (List.drop i.toNat l) s, more || roundB tm (List.drop i.toNat l) s)) ∧ True) ∧ (((grL2.q0 s l n i) ∧ okU s ∧ okR (l.getD i.toNat ((0 : Int), [])).2) ∧ allT tm s (l.getD i.toNat ((0 : Int), [])).2 = false → (n = (↑l.length : Int) ∧ (0 : Int) ≤ IntKind.i64.wrap (i + (1 : Int)) ∧ IntKind.i64.wrap (i + (1 : Int)) ≤ n ∧ l.length ≤ (9223372036854775807 : Nat) ∧ okL l ∧ okU s) ∧ grL2.mu (tm, g, (), s, more, l, n, IntKind.i64.wrap (i + (1 : Int))) < grL2.mu (tm, g, u, s, more, l, n, i) ∧ (grL2.q1 tm g s more l i) ∧ True) ∧ ((((True ∧ decide (i < n) = true) ∧ (0 : Int) ≤ i ∧ i < (↑l.length : Int)) ∧ okU s) ∧ (!hI s (IntKind.i64.wrap ((l.getD i.toNat ((0 : Int), [])).1 - (100 : Int)))) = false → (n = (↑l.length : Int) ∧ (0 : Int) ≤ IntKind.i64.wrap (i + (1 : Int)) ∧ IntKind.i64.wrap (i + (1 : Int)) ≤ n ∧ l.length ≤ (9223372036854775807 : Nat) ∧ okL l ∧ okU s) ∧ grL2.mu (tm, g, (), s, more, l, n, IntKind.i64.wrap (i + (1 : Int))) < grL2.mu (tm, g, u, s, more, l, n, i) ∧ (grL2.q1 tm g s more l i) ∧ True) ∧ ((True ∧ decide (i < n) = true) ∧ ¬((0 : Int) ≤ i ∧ i < (↑l.length : Int)) → False) ∧ (True ∧ decide (i < n) = false → True ∧ (tm, g, (), s, more) = (tm, g, (), roundS tm (List.drop i.toNat l) s, more || roundB tm (List.drop i.toNat l) s)) ∧ (True)
theorem grL2.eq  (tm : Bool) (g : List ByteArray × List ByteArray × List (Int × List Int)) (u : Unit) (s : Int) (more : Bool) (l : List (Int × List Int)) (n : Int) (i : Int) : grL2.g  tm g u s more l n i = grL2.T  tm g u s more l n i := by kernel_rfl
theorem grL2.ok  (tm : Bool) (g : List ByteArray × List ByteArray × List (Int × List Int)) (u : Unit) (s : Int) (more : Bool) (l : List (Int × List Int)) (n : Int) (i : Int) (hx : n = l.length ∧ 0 ≤ i ∧ i ≤ n ∧ l.length ≤ 9223372036854775807 ∧ okL l ∧ okU s) : grL2.T  tm g u s more l n i := by
  obtain ⟨rfl, h0, h1, h2, h3, h4⟩ := hx
  delta grL2.T grL2.q0 grL2.q1
  by_cases hi : i < (l.length : Int)
  · obtain ⟨m1, m2, m3⟩ := h3 _ (getD_mem (x := (0, [])) (show i.toNat < l.length by omega))
    rw [drop_int (0, []) h0 hi, roundS, roundB]
    rw [wrapI64 (x := i + 1) (by omega) (by omega)]
    generalize l.getD i.toNat (0, []) = p at *
    rw [wrapI64 (x := p.1 - 100) (by omega) (by omega)]
    unfold canS
    have h5 := okU_w (p.1 - 100) h4
    generalize allT tm s p.2 = c at *
    generalize hI s (p.1 - 100) = d at *
    generalize l.drop (i + 1).toNat = r at *
    ((repeat' (first | exact trivial | apply And.intro)) <;> (intro hw; (try (simp only [zP, reduceCtorEq] at hw)); (try first | (exfalso; omega) | exact ⟨trivial, rfl⟩ | exact (hw hx).elim | exact (hw.2 hx).elim)))
    all_goals first
      | (exfalso; omega)
      | exact (hw.2 h4).elim
      | exact (hw.2 ⟨h4, m3⟩).elim
      | (refine ⟨⟨rfl, by omega, by omega, h2, h3, by first | exact h5 | exact h4⟩, by simp only [grL2.mu]; omega, fun _ => ⟨trivial, ?_⟩, trivial⟩; cases d <;> cases c <;> simp_all; done)
      | trace_state
  · rw [drop_int_end hi, roundS, roundB, Bool.or_false]
    ((repeat' (first | exact trivial | apply And.intro)) <;> (intro hw; (try (simp only [zP, reduceCtorEq] at hw)); (try first | (exfalso; omega) | exact ⟨trivial, rfl⟩ | exact (hw hx).elim | exact (hw.2 hx).elim)))
    all_goals first
      | (exfalso; omega)
      | exact ⟨trivial, rfl⟩
      | trace_state
theorem grL2.lp   : LpAt Tryd.prog 58 2 grL2 := lp_evalH (l := []) (lf := 1000) (fun _ => cfOf_ok (fns_cons setHas.fn (fns_cons allF.fn (fns_cons setWith.fn (fns_nil _))))) (lps_nil _ _) (by kernel_rfl) _ (grL2.mu ) (fun ⟨tm, g, u, s, more, l, n, i⟩ hx => Hid.of (grL2.eq  tm g u s more l n i) (grL2.ok  tm g u s more l n i hx))
theorem okU_fixN (tm : Bool) (l : List (Int × List Int)) : ∀ (k : Nat) {s : Int}, okU s → okU (fixN tm l k s)
  | 0, _, h => h
  | k + 1, s, h => by
    rw [fixN]; split
    · exact okU_fixN tm l k (okU_round tm l h)
    · exact h
theorem okU_fix (tm : Bool) (l : List (Int × List Int)) {s : Int} (h : okU s) : okU (fixS tm l s) := okU_fixN tm l _ h
def fixM (tm : Bool) (l : List (Int × List Int)) (more : Bool) (s : Int) : Int := if more = true then fixS tm l s else s
noncomputable def grL0  : LFace := ⟨[1, 2, 4, 5, 6], [.v .bool, .p GR, .un, .v (.int .u64), .v .bool], fun (tm, g, u, s, more) => some (okL g.2.2 ∧ okU s ∧ g.2.2.length ≤ 99),
  [⟨.normal, [4, 5], [.un, .v (.int .u64)], fun (tm, g, u, s, more) => ((), fixM tm g.2.2 more s), fun (tm, g, u, s, more) => none⟩]⟩
noncomputable def grL0.mu  : dens grL0.sh → Nat := fun (tm, g, u, s, more) => if more = true then missing s + 1 else 0
noncomputable def grL0.g  (tm : Bool) (g : List ByteArray × List ByteArray × List (Int × List Int)) (u : Unit) (s : Int) (more : Bool) : Prop := GoodLA Tryd.prog (cfOf []) [(2, grL2)] 1000 58 0 grL0 grL0.mu (tm, g, u, s, more)
noncomputable def grL0.T (tm : Bool) (g : List ByteArray × List ByteArray × List (Int × List Int)) (u : Unit) (s : Int) (more : Bool) : Prop := (((True ∧ more = true) ∧ List.length g.2.2 ≤ (9223372036854775807 : Nat)) ∧ ¬((↑(List.length g.2.2) : Int) = (↑(List.length g.2.2) : Int) ∧ (0 : Int) ≤ (0 : Int) ∧ (0 : Int) ≤ (↑(List.length g.2.2) : Int) ∧ List.length g.2.2 ≤ (9223372036854775807 : Nat) ∧ okL g.2.2 ∧ okU s) →
  False) ∧ (((True ∧ more = true) ∧ List.length g.2.2 ≤ (9223372036854775807 : Nat)) ∧ (↑(List.length g.2.2) : Int) = (↑(List.length g.2.2) : Int) ∧ (0 : Int) ≤ (0 : Int) ∧ (0 : Int) ≤ (↑(List.length g.2.2) : Int) ∧ List.length g.2.2 ≤ (9223372036854775807 : Nat) ∧ okL g.2.2 ∧ okU s →
  (okL g.2.2 ∧ okU (roundS tm (List.drop (Int.toNat (0 : Int)) g.2.2) s) ∧ List.length g.2.2 ≤ (99 : Nat)) ∧ grL0.mu (tm, g, (), roundS tm (List.drop (Int.toNat (0 : Int)) g.2.2) s, false || roundB tm (List.drop (Int.toNat (0 : Int)) g.2.2) s) < grL0.mu (tm, g, u, s, more) ∧ (True → True ∧ ((), fixM tm g.2.2 (false || roundB tm (List.drop (Int.toNat (0 : Int)) g.2.2) s) (roundS tm (List.drop (Int.toNat (0 : Int)) g.2.2) s)) = ((), fixM tm g.2.2 more s)) ∧ True) ∧ (True ∧ more = false → True ∧ ((), s) = ((), fixM tm g.2.2 more s)) ∧ (True)
theorem grL0.eq  (tm : Bool) (g : List ByteArray × List ByteArray × List (Int × List Int)) (u : Unit) (s : Int) (more : Bool) : grL0.g  tm g u s more = grL0.T  tm g u s more := by kernel_rfl
theorem grL0.ok  (tm : Bool) (g : List ByteArray × List ByteArray × List (Int × List Int)) (u : Unit) (s : Int) (more : Bool) (hx : okL g.2.2 ∧ okU s ∧ g.2.2.length ≤ 99) : grL0.T  tm g u s more := by
  obtain ⟨h1, h2, h3⟩ := hx
  have h4 := okU_round tm g.2.2 h2
  have h5 := round_less tm g.2.2 s h1
  have h6 := round_same tm g.2.2 s
  have h7 := fixS_eq tm h1 s
  rw [grL0.T]
  unfold fixM
  simp only [show Int.toNat 0 = 0 from rfl, List.drop_zero, Bool.false_or]
  cases more with
  | false =>
    ((repeat' (first | exact trivial | apply And.intro)) <;> (intro hw; (try (simp only [zP, reduceCtorEq] at hw)); (try first | (exfalso; omega) | exact ⟨trivial, rfl⟩ | exact (hw hx).elim | exact (hw.2 hx).elim)))
    all_goals first
      | (exfalso; simp_all; done)
      | exact ⟨trivial, rfl⟩
      | trace_state
  | true =>
    ((repeat' (first | exact trivial | apply And.intro)) <;> (intro hw; (try (simp only [zP, reduceCtorEq] at hw)); (try first | (exfalso; omega) | exact ⟨trivial, rfl⟩ | exact (hw hx).elim | exact (hw.2 hx).elim)))
    all_goals first
      | (exfalso; omega)
      | exact (hw.2 ⟨by omega, by omega, by omega, h1, h2⟩).elim
      | (refine ⟨⟨h1, h4, h3⟩, ?_, fun _ => ⟨trivial, ?_⟩, trivial⟩
         · simp only [grL0.mu, if_pos]
           split
           · rename_i h; have := h5 h; omega
           · omega
         · rw [if_pos rfl, h7]
           split
           · rfl
           · rename_i h; rw [(h6 (by simpa using h)).1])
      | trace_state
theorem grL0.lp   : LpAt Tryd.prog 58 0 grL0 := lp_evalH (l := [(2, grL2)]) (lf := 1000) (fun _ => cfOf_ok (fns_nil _)) (lps_cons (grL2.lp) (lps_nil _ _)) (by kernel_rfl) _ (grL0.mu ) (fun ⟨tm, g, u, s, more⟩ hx => Hid.of (grL0.eq  tm g u s more) (grL0.ok  tm g u s more hx))
theorem prodL_mem (g : Gr) (ps : List (Int × List Int)) : ∀ (l : List (Int × List Int)) (i : Int), prodL g ps i l = true → ∀ p ∈ l, nonS g p.1 = true ∧ p.2.length ≤ 6 ∧ ∀ s ∈ p.2, termS g s = true ∨ nonS g s = true
  | [], _, _, p, h => by simp at h
  | q :: r, i, h, p, hp => by
    simp only [prodL, Bool.and_eq_true, decide_eq_true_eq, Bool.not_eq_true'] at h
    obtain ⟨h1, h2, h3, h4, h5⟩ := h
    rcases List.mem_cons.1 hp with e | hp
    · subst e
      refine ⟨h1, h2, fun s hs => ?_⟩
      rw [List.any_eq_false] at h3
      have := h3 s hs
      unfold strange at this
      cases ht : termS g s with
      | true => exact .inl rfl
      | false => cases hn : nonS g s with
        | true => exact .inr rfl
        | false => rw [ht, hn] at this; exact absurd rfl this
    · exact prodL_mem g ps r (i + 1) h5 p hp
structure Chk (g : Gr) : Prop where
  t1 : 1 ≤ g.1.length
  t2 : g.1.length ≤ 8
  n1 : 1 ≤ g.2.1.length
  n2 : g.2.1.length ≤ 8
  p1 : 1 ≤ g.2.2.length
  p2 : g.2.2.length ≤ 24
  ps : ∀ p ∈ g.2.2, nonS g p.1 = true ∧ p.2.length ≤ 6 ∧ ∀ s ∈ p.2, termS g s = true ∨ nonS g s = true
theorem chk_of {g : Gr} (h : checkB g = true) : Chk g := by
  simp only [checkB, cntB, Bool.and_eq_true, decide_eq_true_eq] at h
  obtain ⟨⟨h1, h2⟩, ⟨h3, h4⟩, ⟨h5, h6⟩, h7, h8, h9⟩ := h
  exact ⟨by omega, by omega, by omega, by omega, by omega, by omega, prodL_mem g _ _ _ h8⟩
theorem nonS_iff {g : Gr} {s : Int} : nonS g s = true ↔ 100 ≤ s ∧ s < 100 + (g.2.1.length : Int) := by
  rw [nonS, Bool.and_eq_true, decide_eq_true_eq, decide_eq_true_eq]
theorem termS_iff {g : Gr} {s : Int} : termS g s = true ↔ 1 ≤ s ∧ s ≤ (g.1.length : Int) := by
  rw [termS, Bool.and_eq_true, decide_eq_true_eq, decide_eq_true_eq]
theorem Chk.okL {g : Gr} (h : Chk g) (hp : okPs g.2.2) : okL g.2.2 := fun p hm => by
  have h1 := nonS_iff.1 (h.ps p hm).1
  have := h.n2
  exact ⟨h1.1, by omega, (hp p hm).2⟩
def growS (tm : Bool) (g : Gr) : Int := if checkB g = true then fixS tm g.2.2 0 else 0
theorem okU_0 : okU 0 := ⟨by decide, by decide⟩
noncomputable def growSF  : Face := ⟨58, [.v GR, .v .bool], fun (g, tm) => some (okG g),
  [⟨false, [.v (.int .u64)], fun (g, tm) => growS tm g, fun (g, tm) => none⟩]⟩
noncomputable def growSF.g  (g : List ByteArray × List ByteArray × List (Int × List Int)) (tm : Bool) : Prop := GoodFA Tryd.prog (cfOf [gcheckF]) [(0, grL0)] 1000 growSF (g, tm)
noncomputable def growSF.T (g : List ByteArray × List ByteArray × List (Int × List Int)) (tm : Bool) : Prop := (True ∧ ¬okG g → False) ∧ ((True ∧ okG g) ∧ ((if checkB g = true then (0 : Int) else (1 : Int)) != (0 : Int)) = true → True ∧ (0 : Int) = growS tm g) ∧ (((True ∧ okG g) ∧ ((if checkB g = true then (0 : Int) else (1 : Int)) != (0 : Int)) = false) ∧ ¬(okL g.2.2 ∧ okU (0 : Int) ∧ List.length g.2.2 ≤ (99 : Nat)) → False) ∧ (((True ∧ okG g) ∧ ((if checkB g = true then (0 : Int) else (1 : Int)) != (0 : Int)) = false) ∧ okL g.2.2 ∧ okU (0 : Int) ∧ List.length g.2.2 ≤ (99 : Nat) → True ∧ fixM tm g.2.2 true (0 : Int) = growS tm g) ∧ (True)
theorem growSF.eq  (g : List ByteArray × List ByteArray × List (Int × List Int)) (tm : Bool) : growSF.g  g tm = growSF.T  g tm := by kernel_rfl
theorem growSF.ok  (g : List ByteArray × List ByteArray × List (Int × List Int)) (tm : Bool) (hx : okG g) : growSF.T  g tm := by
  have h0 := okU_0
  rw [growSF.T, growS]
  unfold fixM
  by_cases hc : checkB g = true
  · have hk := chk_of hc
    have hl := hk.okL hx.2.2.2
    have hp2 := hk.p2
    simp only [if_pos hc]
    ((repeat' (first | exact trivial | apply And.intro)) <;> (intro hw; (try (simp only [zP, reduceCtorEq] at hw)); (try first | (exfalso; omega) | exact ⟨trivial, rfl⟩ | exact (hw hx).elim | exact (hw.2 hx).elim)))
    all_goals first
      | (exfalso; omega)
      | exact (hw hx).elim
      | exact (hw.2 ⟨hl, h0, by omega⟩).elim
      | exact ⟨trivial, rfl⟩
      | exact ⟨trivial, trivial⟩
      | (exfalso; simp_all; done)
      | trace_state
  · simp only [if_neg hc]
    ((repeat' (first | exact trivial | apply And.intro)) <;> (intro hw; (try (simp only [zP, reduceCtorEq] at hw)); (try first | (exfalso; omega) | exact ⟨trivial, rfl⟩ | exact (hw hx).elim | exact (hw.2 hx).elim)))
    all_goals first
      | (exfalso; omega)
      | exact (hw hx).elim
      | exact ⟨trivial, trivial⟩
      | (exfalso; simp_all; done)
      | trace_state
theorem growSF.fn   : FnOk Tryd.prog growSF := fn_evalH (l := [(0, grL0)]) (lf := 1000) (fun _ => cfOf_ok (fns_cons gcheckF.fn (fns_nil _))) _ (lps_cons (grL0.lp) (lps_nil _ _)) (by kernel_rfl) (fun ⟨g, tm⟩ hx => Hid.of (growSF.eq  g tm) (growSF.ok  g tm hx))
noncomputable def fruitF  : Face := ⟨16, [.v GR], fun g => some (okG g),
  [⟨false, [.v (.int .u64)], fun g => growS true g, fun g => none⟩]⟩
noncomputable def fruitF.g  (g : List ByteArray × List ByteArray × List (Int × List Int)) : Prop := GoodFA Tryd.prog (cfOf [growSF]) [] 1000 fruitF g
noncomputable def fruitF.T (g : List ByteArray × List ByteArray × List (Int × List Int)) : Prop := (True ∧ ¬okG g → False) ∧ (True ∧ okG g → True ∧ growS true g = growS true g) ∧ (True)
theorem fruitF.eq  (g : List ByteArray × List ByteArray × List (Int × List Int)) : fruitF.g  g = fruitF.T  g := by kernel_rfl
theorem fruitF.ok  (g : List ByteArray × List ByteArray × List (Int × List Int)) (hx : okG g) : fruitF.T  g := by
  rw [fruitF.T]
  ((repeat' (first | exact trivial | apply And.intro)) <;> (intro hw; (try (simp only [zP, reduceCtorEq] at hw)); (try first | (exfalso; omega) | exact ⟨trivial, rfl⟩ | exact (hw hx).elim | exact (hw.2 hx).elim)))
  all_goals first
    | exact (hw hx).elim
    | exact ⟨trivial, trivial⟩
    | trace_state
theorem fruitF.fn   : FnOk Tryd.prog fruitF := fn_evalH (l := []) (lf := 1000) (fun _ => cfOf_ok (fns_cons growSF.fn (fns_nil _))) _ (lps_nil _ _) (by kernel_rfl) (fun g hx => Hid.of (fruitF.eq  g) (fruitF.ok  g hx))
def trimL (s : Int) : Int → List (Int × List Int) → List Int
  | _, [] => []
  | i, p :: r => if (hI s (p.1 - 100) && allT true s p.2) = true then i :: trimL s (i + 1) r else trimL s (i + 1) r
noncomputable def tmL  : LFace := ⟨[2, 3, 5, 6, 20, 21, 22], [.un, .v (.int .i64), .v (.int .u64), .row (.int .i64) 3, .v (.sl PR), .v (.int .i64), .v (.int .i64)], fun (u, z, s, o, l, n, i) => some (n = l.length ∧ 0 ≤ i ∧ i ≤ n ∧ l.length ≤ 99 ∧ okL l ∧ okU s ∧ o.length ≤ i.toNat),
  [⟨.normal, [2, 3, 6], [.un, .v (.int .i64), .row (.int .i64) 3], fun (u, z, s, o, l, n, i) => ((), z, o ++ trimL s i (l.drop i.toNat)), fun (u, z, s, o, l, n, i) => none⟩]⟩
noncomputable def tmL.mu  : dens tmL.sh → Nat := fun (u, z, s, o, l, n, i) => (n - i).toNat
noncomputable def tmL.g  (u : Unit) (z : Int) (s : Int) (o : List Int) (l : List (Int × List Int)) (n : Int) (i : Int) : Prop := GoodLA Tryd.prog (cfOf [setHas, allF]) [] 1000 23 0 tmL tmL.mu (u, z, s, o, l, n, i)
noncomputable def tmL.q0 (s : Int) (l : List (Int × List Int)) (n : Int) (i : Int) : Prop := (((True ∧ decide (i < n) = true) ∧ (0 : Int) ≤ i ∧ i < (↑l.length : Int)) ∧ okU s) ∧ hI s (IntKind.i64.wrap ((l.getD i.toNat ((0 : Int), [])).1 - (100 : Int))) = true
noncomputable def tmL.q1 (s : Int) (o : List Int) (l : List (Int × List Int)) (n : Int) (i : Int) : Prop := n = (↑l.length : Int) ∧ (0 : Int) ≤ IntKind.i64.wrap (i + (1 : Int)) ∧ IntKind.i64.wrap (i + (1 : Int)) ≤ n ∧ l.length ≤ (99 : Nat) ∧ okL l ∧ okU s ∧ o.length ≤ (IntKind.i64.wrap (i + (1 : Int))).toNat
noncomputable def tmL.T (u : Unit) (z : Int) (s : Int) (o : List Int) (l : List (Int × List Int)) (n : Int) (i : Int) : Prop := (((True ∧ decide (i < n) = true) ∧ (0 : Int) ≤ i ∧ i < (↑l.length : Int)) ∧ ¬okU s → False) ∧ ((tmL.q0 s l n i) ∧ ¬(okU s ∧ okR (l.getD i.toNat ((0 : Int), [])).2) → False) ∧ ((((tmL.q0 s l n i) ∧ okU s ∧ okR (l.getD i.toNat ((0 : Int), [])).2) ∧ allT true s (l.getD i.toNat ((0 : Int), [])).2 = true) ∧ (o.length + (1 : Nat)) * (8 : Nat) ≤ (140737488355328 : Nat) → (n = (↑l.length : Int) ∧ (0 : Int) ≤ IntKind.i64.wrap (i + (1 : Int)) ∧ IntKind.i64.wrap (i + (1 : Int)) ≤ n ∧ l.length ≤ (99 : Nat) ∧ okL l ∧ okU s ∧ (o ++ [i]).length ≤ (IntKind.i64.wrap (i + (1 : Int))).toNat) ∧ tmL.mu ((), z, s, o ++ [i], l, n, IntKind.i64.wrap (i + (1 : Int))) < tmL.mu (u, z, s, o, l, n, i) ∧ (True → True ∧ ((), z, o ++ [i] ++ trimL s (IntKind.i64.wrap (i + (1 : Int))) (List.drop (IntKind.i64.wrap (i + (1 : Int))).toNat l)) = ((), z, o ++ trimL s i (List.drop i.toNat l))) ∧ True) ∧ ((((tmL.q0 s l n i) ∧ okU s ∧ okR (l.getD i.toNat ((0 : Int), [])).2) ∧ allT true s (l.getD i.toNat ((0 : Int), [])).2 = true) ∧ ¬(o.length + (1 : Nat)) * (8 : Nat) ≤ (140737488355328 : Nat) → False) ∧ (((tmL.q0 s l n i) ∧ okU s ∧ okR (l.getD i.toNat ((0 : Int), [])).2) ∧ allT true s (l.getD i.toNat ((0 : Int), [])).2 = false → (tmL.q1 s o l n i) ∧ tmL.mu ((), z, s, o, l, n, IntKind.i64.wrap (i + (1 : Int))) < tmL.mu (u, z, s, o, l, n, i) ∧ (True → True ∧ ((), z, o ++ trimL s (IntKind.i64.wrap (i + (1 : Int))) (List.drop (IntKind.i64.wrap (i + (1 : Int))).toNat l)) = ((), z, o ++ trimL s i (List.drop i.toNat l))) ∧ True) ∧ ((((True ∧ decide (i < n) = true) ∧ (0 : Int) ≤ i ∧ i < (↑l.length : Int)) ∧ okU s) ∧ hI s (IntKind.i64.wrap ((l.getD i.toNat ((0 : Int), [])).1 - (100 : Int))) = false → (tmL.q1 s o l n i) ∧ tmL.mu ((), z, s, o, l, n, IntKind.i64.wrap (i + (1 : Int))) < tmL.mu (u, z, s, o, l, n, i) ∧ (True → True ∧ ((), z, o ++ trimL s (IntKind.i64.wrap (i + (1 : Int))) (List.drop (IntKind.i64.wrap (i + (1 : Int))).toNat l)) = ((), z, o ++ trimL s i (List.drop i.toNat l))) ∧ True) ∧ ((True ∧ decide (i < n) = true) ∧ ¬((0 : Int) ≤ i ∧ i < (↑l.length : Int)) → False) ∧ (True ∧ decide (i < n) = false → True ∧ ((), z, o) = ((), z, o ++ trimL s i (List.drop i.toNat l))) ∧ (True)
theorem tmL.eq  (u : Unit) (z : Int) (s : Int) (o : List Int) (l : List (Int × List Int)) (n : Int) (i : Int) : tmL.g  u z s o l n i = tmL.T  u z s o l n i := by kernel_rfl
theorem tmL.ok  (u : Unit) (z : Int) (s : Int) (o : List Int) (l : List (Int × List Int)) (n : Int) (i : Int) (hx : n = l.length ∧ 0 ≤ i ∧ i ≤ n ∧ l.length ≤ 99 ∧ okL l ∧ okU s ∧ o.length ≤ i.toNat) : tmL.T  u z s o l n i := by
  obtain ⟨rfl, h0, h1, h2, h3, h4, h5⟩ := hx
  delta tmL.T tmL.q0 tmL.q1
  by_cases hi : i < (l.length : Int)
  · obtain ⟨m1, m2, m3⟩ := h3 _ (getD_mem (x := (0, [])) (show i.toNat < l.length by omega))
    rw [drop_int (0, []) h0 hi, trimL]
    rw [wrapI64 (x := i + 1) (by omega) (by omega)]
    generalize l.getD i.toNat (0, []) = p at *
    rw [wrapI64 (x := p.1 - 100) (by omega) (by omega)]
    generalize allT true s p.2 = c at *
    generalize hI s (p.1 - 100) = d at *
    generalize l.drop (i + 1).toNat = r at *
    ((repeat' (first | exact trivial | apply And.intro)) <;> (intro hw; (try (simp only [zP, reduceCtorEq] at hw)); (try first | (exfalso; omega) | exact ⟨trivial, rfl⟩ | exact (hw hx).elim | exact (hw.2 hx).elim)))
    all_goals first
      | (exfalso; omega)
      | exact (hw.2 h4).elim
      | exact (hw.2 ⟨h4, m3⟩).elim
      | (refine ⟨⟨rfl, by omega, by omega, h2, h3, h4, by first | omega | (rw [List.length_append, List.length_singleton]; omega)⟩, by simp only [tmL.mu]; omega, fun _ => ⟨trivial, ?_⟩, trivial⟩; cases d <;> cases c <;> simp_all; done)
      | trace_state
  · rw [drop_int_end hi, trimL, List.append_nil]
    ((repeat' (first | exact trivial | apply And.intro)) <;> (intro hw; (try (simp only [zP, reduceCtorEq] at hw)); (try first | (exfalso; omega) | exact ⟨trivial, rfl⟩ | exact (hw hx).elim | exact (hw.2 hx).elim)))
    all_goals first
      | (exfalso; omega)
      | exact ⟨trivial, rfl⟩
      | trace_state
theorem tmL.lp   : LpAt Tryd.prog 23 0 tmL := lp_evalH (l := []) (lf := 1000) (fun _ => cfOf_ok (fns_cons setHas.fn (fns_cons allF.fn (fns_nil _)))) (lps_nil _ _) (by kernel_rfl) _ (tmL.mu ) (fun ⟨u, z, s, o, l, n, i⟩ hx => Hid.of (tmL.eq  u z s o l n i) (tmL.ok  u z s o l n i hx))
def trimS (g : Gr) : List Int × Int := if checkB g = true then (if hI (growS true g) 0 = true then (trimL (growS true g) 0 g.2.2, 0) else ([], 6)) else ([], 1)
noncomputable def trimF  : Face := ⟨23, [.v GR], fun g => some (okG g),
  [⟨false, [.v (.sl (.int .i64)), .v (.int .i64)], fun g => trimS g, fun g => none⟩]⟩
noncomputable def trimF.g  (g : List ByteArray × List ByteArray × List (Int × List Int)) : Prop := GoodFA Tryd.prog (cfOf [gcheckF, fruitF, setHas]) [(0, tmL)] 1000 trimF g
noncomputable def trimF.q0 (g : List ByteArray × List ByteArray × List (Int × List Int)) : Prop := (True ∧ okG g) ∧ ((if checkB g = true then (0 : Int) else (1 : Int)) != (0 : Int)) = false
noncomputable def trimF.q1 (g : List ByteArray × List ByteArray × List (Int × List Int)) : Prop := ((((trimF.q0 g) ∧ okG g) ∧ okU (growS true g)) ∧ (!hI (growS true g) (0 : Int)) = false) ∧ List.length g.2.2 ≤ (9223372036854775807 : Nat)
noncomputable def trimF.T (g : List ByteArray × List ByteArray × List (Int × List Int)) : Prop := (True ∧ ¬okG g → False) ∧ ((True ∧ okG g) ∧ ((if checkB g = true then (0 : Int) else (1 : Int)) != (0 : Int)) = true → True ∧ (([] : List Int), if checkB g = true then (0 : Int) else (1 : Int)) = trimS g) ∧ ((trimF.q0 g) ∧ ¬okG g → False) ∧ (((trimF.q0 g) ∧ okG g) ∧ ¬okU (growS true g) → False) ∧ ((((trimF.q0 g) ∧ okG g) ∧ okU (growS true g)) ∧ (!hI (growS true g) (0 : Int)) = true → True ∧ (([] : List Int), (6 : Int)) = trimS g) ∧ ((trimF.q1 g) ∧ ¬((↑(List.length g.2.2) : Int) = (↑(List.length g.2.2) : Int) ∧ (0 : Int) ≤ (0 : Int) ∧ (0 : Int) ≤ (↑(List.length g.2.2) : Int) ∧ List.length g.2.2 ≤ (99 : Nat) ∧ okL g.2.2 ∧ okU (growS true g) ∧ (0 : Nat) ≤ Int.toNat (0 : Int)) → False) ∧ ((trimF.q1 g) ∧ (↑(List.length g.2.2) : Int) = (↑(List.length g.2.2) : Int) ∧ (0 : Int) ≤ (0 : Int) ∧ (0 : Int) ≤ (↑(List.length g.2.2) : Int) ∧ List.length g.2.2 ≤ (99 : Nat) ∧ okL g.2.2 ∧ okU (growS true g) ∧ (0 : Nat) ≤ Int.toNat (0 : Int) → True ∧ ([] ++ trimL (growS true g) (0 : Int) (List.drop (Int.toNat (0 : Int)) g.2.2), (0 : Int)) = trimS g) ∧ (True)
theorem trimF.eq  (g : List ByteArray × List ByteArray × List (Int × List Int)) : trimF.g  g = trimF.T  g := by kernel_rfl
theorem trimF.ok  (g : List ByteArray × List ByteArray × List (Int × List Int)) (hx : okG g) : trimF.T  g := by
  delta trimF.T trimF.q0 trimF.q1
  by_cases hc : checkB g = true
  · have hk := chk_of hc
    have hl := hk.okL hx.2.2.2
    have hp2 := hk.p2
    have hu : okU (growS true g) := by
      rw [growS, if_pos hc]
      exact okU_fix true g.2.2 okU_0
    have hS : trimS g = if hI (growS true g) 0 = true then (trimL (growS true g) 0 g.2.2, 0) else ([], 6) := by rw [trimS, if_pos hc]
    simp only [if_pos hc, hS, show Int.toNat 0 = 0 from rfl, List.drop_zero, List.nil_append]
    generalize growS true g = s at *
    ((repeat' (first | exact trivial | apply And.intro)) <;> (intro hw; (try (simp only [zP, reduceCtorEq] at hw)); (try first | (exfalso; omega) | exact ⟨trivial, rfl⟩ | exact (hw hx).elim | exact (hw.2 hx).elim)))
    all_goals first
      | (exfalso; omega)
      | exact (hw hx).elim
      | exact (hw.2 hx).elim
      | exact (hw.2 hu).elim
      | exact (hw.2 ⟨by omega, by omega, by omega, hl, hu, Nat.zero_le _⟩).elim
      | (refine ⟨trivial, ?_⟩; simp_all; done)
      | (exfalso; simp_all; done)
      | trace_state
  · have hS : trimS g = ([], 1) := by rw [trimS, if_neg hc]
    simp only [if_neg hc, hS]
    ((repeat' (first | exact trivial | apply And.intro)) <;> (intro hw; (try (simp only [zP, reduceCtorEq] at hw)); (try first | (exfalso; omega) | exact ⟨trivial, rfl⟩ | exact (hw hx).elim | exact (hw.2 hx).elim)))
    all_goals first
      | (exfalso; omega)
      | exact (hw hx).elim
      | (refine ⟨trivial, ?_⟩; simp_all; done)
      | exact ⟨trivial, rfl⟩
      | (exfalso; simp_all; done)
      | trace_state
theorem trimF.fn   : FnOk Tryd.prog trimF := fn_evalH (l := [(0, tmL)]) (lf := 1000) (fun _ => cfOf_ok (fns_cons gcheckF.fn (fns_cons fruitF.fn (fns_cons setHas.fn (fns_nil _))))) _ (lps_cons (tmL.lp) (lps_nil _ _)) (by kernel_rfl) (fun g hx => Hid.of (trimF.eq  g) (trimF.ok  g hx))
end Go.Proofs.YtajnboigikdefaaDoor.D

namespace Go.Proofs.YtajnboigikdefaaDoor.D
open Go Go.EV Go.Proofs
set_option linter.unusedVariables false
set_option linter.unusedSimpArgs false
set_option maxRecDepth 100000
def comeL (left : Int) : List Int → Int → Int
  | [], s => s
  | n :: r, s => comeL left r (if (hI s (left - 100) && decide (100 ≤ n)) = true then wI s (n - 100) else s)
def comeR : List (Int × List Int) → Int → Int
  | [], s => s
  | p :: r, s => comeR r (comeL p.1 p.2 s)
theorem comeL_ok (left : Int) : ∀ (l : List Int) {s : Int}, okU s → okU (comeL left l s)
  | [], _, h => h
  | n :: r, s, h => comeL_ok left r (by split; exact okU_w _ h; exact h)
theorem comeR_ok : ∀ (l : List (Int × List Int)) {s : Int}, okU s → okU (comeR l s)
  | [], _, h => h
  | p :: r, s, h => comeR_ok r (comeL_ok _ _ h)
theorem comeL_sub (left : Int) : ∀ (l : List Int) (s : Int), subS s (comeL left l s)
  | [], s => fun n h => h
  | m :: r, s => fun n h => by
    rw [comeL]
    apply comeL_sub left r
    split
    · exact sub_w _ _ n h
    · exact h
theorem comeR_sub : ∀ (l : List (Int × List Int)) (s : Int), subS s (comeR l s)
  | [], s => fun n h => h
  | p :: r, s => fun n h => comeR_sub r _ n (comeL_sub _ _ _ n h)
theorem missing_lt {s t : Int} (hs : okU s) (ht : okU t) (h : subS s t) (hn : s ≠ t) : missing t < missing s := by
  have : ∃ n, hI s n = false ∧ hI t n = true := by
    apply Classical.byContradiction
    intro hc
    apply hn
    apply hI_ext hs ht
    intro n
    cases h1 : hI s n with
    | true => rw [h n h1]
    | false => cases h2 : hI t n with
      | false => rfl
      | true => exact absurd ⟨n, h1, h2⟩ hc
  obtain ⟨n, h1, h2⟩ := this
  apply countP_lt
  · intro i hi
    cases hb : s.toNat.testBit i with
    | false => rfl
    | true =>
      rcases Nat.lt_or_ge i 64 with h6 | h6
      · have := h (i : Int)
        unfold hI at this
        rw [decide_eq_true (show (0 : Int) ≤ i ∧ (i : Int) < 64 by omega), Bool.true_and, Bool.true_and, Int.toNat_natCast] at this
        rw [this hb] at hi; cases hi
      · rw [Nat.testBit_lt_two_pow] at hb
        · cases hb
        · exact Nat.lt_of_lt_of_le (okU_nat hs).2 (Nat.le_trans (by decide) (Nat.pow_le_pow_right (show 0 < 2 by decide) h6))
  · unfold hI at h1 h2
    by_cases hr : 0 ≤ n ∧ n < 64
    · rw [decide_eq_true hr, Bool.true_and] at h1 h2
      exact ⟨n.toNat, List.mem_range.2 (by omega), by rw [h1]; rfl, by rw [h2]; rfl⟩
    · rw [decide_eq_false hr] at h2; cases h2
def comeN (l : List (Int × List Int)) : Nat → Int → Int
  | 0, s => s
  | k + 1, s => if comeR l s = s then s else comeN l k (comeR l s)
def comeF (l : List (Int × List Int)) (s : Int) : Int := comeN l (missing s + 1) s
def reachedS (g : Gr) : Int := if checkB g = true then comeF g.2.2 (ofI [0] 0) else 0
end Go.Proofs.YtajnboigikdefaaDoor.D

namespace Go.Proofs.YtajnboigikdefaaDoor.D
open Go Go.EV Go.TL Go.Proofs
set_option linter.unusedVariables false
set_option linter.unusedSimpArgs false
set_option maxRecDepth 100000
def symS (t n r : Int) : Int := if r % (t + n) < t then r % (t + n) + 1 else 100 + r % (t + n) - t
noncomputable def put.L0  : LFace := ⟨[1, 2, 3, 6, 7, 8, 9], [.v (.int .i64), .v (.sl (.int .i64)), .box 28 [.row .str 9, .row .str 9, .row PR 53], .box 28 [.un, .un, .un], .box 53 [.v (.int .i64), .row (.int .i64) 3], .v (.int .i64), .v (.int .i64)], fun (left, row, g, u, p, t, i) => some (0 ≤ i ∧ i ≤ 3 ∧ t = g.1.length ∧ 1 ≤ t ∧ g.1.length ≤ 99 ∧ g.2.1.length ≤ 99 ∧ p.2.length ≤ i.toNat),
  [⟨.normal, [1, 3, 6, 7], [.v (.int .i64), .box 28 [.row .str 9, .row .str 9, .row PR 53], .box 28 [.un, .un, .un], .box 53 [.v (.int .i64), .row (.int .i64) 3]], fun (left, row, g, u, p, t, i) => (left, g, u, p.1, p.2 ++ ((row.take 3).drop i.toNat).map (symS g.1.length g.2.1.length)), fun (left, row, g, u, p, t, i) => none⟩]⟩
noncomputable def put.L0.mu  : dens put.L0.sh → Nat := fun (left, row, g, u, p, t, i) => (3 - i).toNat
noncomputable def put.L0.g  (left : Int) (row : List Int) (g : List ByteArray × List ByteArray × List (Int × List Int)) (u : Unit × Unit × Unit) (p : Int × List Int) (t : Int) (i : Int) : Prop := GoodLA Tryd.prog (cfOf [within]) [] 1000 57 0 put.L0 put.L0.mu (left, row, g, u, p, t, i)
noncomputable def put.L0.q1 (row : List Int) (g : List ByteArray × List ByteArray × List (Int × List Int)) (i : Int) : Prop := ((((True ∧ row.length ≤ (9223372036854775807 : Nat)) ∧ decide (i < (↑row.length : Int)) = true) ∧ decide (i < (3 : Int)) = true) ∧ (0 : Int) ≤ i ∧ i < (↑row.length : Int)) ∧ List.length g.2.1 ≤ (9223372036854775807 : Nat)
noncomputable def put.L0.q0 (row : List Int) (g : List ByteArray × List ByteArray × List (Int × List Int)) (t : Int) (i : Int) : Prop := (put.L0.q1 row g i) ∧ (0 : Int) < IntKind.i64.wrap (t + (↑(List.length g.2.1) : Int)) ∧ IntKind.i64.wrap (t + (↑(List.length g.2.1) : Int)) ≤ (9223372036854775807 : Int)
noncomputable def put.L0.T (left : Int) (row : List Int) (g : List ByteArray × List ByteArray × List (Int × List Int)) (u : Unit × Unit × Unit) (p : Int × List Int) (t : Int) (i : Int) : Prop := ((((True ∧ row.length ≤ (9223372036854775807 : Nat)) ∧ decide (i < (↑row.length : Int)) = true) ∧ decide (i < (3 : Int)) = true) ∧ ¬((0 : Int) ≤ i ∧ i < (↑row.length : Int)) → False) ∧ ((put.L0.q1 row g i) ∧ ¬((0 : Int) < IntKind.i64.wrap (t + (↑(List.length g.2.1) : Int)) ∧ IntKind.i64.wrap (t + (↑(List.length g.2.1) : Int)) ≤ (9223372036854775807 : Int)) → False) ∧ (((put.L0.q0 row g t i) ∧ decide (row.getD i.toNat (0 : Int) % IntKind.i64.wrap (t + (↑(List.length g.2.1) : Int)) < t) = true) ∧ (List.length p.2 + (1 : Nat)) * (8 : Nat) ≤ (140737488355328 : Nat) → ((0 : Int) ≤ IntKind.i64.wrap (i + (1 : Int)) ∧ IntKind.i64.wrap (i + (1 : Int)) ≤ (3 : Int) ∧ t = (↑(List.length g.1) : Int) ∧ (1 : Int) ≤ t ∧ List.length g.1 ≤ (99 : Nat) ∧ List.length g.2.1 ≤ (99 : Nat) ∧ (p.2 ++ [IntKind.i64.wrap (row.getD i.toNat (0 : Int) % IntKind.i64.wrap (t + (↑(List.length g.2.1) : Int)) + (1 : Int))]).length ≤ (IntKind.i64.wrap (i + (1 : Int))).toNat) ∧ put.L0.mu (left, row, g, ((), (), ()), (p.1, p.2 ++ [IntKind.i64.wrap (row.getD i.toNat (0 : Int) % IntKind.i64.wrap (t + (↑(List.length g.2.1) : Int)) + (1 : Int))]), t, IntKind.i64.wrap (i + (1 : Int))) < put.L0.mu (left, row, g, u, p, t, i) ∧ (True → True ∧ (left, g, ((), (), ()), p.1, p.2 ++ [IntKind.i64.wrap (row.getD i.toNat (0 : Int) % IntKind.i64.wrap (t + (↑(List.length g.2.1) : Int)) + (1 : Int))] ++ List.map (symS (↑(List.length g.1) : Int) (↑(List.length g.2.1) : Int)) (List.drop (IntKind.i64.wrap (i + (1 : Int))).toNat (List.take (3 : Nat) row))) = (left, g, u, p.1, p.2 ++ List.map (symS (↑(List.length g.1) : Int) (↑(List.length g.2.1) : Int)) (List.drop i.toNat (List.take (3 : Nat) row)))) ∧ True) ∧ (((put.L0.q0 row g t i) ∧ decide (row.getD i.toNat (0 : Int) % IntKind.i64.wrap (t + (↑(List.length g.2.1) : Int)) < t) = true) ∧ ¬(List.length p.2 + (1 : Nat)) * (8 : Nat) ≤ (140737488355328 : Nat) → False) ∧ (((put.L0.q0 row g t i) ∧ decide (row.getD i.toNat (0 : Int) % IntKind.i64.wrap (t + (↑(List.length g.2.1) : Int)) < t) = false) ∧ (List.length p.2 + (1 : Nat)) * (8 : Nat) ≤ (140737488355328 : Nat) → ((0 : Int) ≤ IntKind.i64.wrap (i + (1 : Int)) ∧ IntKind.i64.wrap (i + (1 : Int)) ≤ (3 : Int) ∧ t = (↑(List.length g.1) : Int) ∧ (1 : Int) ≤ t ∧ List.length g.1 ≤ (99 : Nat) ∧ List.length g.2.1 ≤ (99 : Nat) ∧ (p.2 ++ [IntKind.i64.wrap (IntKind.i64.wrap ((100 : Int) + row.getD i.toNat (0 : Int) % IntKind.i64.wrap (t + (↑(List.length g.2.1) : Int))) - t)]).length ≤ (IntKind.i64.wrap (i + (1 : Int))).toNat) ∧ put.L0.mu (left, row, g, ((), (), ()), (p.1, p.2 ++ [IntKind.i64.wrap (IntKind.i64.wrap ((100 : Int) + row.getD i.toNat (0 : Int) % IntKind.i64.wrap (t + (↑(List.length g.2.1) : Int))) - t)]), t, IntKind.i64.wrap (i + (1 : Int))) < put.L0.mu (left, row, g, u, p, t, i) ∧ (True → True ∧ (left, g, ((), (), ()), p.1, p.2 ++ [IntKind.i64.wrap (IntKind.i64.wrap ((100 : Int) + row.getD i.toNat (0 : Int) % IntKind.i64.wrap (t + (↑(List.length g.2.1) : Int))) - t)] ++ List.map (symS (↑(List.length g.1) : Int) (↑(List.length g.2.1) : Int)) (List.drop (IntKind.i64.wrap (i + (1 : Int))).toNat (List.take (3 : Nat) row))) = (left, g, u, p.1, p.2 ++ List.map (symS (↑(List.length g.1) : Int) (↑(List.length g.2.1) : Int)) (List.drop i.toNat (List.take (3 : Nat) row)))) ∧ True) ∧ (((put.L0.q0 row g t i) ∧ decide (row.getD i.toNat (0 : Int) % IntKind.i64.wrap (t + (↑(List.length g.2.1) : Int)) < t) = false) ∧ ¬(List.length p.2 + (1 : Nat)) * (8 : Nat) ≤ (140737488355328 : Nat) → False) ∧ (((True ∧ row.length ≤ (9223372036854775807 : Nat)) ∧ decide (i < (↑row.length : Int)) = true) ∧ decide (i < (3 : Int)) = false → True ∧ (left, g, ((), (), ()), p) = (left, g, u, p.1, p.2 ++ List.map (symS (↑(List.length g.1) : Int) (↑(List.length g.2.1) : Int)) (List.drop i.toNat (List.take (3 : Nat) row)))) ∧ ((True ∧ row.length ≤ (9223372036854775807 : Nat)) ∧ decide (i < (↑row.length : Int)) = false → True ∧ (left, g, ((), (), ()), p) = (left, g, u, p.1, p.2 ++ List.map (symS (↑(List.length g.1) : Int) (↑(List.length g.2.1) : Int)) (List.drop i.toNat (List.take (3 : Nat) row)))) ∧ (True)
theorem put.L0.eq  (left : Int) (row : List Int) (g : List ByteArray × List ByteArray × List (Int × List Int)) (u : Unit × Unit × Unit) (p : Int × List Int) (t : Int) (i : Int) : put.L0.g  left row g u p t i = put.L0.T  left row g u p t i := by kernel_rfl
theorem put.L0.ok  (left : Int) (row : List Int) (g : List ByteArray × List ByteArray × List (Int × List Int)) (u : Unit × Unit × Unit) (p : Int × List Int) (t : Int) (i : Int) (hx : 0 ≤ i ∧ i ≤ 3 ∧ t = g.1.length ∧ 1 ≤ t ∧ g.1.length ≤ 99 ∧ g.2.1.length ≤ 99 ∧ p.2.length ≤ i.toNat) : put.L0.T  left row g u p t i := by
  obtain ⟨h0, h1, rfl, h2, h3, h4, h5⟩ := hx
  have w1 : IntKind.i64.wrap (i + 1) = i + 1 := wrapI64 (by omega) (by omega)
  have w2 : IntKind.i64.wrap ((g.1.length : Int) + g.2.1.length) = (g.1.length : Int) + g.2.1.length := wrapI64 (by omega) (by omega)
  delta put.L0.T put.L0.q1 put.L0.q0
  simp only [w1, w2]
  have hr0 := Int.emod_nonneg (row.getD i.toNat 0) (show (g.1.length : Int) + g.2.1.length ≠ 0 by omega)
  have hr1 := Int.emod_lt_of_pos (row.getD i.toNat 0) (show 0 < (g.1.length : Int) + g.2.1.length by omega)
  have hS : symS g.1.length g.2.1.length (row.getD i.toNat 0) = if row.getD i.toNat 0 % ((g.1.length : Int) + g.2.1.length) < g.1.length then row.getD i.toNat 0 % ((g.1.length : Int) + g.2.1.length) + 1 else 100 + row.getD i.toNat 0 % ((g.1.length : Int) + g.2.1.length) - g.1.length := rfl
  have hD : i < 3 → i < (row.length : Int) → (row.take 3).drop i.toNat = row.getD i.toNat 0 :: (row.take 3).drop (i + 1).toNat := fun ha hb => by
    rw [drop_int 0 h0 (by simp; omega), take_getD (by omega)]
  generalize row.getD i.toNat 0 % ((g.1.length : Int) + g.2.1.length) = r at *
  rw [wrapI64 (x := r + 1) (by omega) (by omega), wrapI64 (x := 100 + r) (by omega) (by omega), wrapI64 (x := 100 + r - g.1.length) (by omega) (by omega)]
  generalize row.getD i.toNat 0 = x at *
  have hmu : ∀ q, put.L0.mu (left, row, g, u, q, (g.1.length : Int), i + 1) < put.L0.mu (left, row, g, u, p, (g.1.length : Int), i) ∨ 3 ≤ i := fun q => by simp only [put.L0.mu]; omega
  ((repeat' (first | exact trivial | apply And.intro)) <;> (intro hw; (try (simp only [zP, reduceCtorEq] at hw)); (try first | (exfalso; omega) | exact ⟨trivial, rfl⟩ | exact (hw hx).elim | exact (hw.2 hx).elim)))
  · rw [hD (by omega) (by omega), List.map_cons, hS, if_pos hw.1.2]
    refine ⟨⟨by omega, by omega, trivial, h2, h3, h4, by rw [List.length_append]; simp; omega⟩, (hmu _).resolve_right (by omega), fun _ => ⟨trivial, ?_⟩, trivial⟩
    rw [List.append_assoc]; rfl
  · rw [hD (by omega) (by omega), List.map_cons, hS, if_neg hw.1.2]
    refine ⟨⟨by omega, by omega, trivial, h2, h3, h4, by rw [List.length_append]; simp; omega⟩, (hmu _).resolve_right (by omega), fun _ => ⟨trivial, ?_⟩, trivial⟩
    rw [List.append_assoc]; rfl
  all_goals
    rw [List.drop_eq_nil_of_le (by simp; omega), List.map_nil, List.append_nil]
    exact ⟨trivial, rfl⟩
theorem put.L0.lp   : LpAt Tryd.prog 57 0 put.L0 := lp_evalH (l := []) (lf := 1000) (fun _ => cfOf_ok (fns_cons within.fn (fns_nil _))) (lps_nil _ _) (by kernel_rfl) _ (put.L0.mu ) (fun ⟨left, row, g, u, p, t, i⟩ hx => Hid.of (put.L0.eq  left row g u p t i) (put.L0.ok  left row g u p t i hx))
def hasS (left : Int) (r : List Int) : List (Int × List Int) → Bool
  | [] => false
  | q :: l => (decide (q.1 = left) && sameS q.2 r) || hasS left r l
noncomputable def put.L2  : LFace := ⟨[1, 3, 6, 7, 58, 59, 60], [.v (.int .i64), .box 28 [.row .str 9, .row .str 9, .row PR 53], .box 28 [.un, .un, .un], .box 53 [.v (.int .i64), .v (.sl (.int .i64))], .al 2, .v (.int .i64), .v (.int .i64)], fun (left, g, u, p, z, len, i) => some (len = g.2.2.length ∧ 0 ≤ i ∧ i ≤ g.2.2.length ∧ g.2.2.length ≤ 1000),
  [⟨.normal, [3, 6, 7], [.box 28 [.row .str 9, .row .str 9, .row PR 53], .box 28 [.un, .un, .un], .box 53 [.v (.int .i64), .v (.sl (.int .i64))]], fun (left, g, u, p, z, len, i) => (g, u, p), fun (left, g, u, p, z, len, i) => some (hasS left p.2 (g.2.2.drop i.toNat) = false)⟩,
   ⟨.ret, [3, 6, 7], [.box 28 [.un, .un, .un], .box 28 [.row .str 9, .row .str 9, .row PR 53], .box 53 [.un, .un]], fun (left, g, u, p, z, len, i) => (((), (), ()), g, (), ()), fun (left, g, u, p, z, len, i) => some (hasS left p.2 (g.2.2.drop i.toNat) = true)⟩]⟩
noncomputable def put.L2.mu  : dens put.L2.sh → Nat := fun (left, g, u, p, z, len, i) => (g.2.2.length - i).toNat
noncomputable def put.L2.g  (left : Int) (g : List ByteArray × List ByteArray × List (Int × List Int)) (u : Unit × Unit × Unit) (p : Int × List Int) (z : Unit) (len : Int) (i : Int) : Prop := GoodLA Tryd.prog (cfOf [sameRow]) [] 1000 57 2 put.L2 put.L2.mu (left, g, u, p, z, len, i)
noncomputable def put.L2.T (left : Int) (g : List ByteArray × List ByteArray × List (Int × List Int)) (u : Unit × Unit × Unit) (p : Int × List Int) (z : Unit) (len : Int) (i : Int) : Prop := (((((True ∧ decide (i < len) = true) ∧ (0 : Int) ≤ i ∧ i < (↑(List.length g.2.2) : Int)) ∧ i.toNat < List.length g.2.2) ∧ ((List.getD g.2.2 i.toNat ((0 : Int), [])).1 == left) = true) ∧ sameS (List.getD g.2.2 i.toNat ((0 : Int), [])).2 p.2 = true →
  hasS left p.2 (List.drop i.toNat g.2.2) = true ∧ (((), (), ()), g, (), ()) = (((), (), ()), g, (), ())) ∧ (((((True ∧ decide (i < len) = true) ∧ (0 : Int) ≤ i ∧ i < (↑(List.length g.2.2) : Int)) ∧ i.toNat < List.length g.2.2) ∧ ((List.getD g.2.2 i.toNat ((0 : Int), [])).1 == left) = true) ∧ sameS (List.getD g.2.2 i.toNat ((0 : Int), [])).2 p.2 = false →
  (len = (↑(List.length g.2.2) : Int) ∧ (0 : Int) ≤ IntKind.i64.wrap (i + (1 : Int)) ∧ IntKind.i64.wrap (i + (1 : Int)) ≤ (↑(List.length g.2.2) : Int) ∧ List.length g.2.2 ≤ (1000 : Nat)) ∧ put.L2.mu (left, g, ((), (), ()), p, (), len, IntKind.i64.wrap (i + (1 : Int))) < put.L2.mu (left, g, u, p, z, len, i) ∧ (hasS left p.2 (List.drop (IntKind.i64.wrap (i + (1 : Int))).toNat g.2.2) = false → hasS left p.2 (List.drop i.toNat g.2.2) = false ∧ (g, ((), (), ()), p) = (g, u, p)) ∧ (hasS left p.2 (List.drop (IntKind.i64.wrap (i + (1 : Int))).toNat g.2.2) = true → hasS left p.2 (List.drop i.toNat g.2.2) = true ∧ (((), (), ()), g, (), ()) = (((), (), ()), g, (), ())) ∧ True) ∧ ((((True ∧ decide (i < len) = true) ∧ (0 : Int) ≤ i ∧ i < (↑(List.length g.2.2) : Int)) ∧ i.toNat < List.length g.2.2) ∧ ((List.getD g.2.2 i.toNat ((0 : Int), [])).1 == left) = false →
  (len = (↑(List.length g.2.2) : Int) ∧ (0 : Int) ≤ IntKind.i64.wrap (i + (1 : Int)) ∧ IntKind.i64.wrap (i + (1 : Int)) ≤ (↑(List.length g.2.2) : Int) ∧ List.length g.2.2 ≤ (1000 : Nat)) ∧ put.L2.mu (left, g, ((), (), ()), p, (), len, IntKind.i64.wrap (i + (1 : Int))) < put.L2.mu (left, g, u, p, z, len, i) ∧ (hasS left p.2 (List.drop (IntKind.i64.wrap (i + (1 : Int))).toNat g.2.2) = false → hasS left p.2 (List.drop i.toNat g.2.2) = false ∧ (g, ((), (), ()), p) = (g, u, p)) ∧ (hasS left p.2 (List.drop (IntKind.i64.wrap (i + (1 : Int))).toNat g.2.2) = true → hasS left p.2 (List.drop i.toNat g.2.2) = true ∧ (((), (), ()), g, (), ()) = (((), (), ()), g, (), ())) ∧ True) ∧ (((True ∧ decide (i < len) = true) ∧ (0 : Int) ≤ i ∧ i < (↑(List.length g.2.2) : Int)) ∧ ¬i.toNat < List.length g.2.2 → False) ∧ ((True ∧ decide (i < len) = true) ∧ ¬((0 : Int) ≤ i ∧ i < (↑(List.length g.2.2) : Int)) → False) ∧ (True ∧ decide (i < len) = false → hasS left p.2 (List.drop i.toNat g.2.2) = false ∧ (g, ((), (), ()), p) = (g, u, p)) ∧ (True)
theorem put.L2.eq  (left : Int) (g : List ByteArray × List ByteArray × List (Int × List Int)) (u : Unit × Unit × Unit) (p : Int × List Int) (z : Unit) (len : Int) (i : Int) : put.L2.g  left g u p z len i = put.L2.T  left g u p z len i := by kernel_rfl
theorem put.L2.ok  (left : Int) (g : List ByteArray × List ByteArray × List (Int × List Int)) (u : Unit × Unit × Unit) (p : Int × List Int) (z : Unit) (len : Int) (i : Int) (hx : len = g.2.2.length ∧ 0 ≤ i ∧ i ≤ g.2.2.length ∧ g.2.2.length ≤ 1000) : put.L2.T  left g u p z len i := by
  obtain ⟨rfl, h0, h1, h2⟩ := hx
  rw [put.L2.T]
  have hD := fun h => drop_int (0, []) h0 (l := g.2.2) h
  ((repeat' (first | exact trivial | apply And.intro)) <;> (intro hw; (try (simp only [zP, reduceCtorEq] at hw)); (try first | (exfalso; omega) | exact ⟨trivial, rfl⟩ | exact (hw hx).elim | exact (hw.2 hx).elim)))
  · rw [hD (by omega), hasS, decide_eq_true hw.1.2, hw.2]
    exact ⟨rfl, rfl⟩
  · rw [wrapI64 (x := i + 1) (by omega) (by omega), hD (by omega), hasS, hw.2, Bool.and_false, Bool.false_or]
    exact ⟨⟨rfl, by omega, by omega, h2⟩, by simp only [put.L2.mu]; omega, fun h => ⟨h, rfl⟩, fun h => ⟨h, rfl⟩, trivial⟩
  · rw [wrapI64 (x := i + 1) (by omega) (by omega), hD (by omega), hasS, decide_eq_false hw.2, Bool.false_and, Bool.false_or]
    exact ⟨⟨rfl, by omega, by omega, h2⟩, by simp only [put.L2.mu]; omega, fun h => ⟨h, rfl⟩, fun h => ⟨h, rfl⟩, trivial⟩
  · rw [drop_int_end hw, hasS]
    exact ⟨rfl, rfl⟩
theorem put.L2.lp   : LpAt Tryd.prog 57 2 put.L2 := lp_evalH (l := []) (lf := 1000) (fun _ => cfOf_ok (fns_cons sameRow.fn (fns_nil _))) (lps_nil _ _) (by kernel_rfl) _ (put.L2.mu ) (fun ⟨left, g, u, p, z, len, i⟩ hx => Hid.of (put.L2.eq  left g u p z len i) (put.L2.ok  left g u p z len i hx))
def putS (g : Gr) (left : Int) (row : List Int) : Gr := if hasS left ((row.take 3).map (symS g.1.length g.2.1.length)) g.2.2 = true then g else (g.1, g.2.1, g.2.2 ++ [(left, (row.take 3).map (symS g.1.length g.2.1.length))])
noncomputable def put  : Face := ⟨57, [.st [.row .str 9, .row .str 9, .row PR 53], .v (.int .i64), .v (.sl (.int .i64))], fun (g, left, row) => some (1 ≤ g.1.length ∧ g.1.length ≤ 99 ∧ g.2.1.length ≤ 99 ∧ g.2.2.length ≤ 99),
  [⟨false, [.st [.row .str 9, .row .str 9, .row PR 53]], fun (g, left, row) => putS g left row, fun (g, left, row) => none⟩]⟩
noncomputable def put.g  (g : List ByteArray × List ByteArray × List (Int × List Int)) (left : Int) (row : List Int) : Prop := GoodFA Tryd.prog (cfOf []) [(0, put.L0), (2, put.L2)] 1000 put (g, left, row)
noncomputable def put.q0 (g : List ByteArray × List ByteArray × List (Int × List Int)) : Prop := ((True ∧ List.length g.1 ≤ (9223372036854775807 : Nat)) ∧ (0 : Int) ≤ (0 : Int) ∧ (0 : Int) ≤ (3 : Int) ∧ (↑(List.length g.1) : Int) = (↑(List.length g.1) : Int) ∧ (1 : Int) ≤ (↑(List.length g.1) : Int) ∧ List.length g.1 ≤ (99 : Nat) ∧ List.length g.2.1 ≤ (99 : Nat) ∧ (0 : Nat) ≤ Int.toNat (0 : Int)) ∧ List.length g.2.2 ≤ (9223372036854775807 : Nat)
noncomputable def put.q2 (g : List ByteArray × List ByteArray × List (Int × List Int)) : Prop := (put.q0 g) ∧ (↑(List.length g.2.2) : Int) = (↑(List.length g.2.2) : Int) ∧ (0 : Int) ≤ (0 : Int) ∧ (0 : Int) ≤ (↑(List.length g.2.2) : Int) ∧ List.length g.2.2 ≤ (1000 : Nat)
noncomputable def put.q1 (g : List ByteArray × List ByteArray × List (Int × List Int)) (left : Int) (row : List Int) : Prop := (put.q2 g) ∧ hasS left ([] ++ List.map (symS (↑(List.length g.1) : Int) (↑(List.length g.2.1) : Int)) (List.drop (Int.toNat (0 : Int)) (List.take (3 : Nat) row))) (List.drop (Int.toNat (0 : Int)) g.2.2) = false
noncomputable def put.T (g : List ByteArray × List ByteArray × List (Int × List Int)) (left : Int) (row : List Int) : Prop := ((True ∧ List.length g.1 ≤ (9223372036854775807 : Nat)) ∧ ¬((0 : Int) ≤ (0 : Int) ∧ (0 : Int) ≤ (3 : Int) ∧ (↑(List.length g.1) : Int) = (↑(List.length g.1) : Int) ∧ (1 : Int) ≤ (↑(List.length g.1) : Int) ∧ List.length g.1 ≤ (99 : Nat) ∧ List.length g.2.1 ≤ (99 : Nat) ∧ (0 : Nat) ≤ Int.toNat (0 : Int)) → False) ∧ ((put.q0 g) ∧ ¬((↑(List.length g.2.2) : Int) = (↑(List.length g.2.2) : Int) ∧ (0 : Int) ≤ (0 : Int) ∧ (0 : Int) ≤ (↑(List.length g.2.2) : Int) ∧ List.length g.2.2 ≤ (1000 : Nat)) → False) ∧ ((put.q1 g left row) ∧ (List.length g.2.2 + (1 : Nat)) * (32 : Nat) ≤ (140737488355328 : Nat) → True ∧ (g.1, g.2.1, g.2.2 ++ [(left, [] ++ List.map (symS (↑(List.length g.1) : Int) (↑(List.length g.2.1) : Int)) (List.drop (Int.toNat (0 : Int)) (List.take (3 : Nat) row)))]) = putS g left row) ∧ ((put.q1 g left row) ∧ ¬(List.length g.2.2 + (1 : Nat)) * (32 : Nat) ≤ (140737488355328 : Nat) → False) ∧ ((put.q2 g) ∧ hasS left ([] ++ List.map (symS (↑(List.length g.1) : Int) (↑(List.length g.2.1) : Int)) (List.drop (Int.toNat (0 : Int)) (List.take (3 : Nat) row))) (List.drop (Int.toNat (0 : Int)) g.2.2) = true → True ∧ g = putS g left row) ∧ (True)
theorem put.eq  (g : List ByteArray × List ByteArray × List (Int × List Int)) (left : Int) (row : List Int) : put.g  g left row = put.T  g left row := by kernel_rfl
theorem put.ok  (g : List ByteArray × List ByteArray × List (Int × List Int)) (left : Int) (row : List Int) (hx : 1 ≤ g.1.length ∧ g.1.length ≤ 99 ∧ g.2.1.length ≤ 99 ∧ g.2.2.length ≤ 99) : put.T  g left row := by
  delta put.T put.q0 put.q2 put.q1
  rw [putS]
  ((repeat' (first | exact trivial | apply And.intro)) <;> (intro hw; (try (simp only [zP, reduceCtorEq] at hw)); (try first | (exfalso; omega) | exact ⟨trivial, rfl⟩ | exact (hw hx).elim | exact (hw.2 hx).elim)))
  · simp only [List.nil_append, show Int.toNat 0 = 0 from rfl, List.drop_zero] at hw ⊢
    rw [hw.1.2, if_neg Bool.false_ne_true]
    exact ⟨trivial, rfl⟩
  · simp only [List.nil_append, show Int.toNat 0 = 0 from rfl, List.drop_zero] at hw ⊢
    rw [hw.2, if_pos rfl]
    exact ⟨trivial, rfl⟩
theorem put.fn   : FnOk Tryd.prog put := fn_evalH (l := [(0, put.L0), (2, put.L2)]) (lf := 1000) (fun _ => cfOf_ok (fns_nil _)) _ (lps_cons (put.L0.lp) (lps_cons (put.L2.lp) (lps_nil _ _))) (by kernel_rfl) (fun ⟨g, left, row⟩ hx => Hid.of (put.eq  g left row) (put.ok  g left row hx))
abbrev RAW : Ty := .pr (.int .i64) (.pr (.int .i64) (.pr (.int .i64) (.pr (.int .i64) (.pr (.sl (.sl (.int .i64))) .str))))
def puts1 : Nat → Int → Gr → Gr
  | 0, _, g => g
  | n + 1, i, g => puts1 n (i + 1) (putS g (100 + i) [i])
def leftS (i : Int) (r : List Int) : Int := if 0 < r.length then IntKind.i64.wrap (Int.tdiv (r.getD 0 0) 16) else i
def puts2 (n : Int) : Int → Gr → List (List Int) → Gr
  | _, g, [] => g
  | i, g, r :: l => puts2 n (i + 1) (putS g (100 + leftS i r % n) r) l
theorem putS_len (g : Gr) (l : Int) (r : List Int) : (putS g l r).1 = g.1 ∧ (putS g l r).2.1 = g.2.1 ∧ (putS g l r).2.2.length ≤ g.2.2.length + 1 := by
  unfold putS
  split
  · exact ⟨rfl, rfl, Nat.le_succ _⟩
  · exact ⟨rfl, rfl, by simp⟩
noncomputable def any.L0  : LFace := ⟨[1, 2, 3, 5, 6, 7], [.p RAW, .box 28 [.un, .un, .un], .clo 33 [], .v (.int .i64), .box 28 [.row .str 9, .row .str 9, .row PR 53], .v (.int .i64)], fun (r, u, z, n, g, i) => some (0 ≤ i ∧ i ≤ n ∧ n ≤ 9 ∧ 1 ≤ g.1.length ∧ g.1.length ≤ 99 ∧ g.2.1.length ≤ 99 ∧ g.2.2.length ≤ i.toNat),
  [⟨.normal, [1, 2, 3, 5, 6], [.p RAW, .box 28 [.un, .un, .un], .clo 33 [], .v (.int .i64), .box 28 [.row .str 9, .row .str 9, .row PR 53]], fun (r, u, z, n, g, i) => (r, u, z, n, puts1 (n - i).toNat i g), fun (r, u, z, n, g, i) => none⟩]⟩
noncomputable def any.L0.mu  : dens any.L0.sh → Nat := fun (r, u, z, n, g, i) => (n - i).toNat
noncomputable def any.L0.g  (r : Int × Int × Int × Int × List (List Int) × ByteArray) (u : Unit × Unit × Unit) (z : Unit) (n : Int) (g : List ByteArray × List ByteArray × List (Int × List Int)) (i : Int) : Prop := GoodLA Tryd.prog (cfOf [put]) [] 1000 14 0 any.L0 any.L0.mu (r, u, z, n, g, i)
noncomputable def any.L0.T (r : Int × Int × Int × Int × List (List Int) × ByteArray) (u : Unit × Unit × Unit) (z : Unit) (n : Int) (g : List ByteArray × List ByteArray × List (Int × List Int)) (i : Int) : Prop := ((True ∧ decide (i < n) = true) ∧ ¬((1 : Nat) ≤ List.length g.1 ∧ List.length g.1 ≤ (99 : Nat) ∧ List.length g.2.1 ≤ (99 : Nat) ∧ List.length g.2.2 ≤ (99 : Nat)) → False) ∧ ((True ∧ decide (i < n) = true) ∧ (1 : Nat) ≤ List.length g.1 ∧ List.length g.1 ≤ (99 : Nat) ∧ List.length g.2.1 ≤ (99 : Nat) ∧ List.length g.2.2 ≤ (99 : Nat) →
  ((0 : Int) ≤ IntKind.i64.wrap (i + (1 : Int)) ∧ IntKind.i64.wrap (i + (1 : Int)) ≤ n ∧ n ≤ (9 : Int) ∧ (1 : Nat) ≤ List.length (putS g (IntKind.i64.wrap ((100 : Int) + i)) [i]).1 ∧ List.length (putS g (IntKind.i64.wrap ((100 : Int) + i)) [i]).1 ≤ (99 : Nat) ∧ List.length (putS g (IntKind.i64.wrap ((100 : Int) + i)) [i]).2.1 ≤ (99 : Nat) ∧ List.length (putS g (IntKind.i64.wrap ((100 : Int) + i)) [i]).2.2 ≤ (IntKind.i64.wrap (i + (1 : Int))).toNat) ∧ any.L0.mu (r, ((), (), ()), (), n, putS g (IntKind.i64.wrap ((100 : Int) + i)) [i], IntKind.i64.wrap (i + (1 : Int))) < any.L0.mu (r, u, z, n, g, i) ∧ (True → True ∧ (r, ((), (), ()), (), n, puts1 (n - IntKind.i64.wrap (i + (1 : Int))).toNat (IntKind.i64.wrap (i + (1 : Int))) (putS g (IntKind.i64.wrap ((100 : Int) + i)) [i])) = (r, u, (), n, puts1 (n - i).toNat i g)) ∧ True) ∧ (True ∧ decide (i < n) = false → True ∧ (r, ((), (), ()), (), n, g) = (r, u, (), n, puts1 (n - i).toNat i g)) ∧ (True)
theorem any.L0.eq  (r : Int × Int × Int × Int × List (List Int) × ByteArray) (u : Unit × Unit × Unit) (z : Unit) (n : Int) (g : List ByteArray × List ByteArray × List (Int × List Int)) (i : Int) : any.L0.g  r u z n g i = any.L0.T  r u z n g i := by kernel_rfl
theorem any.L0.ok  (r : Int × Int × Int × Int × List (List Int) × ByteArray) (u : Unit × Unit × Unit) (z : Unit) (n : Int) (g : List ByteArray × List ByteArray × List (Int × List Int)) (i : Int) (hx : 0 ≤ i ∧ i ≤ n ∧ n ≤ 9 ∧ 1 ≤ g.1.length ∧ g.1.length ≤ 99 ∧ g.2.1.length ≤ 99 ∧ g.2.2.length ≤ i.toNat) : any.L0.T  r u z n g i := by
  obtain ⟨h0, h1, h2, h3, h4, h5, h6⟩ := hx
  rw [any.L0.T, wrapI64 (x := i + 1) (by omega) (by omega), wrapI64 (x := 100 + i) (by omega) (by omega)]
  obtain ⟨p1, p2, p3⟩ := putS_len g (100 + i) [i]
  ((repeat' (first | exact trivial | apply And.intro)) <;> (intro hw; (try (simp only [zP, reduceCtorEq] at hw)); (try first | (exfalso; omega) | exact ⟨trivial, rfl⟩ | exact (hw hx).elim | exact (hw.2 hx).elim)))
  · refine ⟨⟨by omega, by omega, h2, by rw [p1]; exact h3, by rw [p1]; exact h4, by rw [p2]; exact h5, by omega⟩, by simp only [any.L0.mu]; omega, fun _ => ⟨trivial, ?_⟩, trivial⟩
    rw [show (n - i).toNat = (n - (i + 1)).toNat + 1 by omega]
    rfl
  · rw [show (n - i).toNat = 0 by omega]
    exact ⟨trivial, rfl⟩
theorem any.L0.lp   : LpAt Tryd.prog 14 0 any.L0 := lp_evalH (l := []) (lf := 1000) (fun _ => cfOf_ok (fns_cons put.fn (fns_nil _))) (lps_nil _ _) (by kernel_rfl) _ (any.L0.mu ) (fun ⟨r, u, z, n, g, i⟩ hx => Hid.of (any.L0.eq  r u z n g i) (any.L0.ok  r u z n g i hx))
noncomputable def any.L2  : LFace := ⟨[1, 2, 3, 5, 6, 8], [.p RAW, .box 28 [.un, .un, .un], .clo 33 [], .v (.int .i64), .box 28 [.row .str 9, .row .str 9, .row PR 53], .v (.int .i64)], fun (r, u, z, n, g, i) => some (0 ≤ i ∧ i ≤ 5 ∧ 1 ≤ n ∧ n ≤ 9 ∧ 1 ≤ g.1.length ∧ g.1.length ≤ 99 ∧ g.2.1.length ≤ 99 ∧ g.2.2.length ≤ 20 + i.toNat),
  [⟨.normal, [2, 6], [.box 28 [.un, .un, .un], .box 28 [.row .str 9, .row .str 9, .row PR 53]], fun (r, u, z, n, g, i) => (u, puts2 n i g ((r.2.2.2.2.1.take 5).drop i.toNat)), fun (r, u, z, n, g, i) => none⟩]⟩
noncomputable def any.L2.mu  : dens any.L2.sh → Nat := fun (r, u, z, n, g, i) => (5 - i).toNat
noncomputable def any.L2.g  (r : Int × Int × Int × Int × List (List Int) × ByteArray) (u : Unit × Unit × Unit) (z : Unit) (n : Int) (g : List ByteArray × List ByteArray × List (Int × List Int)) (i : Int) : Prop := GoodLA Tryd.prog (cfOf [within, put]) [] 1000 14 2 any.L2 any.L2.mu (r, u, z, n, g, i)
noncomputable def any.L2.q3 (r : Int × Int × Int × Int × List (List Int) × ByteArray) (i : Int) : Prop := (True ∧ List.length r.2.2.2.2.1 ≤ (9223372036854775807 : Nat)) ∧ decide (i < (↑(List.length r.2.2.2.2.1) : Int)) = true
noncomputable def any.L2.q0 (r : Int × Int × Int × Int × List (List Int) × ByteArray) (i : Int) : Prop := (((any.L2.q3 r i) ∧ decide (i < (5 : Int)) = true) ∧ (0 : Int) ≤ i ∧ i < (↑(List.length r.2.2.2.2.1) : Int)) ∧ (List.getD r.2.2.2.2.1 i.toNat []).length ≤ (9223372036854775807 : Nat)
noncomputable def any.L2.q1 (r : Int × Int × Int × Int × List (List Int) × ByteArray) (i : Int) : Prop := (((any.L2.q0 r i) ∧ decide ((↑(List.getD r.2.2.2.2.1 i.toNat []).length : Int) > (0 : Int)) = true) ∧ (0 : Int) ≤ i ∧ i < (↑(List.length r.2.2.2.2.1) : Int)) ∧ (0 : Int) ≤ (0 : Int) ∧ (0 : Int) < (↑(List.getD r.2.2.2.2.1 i.toNat []).length : Int)
noncomputable def any.L2.q2 (r : Int × Int × Int × Int × List (List Int) × ByteArray) (i : Int) : Prop := ((any.L2.q0 r i) ∧ decide ((↑(List.getD r.2.2.2.2.1 i.toNat []).length : Int) > (0 : Int)) = false) ∧ (0 : Int) ≤ i ∧ i < (↑(List.length r.2.2.2.2.1) : Int)
noncomputable def any.L2.T (r : Int × Int × Int × Int × List (List Int) × ByteArray) (u : Unit × Unit × Unit) (z : Unit) (n : Int) (g : List ByteArray × List ByteArray × List (Int × List Int)) (i : Int) : Prop := ((any.L2.q1 r i) ∧ ¬((0 : Int) ≤ i ∧ i < (↑(List.length r.2.2.2.2.1) : Int)) → False) ∧ (((any.L2.q1 r i) ∧ (0 : Int) ≤ i ∧ i < (↑(List.length r.2.2.2.2.1) : Int)) ∧ ¬((0 : Int) < n ∧ n ≤ (9223372036854775807 : Int)) → False) ∧ ((((any.L2.q1 r i) ∧ (0 : Int) ≤ i ∧ i < (↑(List.length r.2.2.2.2.1) : Int)) ∧ (0 : Int) < n ∧ n ≤ (9223372036854775807 : Int)) ∧ ¬((1 : Nat) ≤ List.length g.1 ∧ List.length g.1 ≤ (99 : Nat) ∧ List.length g.2.1 ≤ (99 : Nat) ∧ List.length g.2.2 ≤ (99 : Nat)) → False) ∧ ((((any.L2.q1 r i) ∧ (0 : Int) ≤ i ∧ i < (↑(List.length r.2.2.2.2.1) : Int)) ∧ (0 : Int) < n ∧ n ≤ (9223372036854775807 : Int)) ∧ (1 : Nat) ≤ List.length g.1 ∧ List.length g.1 ≤ (99 : Nat) ∧ List.length g.2.1 ≤ (99 : Nat) ∧ List.length g.2.2 ≤ (99 : Nat) → ((0 : Int) ≤ IntKind.i64.wrap (i + (1 : Int)) ∧ IntKind.i64.wrap (i + (1 : Int)) ≤ (5 : Int) ∧ (1 : Int) ≤ n ∧ n ≤ (9 : Int) ∧ (1 : Nat) ≤ List.length (putS g (IntKind.i64.wrap ((100 : Int) + IntKind.i64.wrap (((List.getD r.2.2.2.2.1 i.toNat []).getD (Int.toNat (0 : Int)) (0 : Int)).tdiv (16 : Int)) % n)) (List.getD r.2.2.2.2.1 i.toNat [])).1 ∧ List.length (putS g (IntKind.i64.wrap ((100 : Int) + IntKind.i64.wrap (((List.getD r.2.2.2.2.1 i.toNat []).getD (Int.toNat (0 : Int)) (0 : Int)).tdiv (16 : Int)) % n)) (List.getD r.2.2.2.2.1 i.toNat [])).1 ≤ (99 : Nat) ∧ List.length (putS g (IntKind.i64.wrap ((100 : Int) + IntKind.i64.wrap (((List.getD r.2.2.2.2.1 i.toNat []).getD (Int.toNat (0 : Int)) (0 : Int)).tdiv (16 : Int)) % n)) (List.getD r.2.2.2.2.1 i.toNat [])).2.1 ≤ (99 : Nat) ∧ List.length (putS g (IntKind.i64.wrap ((100 : Int) + IntKind.i64.wrap (((List.getD r.2.2.2.2.1 i.toNat []).getD (Int.toNat (0 : Int)) (0 : Int)).tdiv (16 : Int)) % n)) (List.getD r.2.2.2.2.1 i.toNat [])).2.2 ≤ (20 : Nat) + (IntKind.i64.wrap (i + (1 : Int))).toNat) ∧ any.L2.mu (r, ((), (), ()), (), n, putS g (IntKind.i64.wrap ((100 : Int) + IntKind.i64.wrap (((List.getD r.2.2.2.2.1 i.toNat []).getD (Int.toNat (0 : Int)) (0 : Int)).tdiv (16 : Int)) % n)) (List.getD r.2.2.2.2.1 i.toNat []), IntKind.i64.wrap (i + (1 : Int))) < any.L2.mu (r, u, z, n, g, i) ∧ (True → True ∧ (((), (), ()), puts2 n (IntKind.i64.wrap (i + (1 : Int))) (putS g (IntKind.i64.wrap ((100 : Int) + IntKind.i64.wrap (((List.getD r.2.2.2.2.1 i.toNat []).getD (Int.toNat (0 : Int)) (0 : Int)).tdiv (16 : Int)) % n)) (List.getD r.2.2.2.2.1 i.toNat [])) (List.drop (IntKind.i64.wrap (i + (1 : Int))).toNat (List.take (5 : Nat) r.2.2.2.2.1))) = (u, puts2 n i g (List.drop i.toNat (List.take (5 : Nat) r.2.2.2.2.1)))) ∧ True) ∧ ((((any.L2.q0 r i) ∧ decide ((↑(List.getD r.2.2.2.2.1 i.toNat []).length : Int) > (0 : Int)) = true) ∧ (0 : Int) ≤ i ∧ i < (↑(List.length r.2.2.2.2.1) : Int)) ∧ ¬((0 : Int) ≤ (0 : Int) ∧ (0 : Int) < (↑(List.getD r.2.2.2.2.1 i.toNat []).length : Int)) → False) ∧ (((any.L2.q0 r i) ∧ decide ((↑(List.getD r.2.2.2.2.1 i.toNat []).length : Int) > (0 : Int)) = true) ∧ ¬((0 : Int) ≤ i ∧ i < (↑(List.length r.2.2.2.2.1) : Int)) → False) ∧ (((any.L2.q0 r i) ∧ decide ((↑(List.getD r.2.2.2.2.1 i.toNat []).length : Int) > (0 : Int)) = false) ∧ ¬((0 : Int) ≤ i ∧ i < (↑(List.length r.2.2.2.2.1) : Int)) → False) ∧ ((any.L2.q2 r i) ∧ ¬((0 : Int) < n ∧ n ≤ (9223372036854775807 : Int)) → False) ∧ (((any.L2.q2 r i) ∧ (0 : Int) < n ∧ n ≤ (9223372036854775807 : Int)) ∧ ¬((1 : Nat) ≤ List.length g.1 ∧ List.length g.1 ≤ (99 : Nat) ∧ List.length g.2.1 ≤ (99 : Nat) ∧ List.length g.2.2 ≤ (99 : Nat)) → False) ∧ (((any.L2.q2 r i) ∧ (0 : Int) < n ∧ n ≤ (9223372036854775807 : Int)) ∧ (1 : Nat) ≤ List.length g.1 ∧ List.length g.1 ≤ (99 : Nat) ∧ List.length g.2.1 ≤ (99 : Nat) ∧ List.length g.2.2 ≤ (99 : Nat) → ((0 : Int) ≤ IntKind.i64.wrap (i + (1 : Int)) ∧ IntKind.i64.wrap (i + (1 : Int)) ≤ (5 : Int) ∧ (1 : Int) ≤ n ∧ n ≤ (9 : Int) ∧ (1 : Nat) ≤ List.length (putS g (IntKind.i64.wrap ((100 : Int) + i % n)) (List.getD r.2.2.2.2.1 i.toNat [])).1 ∧ List.length (putS g (IntKind.i64.wrap ((100 : Int) + i % n)) (List.getD r.2.2.2.2.1 i.toNat [])).1 ≤ (99 : Nat) ∧ List.length (putS g (IntKind.i64.wrap ((100 : Int) + i % n)) (List.getD r.2.2.2.2.1 i.toNat [])).2.1 ≤ (99 : Nat) ∧ List.length (putS g (IntKind.i64.wrap ((100 : Int) + i % n)) (List.getD r.2.2.2.2.1 i.toNat [])).2.2 ≤ (20 : Nat) + (IntKind.i64.wrap (i + (1 : Int))).toNat) ∧ any.L2.mu (r, ((), (), ()), (), n, putS g (IntKind.i64.wrap ((100 : Int) + i % n)) (List.getD r.2.2.2.2.1 i.toNat []), IntKind.i64.wrap (i + (1 : Int))) < any.L2.mu (r, u, z, n, g, i) ∧ (True → True ∧ (((), (), ()), puts2 n (IntKind.i64.wrap (i + (1 : Int))) (putS g (IntKind.i64.wrap ((100 : Int) + i % n)) (List.getD r.2.2.2.2.1 i.toNat [])) (List.drop (IntKind.i64.wrap (i + (1 : Int))).toNat (List.take (5 : Nat) r.2.2.2.2.1))) = (u, puts2 n i g (List.drop i.toNat (List.take (5 : Nat) r.2.2.2.2.1)))) ∧ True) ∧ (((any.L2.q3 r i) ∧ decide (i < (5 : Int)) = true) ∧ ¬((0 : Int) ≤ i ∧ i < (↑(List.length r.2.2.2.2.1) : Int)) → False) ∧ ((any.L2.q3 r i) ∧ decide (i < (5 : Int)) = false → True ∧ (((), (), ()), g) = (u, puts2 n i g (List.drop i.toNat (List.take (5 : Nat) r.2.2.2.2.1)))) ∧ ((True ∧ List.length r.2.2.2.2.1 ≤ (9223372036854775807 : Nat)) ∧ decide (i < (↑(List.length r.2.2.2.2.1) : Int)) = false → True ∧ (((), (), ()), g) = (u, puts2 n i g (List.drop i.toNat (List.take (5 : Nat) r.2.2.2.2.1)))) ∧ (True)
theorem any.L2.eq  (r : Int × Int × Int × Int × List (List Int) × ByteArray) (u : Unit × Unit × Unit) (z : Unit) (n : Int) (g : List ByteArray × List ByteArray × List (Int × List Int)) (i : Int) : any.L2.g  r u z n g i = any.L2.T  r u z n g i := by kernel_rfl
theorem any.L2.ok  (r : Int × Int × Int × Int × List (List Int) × ByteArray) (u : Unit × Unit × Unit) (z : Unit) (n : Int) (g : List ByteArray × List ByteArray × List (Int × List Int)) (i : Int) (hx : 0 ≤ i ∧ i ≤ 5 ∧ 1 ≤ n ∧ n ≤ 9 ∧ 1 ≤ g.1.length ∧ g.1.length ≤ 99 ∧ g.2.1.length ≤ 99 ∧ g.2.2.length ≤ 20 + i.toNat) : any.L2.T  r u z n g i := by
  obtain ⟨h0, h1, hn, h2, h3, h4, h5, h6⟩ := hx
  delta any.L2.T any.L2.q3 any.L2.q0 any.L2.q1 any.L2.q2
  rw [wrapI64 (x := i + 1) (by omega) (by omega)]
  have hD : i < 5 → i < (r.2.2.2.2.1.length : Int) → (r.2.2.2.2.1.take 5).drop i.toNat = r.2.2.2.2.1.getD i.toNat [] :: (r.2.2.2.2.1.take 5).drop (i + 1).toNat := fun ha hb => by
    rw [drop_int [] h0 (by simp; omega), take_getD (by omega)]
  have hL : ∀ v : Int, IntKind.i64.wrap (100 + v % n) = 100 + v % n := fun v => by
    have := Int.emod_nonneg v (show n ≠ 0 by omega)
    have := Int.emod_lt_of_pos v (show 0 < n by omega)
    exact wrapI64 (by omega) (by omega)
  simp only [hL]
  have hP := fun l => putS_len g (100 + l % n) (r.2.2.2.2.1.getD i.toNat [])
  ((repeat' (first | exact trivial | apply And.intro)) <;> (intro hw; (try (simp only [zP, reduceCtorEq] at hw)); (try first | (exfalso; omega) | exact ⟨trivial, rfl⟩ | exact (hw hx).elim | exact (hw.2 hx).elim)))
  · obtain ⟨p1, p2, p3⟩ := hP (IntKind.i64.wrap (((r.2.2.2.2.1.getD i.toNat []).getD (Int.toNat 0) 0).tdiv 16))
    rw [hD (by omega) (by omega), puts2, leftS, if_pos (by omega)]
    refine ⟨⟨by omega, by omega, hn, h2, by rw [p1]; exact h3, by rw [p1]; exact h4, by rw [p2]; exact h5, by omega⟩, by simp only [any.L2.mu]; omega, fun _ => ⟨trivial, rfl⟩, trivial⟩
  · obtain ⟨p1, p2, p3⟩ := hP i
    rw [hD (by omega) (by omega), puts2, leftS, if_neg (by omega)]
    refine ⟨⟨by omega, by omega, hn, h2, by rw [p1]; exact h3, by rw [p1]; exact h4, by rw [p2]; exact h5, by omega⟩, by simp only [any.L2.mu]; omega, fun _ => ⟨trivial, rfl⟩, trivial⟩
  all_goals
    rw [List.drop_eq_nil_of_le (by simp; omega), puts2]
    exact ⟨trivial, rfl⟩
theorem any.L2.lp   : LpAt Tryd.prog 14 2 any.L2 := lp_evalH (l := []) (lf := 1000) (fun _ => cfOf_ok (fns_cons within.fn (fns_cons put.fn (fns_nil _)))) (lps_nil _ _) (by kernel_rfl) _ (any.L2.mu ) (fun ⟨r, u, z, n, g, i⟩ hx => Hid.of (any.L2.eq  r u z n g i) (any.L2.ok  r u z n g i hx))
def bA : ByteArray := ⟨#[97]⟩
def bB : ByteArray := ⟨#[98]⟩
def bC : ByteArray := ⟨#[99]⟩
def bS : ByteArray := ⟨#[83]⟩
def bUA : ByteArray := ⟨#[65]⟩
def bUB : ByteArray := ⟨#[66]⟩
abbrev Raw : Type := Int × Int × Int × Int × List (List Int) × ByteArray
def anyS (r : Raw) : Gr := puts2 (1 + r.2.2.1 % 3) 0 (puts1 (1 + r.2.2.1 % 3).toNat 0 ([bA, bB, bC].take (1 + r.2.1 % 3).toNat, [bS, bUA, bUB].take (1 + r.2.2.1 % 3).toNat, [])) (r.2.2.2.2.1.take 5)
noncomputable def any.R3  : LFace := ⟨[1, 2, 3, 4, 5], [.p RAW, .box 28 [.un, .un, .un], .clo 33 [], .v (.int .i64), .v (.int .i64)], fun (r, u, z, t, n) => some (0 ≤ t ∧ t ≤ 3 ∧ 0 ≤ n ∧ n ≤ 3),
  [⟨.normal, [1, 2, 3, 5, 6], [.p RAW, .box 28 [.un, .un, .un], .clo 33 [], .v (.int .i64), .box 28 [.v (.sl .str), .v (.sl .str), .row PR 53]], fun (r, u, z, t, n) => (r, u, z, n, [bA, bB, bC].take t.toNat, [bS, bUA, bUB].take n.toNat, []), fun (r, u, z, t, n) => none⟩]⟩
noncomputable def any.R3.g  (r : Int × Int × Int × Int × List (List Int) × ByteArray) (u : Unit × Unit × Unit) (z : Unit) (t : Int) (n : Int) : Prop := GoodPA Tryd.prog (cfOf []) [] 1000 14 1000003 any.R3 (r, u, z, t, n)
noncomputable def any.R3.q0 (r : Int × Int × Int × Int × List (List Int) × ByteArray) (u : Unit × Unit × Unit) (t : Int) (n : Int) : Prop := (True ∧ (0 : Int) ≤ (0 : Int) ∧ (0 : Int) ≤ t ∧ t ≤ (↑(3 : Nat) : Int)) ∧ (0 : Int) ≤ (0 : Int) ∧ (0 : Int) ≤ n ∧ n ≤ (↑(3 : Nat) : Int) → True ∧ (r, ((), (), ()), (), n, List.drop (Int.toNat (0 : Int)) (List.take t.toNat [ByteArray.mk #[(97 : UInt8)], ByteArray.mk #[(98 : UInt8)], ByteArray.mk #[(99 : UInt8)]]), List.drop (Int.toNat (0 : Int)) (List.take n.toNat [ByteArray.mk #[(83 : UInt8)], ByteArray.mk #[(65 : UInt8)], ByteArray.mk #[(66 : UInt8)]]), ([] : List (Int × List Int))) = (r, u, (), n, List.take t.toNat [bA, bB, bC], List.take n.toNat [bS, bUA, bUB], ([] : List (Int × List Int)))
noncomputable def any.R3.q1 (r : Int × Int × Int × Int × List (List Int) × ByteArray) (u : Unit × Unit × Unit) (t : Int) (n : Int) : Prop := (True ∧ (0 : Int) ≤ (0 : Int) ∧ (0 : Int) ≤ n ∧ n ≤ (↑(3 : Nat) : Int)) ∧ (0 : Int) ≤ (0 : Int) ∧ (0 : Int) ≤ t ∧ t ≤ (↑(3 : Nat) : Int) → True ∧ (r, ((), (), ()), (), n, List.drop (Int.toNat (0 : Int)) (List.take t.toNat [ByteArray.mk #[(97 : UInt8)], ByteArray.mk #[(98 : UInt8)], ByteArray.mk #[(99 : UInt8)]]), List.drop (Int.toNat (0 : Int)) (List.take n.toNat [ByteArray.mk #[(83 : UInt8)], ByteArray.mk #[(65 : UInt8)], ByteArray.mk #[(66 : UInt8)]]), ([] : List (Int × List Int))) = (r, u, (), n, List.take t.toNat [bA, bB, bC], List.take n.toNat [bS, bUA, bUB], ([] : List (Int × List Int)))
noncomputable def any.R3.q2 (t : Int) (n : Int) : Prop := (True ∧ (0 : Int) ≤ (0 : Int) ∧ (0 : Int) ≤ t ∧ t ≤ (↑(3 : Nat) : Int)) ∧ ¬((0 : Int) ≤ (0 : Int) ∧ (0 : Int) ≤ n ∧ n ≤ (↑(3 : Nat) : Int)) → False
noncomputable def any.R3.q3 (t : Int) (n : Int) : Prop := (True ∧ (0 : Int) ≤ (0 : Int) ∧ (0 : Int) ≤ n ∧ n ≤ (↑(3 : Nat) : Int)) ∧ ¬((0 : Int) ≤ (0 : Int) ∧ (0 : Int) ≤ t ∧ t ≤ (↑(3 : Nat) : Int)) → False
noncomputable def any.R3.q4 (t : Int) : Prop := True ∧ ¬((0 : Int) ≤ (0 : Int) ∧ (0 : Int) ≤ t ∧ t ≤ (↑(3 : Nat) : Int)) → False
noncomputable def any.R3.q5 (n : Int) : Prop := True ∧ ¬((0 : Int) ≤ (0 : Int) ∧ (0 : Int) ≤ n ∧ n ≤ (↑(3 : Nat) : Int)) → False
noncomputable def any.R3.T (r : Int × Int × Int × Int × List (List Int) × ByteArray) (u : Unit × Unit × Unit) (z : Unit) (t : Int) (n : Int) : Prop := (any.R3.q0 r u t n) ∧ (any.R3.q2 t n) ∧ (any.R3.q0 r u t n) ∧ (any.R3.q2 t n) ∧ (any.R3.q0 r u t n) ∧ (any.R3.q2 t n) ∧ (any.R3.q4 t) ∧ (any.R3.q0 r u t n) ∧ (any.R3.q2 t n) ∧ (any.R3.q0 r u t n) ∧ (any.R3.q2 t n) ∧ (any.R3.q4 t) ∧ (any.R3.q1 r u t n) ∧ (any.R3.q3 t n) ∧ (any.R3.q1 r u t n) ∧ (any.R3.q3 t n) ∧ (any.R3.q5 n) ∧ (any.R3.q0 r u t n) ∧ (any.R3.q2 t n) ∧ (any.R3.q4 t) ∧ (any.R3.q1 r u t n) ∧ (any.R3.q3 t n) ∧ (any.R3.q5 n) ∧ (any.R3.q0 r u t n) ∧ (any.R3.q2 t n) ∧ (any.R3.q4 t) ∧ (any.R3.q0 r u t n) ∧ (any.R3.q2 t n) ∧ (any.R3.q4 t) ∧ (any.R3.q1 r u t n) ∧ (any.R3.q3 t n) ∧ (any.R3.q5 n) ∧ (any.R3.q0 r u t n) ∧ (any.R3.q2 t n) ∧ (any.R3.q0 r u t n) ∧ (any.R3.q2 t n) ∧ (any.R3.q4 t) ∧ (any.R3.q1 r u t n) ∧ (any.R3.q3 t n) ∧ (any.R3.q1 r u t n) ∧ (any.R3.q3 t n) ∧ (any.R3.q5 n) ∧ (any.R3.q0 r u t n) ∧ (any.R3.q2 t n) ∧ (any.R3.q4 t) ∧ (any.R3.q1 r u t n) ∧ (any.R3.q3 t n) ∧ (any.R3.q5 n) ∧ (any.R3.q1 r u t n) ∧ (any.R3.q3 t n) ∧ (any.R3.q1 r u t n) ∧ (any.R3.q3 t n) ∧ (any.R3.q1 r u t n) ∧ (any.R3.q3 t n) ∧ (any.R3.q5 n) ∧ (any.R3.q0 r u t n) ∧ (any.R3.q2 t n) ∧ (any.R3.q4 t) ∧ (any.R3.q1 r u t n) ∧ (any.R3.q3 t n) ∧ (any.R3.q5 n) ∧ (any.R3.q1 r u t n) ∧ (any.R3.q3 t n) ∧ (any.R3.q5 n) ∧ (any.R3.q0 r u t n) ∧ (any.R3.q2 t n) ∧ (any.R3.q4 t) ∧ (any.R3.q0 r u t n) ∧ (any.R3.q2 t n) ∧ (any.R3.q4 t) ∧ (any.R3.q1 r u t n) ∧ (any.R3.q3 t n) ∧ (any.R3.q5 n) ∧ (any.R3.q0 r u t n) ∧ (any.R3.q2 t n) ∧ (any.R3.q4 t) ∧ (any.R3.q1 r u t n) ∧ (any.R3.q3 t n) ∧ (any.R3.q5 n) ∧ (any.R3.q1 r u t n) ∧ (any.R3.q3 t n) ∧ (any.R3.q5 n) ∧ (True)
theorem any.R3.eq  (r : Int × Int × Int × Int × List (List Int) × ByteArray) (u : Unit × Unit × Unit) (z : Unit) (t : Int) (n : Int) : any.R3.g  r u z t n = any.R3.T  r u z t n := by kernel_rfl
theorem any.R3.ok  (r : Int × Int × Int × Int × List (List Int) × ByteArray) (u : Unit × Unit × Unit) (z : Unit) (t : Int) (n : Int) (hx : 0 ≤ t ∧ t ≤ 3 ∧ 0 ≤ n ∧ n ≤ 3) : any.R3.T  r u z t n := by
  delta any.R3.T any.R3.q0 any.R3.q1 any.R3.q2 any.R3.q3 any.R3.q4 any.R3.q5
  obtain ⟨h1, h2, h3, h4⟩ := hx
  ((repeat' (first | exact trivial | apply And.intro)) <;> (intro hw; (try (simp only [zP, reduceCtorEq] at hw)); (try first | (exfalso; omega) | exact ⟨trivial, rfl⟩ | exact (hw hx).elim | exact (hw.2 hx).elim)))
theorem any.R3.lp   : LpAt Tryd.prog 14 1000003 any.R3 := pc_evalH (l := []) (lf := 1000) (fun _ => cfOf_ok (fns_nil _)) (lps_nil _ _) (by kernel_rfl) _ (fun ⟨r, u, z, t, n⟩ hx => Hid.of (any.R3.eq  r u z t n) (any.R3.ok  r u z t n hx))
theorem puts1_len : ∀ (n : Nat) (i : Int) (g : Gr), (puts1 n i g).1 = g.1 ∧ (puts1 n i g).2.1 = g.2.1 ∧ (puts1 n i g).2.2.length ≤ g.2.2.length + n
  | 0, _, g => ⟨rfl, rfl, Nat.le_refl _⟩
  | n + 1, i, g => by
    obtain ⟨h1, h2, h3⟩ := puts1_len n (i + 1) (putS g (100 + i) [i])
    obtain ⟨p1, p2, p3⟩ := putS_len g (100 + i) [i]
    exact ⟨h1.trans p1, h2.trans p2, by rw [puts1]; omega⟩
noncomputable def any  : Face := ⟨14, [.v RAW], fun r => none,
  [⟨false, [.st [.row .str 9, .row .str 9, .row PR 53]], fun r => anyS r, fun r => none⟩]⟩
noncomputable def any.g  (r : Int × Int × Int × Int × List (List Int) × ByteArray) : Prop := GoodFA Tryd.prog (cfOf [within]) [(1000003, any.R3), (0, any.L0), (2, any.L2)] 1000 any r
noncomputable def any.q3 : Prop := (True ∧ (0 : Int) < (3 : Int) ∧ (3 : Int) ≤ (9223372036854775807 : Int)) ∧ (0 : Int) < (3 : Int) ∧ (3 : Int) ≤ (9223372036854775807 : Int)
noncomputable def any.q0 (r : Int × Int × Int × Int × List (List Int) × ByteArray) : Prop := any.q3 ∧ (0 : Int) ≤ IntKind.i64.wrap ((1 : Int) + r.2.1 % (3 : Int)) ∧ IntKind.i64.wrap ((1 : Int) + r.2.1 % (3 : Int)) ≤ (3 : Int) ∧ (0 : Int) ≤ IntKind.i64.wrap ((1 : Int) + r.2.2.1 % (3 : Int)) ∧ IntKind.i64.wrap ((1 : Int) + r.2.2.1 % (3 : Int)) ≤ (3 : Int)
noncomputable def any.q4 (r : Int × Int × Int × Int × List (List Int) × ByteArray) : Prop := (any.q0 r) ∧ (List.take (IntKind.i64.wrap ((1 : Int) + r.2.1 % (3 : Int))).toNat [bA, bB, bC]).length * (16 : Nat) ≤ (140737488355328 : Nat)
noncomputable def any.q2 (r : Int × Int × Int × Int × List (List Int) × ByteArray) : Prop := (any.q4 r) ∧ (List.take (IntKind.i64.wrap ((1 : Int) + r.2.2.1 % (3 : Int))).toNat [bS, bUA, bUB]).length * (16 : Nat) ≤ (140737488355328 : Nat)
noncomputable def any.q1 (r : Int × Int × Int × Int × List (List Int) × ByteArray) : Prop := (any.q2 r) ∧ (0 : Int) ≤ (0 : Int) ∧ (0 : Int) ≤ IntKind.i64.wrap ((1 : Int) + r.2.2.1 % (3 : Int)) ∧ IntKind.i64.wrap ((1 : Int) + r.2.2.1 % (3 : Int)) ≤ (9 : Int) ∧ (1 : Nat) ≤ (List.take (IntKind.i64.wrap ((1 : Int) + r.2.1 % (3 : Int))).toNat [bA, bB, bC]).length ∧ (List.take (IntKind.i64.wrap ((1 : Int) + r.2.1 % (3 : Int))).toNat [bA, bB, bC]).length ≤ (99 : Nat) ∧ (List.take (IntKind.i64.wrap ((1 : Int) + r.2.2.1 % (3 : Int))).toNat [bS, bUA, bUB]).length ≤ (99 : Nat) ∧ (0 : Nat) ≤ Int.toNat (0 : Int)
noncomputable def any.T (r : Int × Int × Int × Int × List (List Int) × ByteArray) : Prop := (True ∧ ¬((0 : Int) < (3 : Int) ∧ (3 : Int) ≤ (9223372036854775807 : Int)) → False) ∧ ((True ∧ (0 : Int) < (3 : Int) ∧ (3 : Int) ≤ (9223372036854775807 : Int)) ∧ ¬((0 : Int) < (3 : Int) ∧ (3 : Int) ≤ (9223372036854775807 : Int)) → False) ∧ (any.q3 ∧ ¬((0 : Int) ≤ IntKind.i64.wrap ((1 : Int) + r.2.1 % (3 : Int)) ∧ IntKind.i64.wrap ((1 : Int) + r.2.1 % (3 : Int)) ≤ (3 : Int) ∧ (0 : Int) ≤ IntKind.i64.wrap ((1 : Int) + r.2.2.1 % (3 : Int)) ∧ IntKind.i64.wrap ((1 : Int) + r.2.2.1 % (3 : Int)) ≤ (3 : Int)) → False) ∧ ((any.q2 r) ∧ ¬((0 : Int) ≤ (0 : Int) ∧ (0 : Int) ≤ IntKind.i64.wrap ((1 : Int) + r.2.2.1 % (3 : Int)) ∧ IntKind.i64.wrap ((1 : Int) + r.2.2.1 % (3 : Int)) ≤ (9 : Int) ∧ (1 : Nat) ≤ (List.take (IntKind.i64.wrap ((1 : Int) + r.2.1 % (3 : Int))).toNat [bA, bB, bC]).length ∧ (List.take (IntKind.i64.wrap ((1 : Int) + r.2.1 % (3 : Int))).toNat [bA, bB, bC]).length ≤ (99 : Nat) ∧ (List.take (IntKind.i64.wrap ((1 : Int) + r.2.2.1 % (3 : Int))).toNat [bS, bUA, bUB]).length ≤ (99 : Nat) ∧ (0 : Nat) ≤ Int.toNat (0 : Int)) → False) ∧ ((any.q1 r) ∧ ¬((0 : Int) ≤ (0 : Int) ∧ (0 : Int) ≤ (5 : Int) ∧ (1 : Int) ≤ IntKind.i64.wrap ((1 : Int) + r.2.2.1 % (3 : Int)) ∧ IntKind.i64.wrap ((1 : Int) + r.2.2.1 % (3 : Int)) ≤ (9 : Int) ∧ (1 : Nat) ≤ List.length (puts1 (IntKind.i64.wrap ((1 : Int) + r.2.2.1 % (3 : Int)) - (0 : Int)).toNat (0 : Int) (List.take (IntKind.i64.wrap ((1 : Int) + r.2.1 % (3 : Int))).toNat [bA, bB, bC], List.take (IntKind.i64.wrap ((1 : Int) + r.2.2.1 % (3 : Int))).toNat [bS, bUA, bUB], ([] : List (Int × List Int)))).1 ∧ List.length (puts1 (IntKind.i64.wrap ((1 : Int) + r.2.2.1 % (3 : Int)) - (0 : Int)).toNat (0 : Int) (List.take (IntKind.i64.wrap ((1 : Int) + r.2.1 % (3 : Int))).toNat [bA, bB, bC], List.take (IntKind.i64.wrap ((1 : Int) + r.2.2.1 % (3 : Int))).toNat [bS, bUA, bUB], ([] : List (Int × List Int)))).1 ≤ (99 : Nat) ∧ List.length (puts1 (IntKind.i64.wrap ((1 : Int) + r.2.2.1 % (3 : Int)) - (0 : Int)).toNat (0 : Int) (List.take (IntKind.i64.wrap ((1 : Int) + r.2.1 % (3 : Int))).toNat [bA, bB, bC], List.take (IntKind.i64.wrap ((1 : Int) + r.2.2.1 % (3 : Int))).toNat [bS, bUA, bUB], ([] : List (Int × List Int)))).2.1 ≤ (99 : Nat) ∧ List.length (puts1 (IntKind.i64.wrap ((1 : Int) + r.2.2.1 % (3 : Int)) - (0 : Int)).toNat (0 : Int) (List.take (IntKind.i64.wrap ((1 : Int) + r.2.1 % (3 : Int))).toNat [bA, bB, bC], List.take (IntKind.i64.wrap ((1 : Int) + r.2.2.1 % (3 : Int))).toNat [bS, bUA, bUB], ([] : List (Int × List Int)))).2.2 ≤ (20 : Nat) + Int.toNat (0 : Int)) → False) ∧ ((any.q1 r) ∧ (0 : Int) ≤ (0 : Int) ∧ (0 : Int) ≤ (5 : Int) ∧ (1 : Int) ≤ IntKind.i64.wrap ((1 : Int) + r.2.2.1 % (3 : Int)) ∧ IntKind.i64.wrap ((1 : Int) + r.2.2.1 % (3 : Int)) ≤ (9 : Int) ∧ (1 : Nat) ≤ List.length (puts1 (IntKind.i64.wrap ((1 : Int) + r.2.2.1 % (3 : Int)) - (0 : Int)).toNat (0 : Int) (List.take (IntKind.i64.wrap ((1 : Int) + r.2.1 % (3 : Int))).toNat [bA, bB, bC], List.take (IntKind.i64.wrap ((1 : Int) + r.2.2.1 % (3 : Int))).toNat [bS, bUA, bUB], ([] : List (Int × List Int)))).1 ∧ List.length (puts1 (IntKind.i64.wrap ((1 : Int) + r.2.2.1 % (3 : Int)) - (0 : Int)).toNat (0 : Int) (List.take (IntKind.i64.wrap ((1 : Int) + r.2.1 % (3 : Int))).toNat [bA, bB, bC], List.take (IntKind.i64.wrap ((1 : Int) + r.2.2.1 % (3 : Int))).toNat [bS, bUA, bUB], ([] : List (Int × List Int)))).1 ≤ (99 : Nat) ∧ List.length (puts1 (IntKind.i64.wrap ((1 : Int) + r.2.2.1 % (3 : Int)) - (0 : Int)).toNat (0 : Int) (List.take (IntKind.i64.wrap ((1 : Int) + r.2.1 % (3 : Int))).toNat [bA, bB, bC], List.take (IntKind.i64.wrap ((1 : Int) + r.2.2.1 % (3 : Int))).toNat [bS, bUA, bUB], ([] : List (Int × List Int)))).2.1 ≤ (99 : Nat) ∧ List.length (puts1 (IntKind.i64.wrap ((1 : Int) + r.2.2.1 % (3 : Int)) - (0 : Int)).toNat (0 : Int) (List.take (IntKind.i64.wrap ((1 : Int) + r.2.1 % (3 : Int))).toNat [bA, bB, bC], List.take (IntKind.i64.wrap ((1 : Int) + r.2.2.1 % (3 : Int))).toNat [bS, bUA, bUB], ([] : List (Int × List Int)))).2.2 ≤ (20 : Nat) + Int.toNat (0 : Int) → True ∧ puts2 (IntKind.i64.wrap ((1 : Int) + r.2.2.1 % (3 : Int))) (0 : Int) (puts1 (IntKind.i64.wrap ((1 : Int) + r.2.2.1 % (3 : Int)) - (0 : Int)).toNat (0 : Int) (List.take (IntKind.i64.wrap ((1 : Int) + r.2.1 % (3 : Int))).toNat [bA, bB, bC], List.take (IntKind.i64.wrap ((1 : Int) + r.2.2.1 % (3 : Int))).toNat [bS, bUA, bUB], ([] : List (Int × List Int)))) (List.drop (Int.toNat (0 : Int)) (List.take (5 : Nat) r.2.2.2.2.1)) = anyS r) ∧ ((any.q4 r) ∧ ¬(List.take (IntKind.i64.wrap ((1 : Int) + r.2.2.1 % (3 : Int))).toNat [bS, bUA, bUB]).length * (16 : Nat) ≤ (140737488355328 : Nat) → False) ∧ ((any.q0 r) ∧ ¬(List.take (IntKind.i64.wrap ((1 : Int) + r.2.1 % (3 : Int))).toNat [bA, bB, bC]).length * (16 : Nat) ≤ (140737488355328 : Nat) → False) ∧ (True)
theorem any.eq  (r : Int × Int × Int × Int × List (List Int) × ByteArray) : any.g  r = any.T  r := by kernel_rfl
theorem any.ok  (r : Int × Int × Int × Int × List (List Int) × ByteArray) : any.T  r := by
  have e1 := Int.emod_nonneg r.2.1 (show (3 : Int) ≠ 0 by omega)
  have e2 := Int.emod_lt_of_pos r.2.1 (show (0 : Int) < 3 by omega)
  have e3 := Int.emod_nonneg r.2.2.1 (show (3 : Int) ≠ 0 by omega)
  have e4 := Int.emod_lt_of_pos r.2.2.1 (show (0 : Int) < 3 by omega)
  delta any.T any.q3 any.q0 any.q4 any.q2 any.q1
  rw [wrapI64 (x := 1 + r.2.1 % 3) (by omega) (by omega), wrapI64 (x := 1 + r.2.2.1 % 3) (by omega) (by omega)]
  simp only [Int.sub_zero, show Int.toNat 0 = 0 from rfl, List.drop_zero]
  rw [anyS]
  have hT : ([bA, bB, bC].take (1 + r.2.1 % 3).toNat).length = (1 + r.2.1 % 3).toNat := by rw [List.length_take]; show min _ 3 = _; omega
  have hN : ([bS, bUA, bUB].take (1 + r.2.2.1 % 3).toNat).length = (1 + r.2.2.1 % 3).toNat := by rw [List.length_take]; show min _ 3 = _; omega
  obtain ⟨p1, p2, p3⟩ := puts1_len (1 + r.2.2.1 % 3).toNat 0 ([bA, bB, bC].take (1 + r.2.1 % 3).toNat, [bS, bUA, bUB].take (1 + r.2.2.1 % 3).toNat, [])
  rw [p1, p2]
  generalize puts1 (1 + r.2.2.1 % 3).toNat 0 ([bA, bB, bC].take (1 + r.2.1 % 3).toNat, [bS, bUA, bUB].take (1 + r.2.2.1 % 3).toNat, []) = g at *
  simp only [hT, hN, List.length_nil] at *
  ((repeat' (first | exact trivial | apply And.intro)) <;> (intro hw; (try (simp only [zP, reduceCtorEq] at hw)); (try first | (exfalso; omega) | exact ⟨trivial, rfl⟩ | exact (hw hx).elim | exact (hw.2 hx).elim)))
  exact ⟨trivial, trivial⟩
theorem any.fn   : FnOk Tryd.prog any := fn_evalH (l := [(1000003, any.R3), (0, any.L0), (2, any.L2)]) (lf := 1000) (fun _ => cfOf_ok (fns_cons within.fn (fns_nil _))) _ (lps_cons (any.R3.lp) (lps_cons (any.L0.lp) (lps_cons (any.L2.lp) (lps_nil _ _)))) (by kernel_rfl) (fun r hx => Hid.of (any.eq  r) (any.ok  r))
end Go.Proofs.YtajnboigikdefaaDoor.D

namespace Go.Proofs.YtajnboigikdefaaDoor.D
open Go Go.EV Go.Proofs
set_option linter.unusedVariables false
set_option linter.unusedSimpArgs false
set_option maxRecDepth 100000
theorem hI_0 (n : Int) : hI 0 n = false := by
  unfold hI; rw [show Int.toNat 0 = 0 from rfl, Nat.zero_testBit, Bool.and_false]
theorem badS_mono {tm : Bool} {s t : Int} (h : subS s t) {n : Int} (hb : badS tm t n = true) : badS tm s n = true := by
  unfold badS at *
  split
  · rename_i hn; rw [if_pos hn] at hb; exact hb
  · rename_i hn
    rw [if_neg hn] at hb
    cases hs : hI s (n - 100) with
    | false => rfl
    | true => rw [h _ hs] at hb; cases hb
theorem allT_mono {tm : Bool} {s t : Int} (h : subS s t) {l : List Int} (ha : allT tm s l = true) : allT tm t l = true := by
  unfold allT at *
  rw [Bool.not_eq_true', List.any_eq_false] at *
  intro n hn hb
  exact ha n hn (badS_mono h hb)
def closed (tm : Bool) (l : List (Int × List Int)) (t : Int) : Prop := ∀ p ∈ l, allT tm t p.2 = true → hI t (p.1 - 100) = true
theorem round_least (tm : Bool) {t : Int} : ∀ (l : List (Int × List Int)) (s : Int), closed tm l t → subS s t → subS (roundS tm l s) t
  | [], s, _, h => h
  | p :: r, s, hc, h => by
    rw [roundS]
    apply round_least tm r _ (fun q hq => hc q (List.mem_cons_of_mem _ hq))
    split
    · rename_i hs
      unfold canS at hs
      rw [Bool.and_eq_true] at hs
      have h1 := hc p (List.mem_cons_self ..) (allT_mono h hs.2)
      intro n hn
      rw [hI_wI, Bool.or_eq_true, decide_eq_true_eq] at hn
      rcases hn with hn | hn
      · exact h n hn
      · rw [hn.1]; exact h1
    · exact h
theorem fixN_least (tm : Bool) {l : List (Int × List Int)} {t : Int} (hc : closed tm l t) : ∀ (k : Nat) (s : Int), subS s t → subS (fixN tm l k s) t
  | 0, s, h => h
  | k + 1, s, h => by
    rw [fixN]; split
    · exact fixN_least tm hc k _ (round_least tm l s hc h)
    · exact h
theorem fixN_closed (tm : Bool) {l : List (Int × List Int)} (hl : okL l) : ∀ (k : Nat) (s : Int), missing s < k → closed tm l (fixN tm l k s)
  | 0, s, h => by omega
  | k + 1, s, h => by
    rw [fixN]; split
    · rename_i hb
      have := round_less tm l s hl hb
      exact fixN_closed tm hl k _ (by omega)
    · rename_i hb
      obtain ⟨h1, h2⟩ := round_same tm l s (by simpa using hb)
      intro p hp ha
      have := h2 p hp
      unfold canS at this
      rw [ha, Bool.and_true, Bool.not_eq_false'] at this
      exact this
theorem fixN_sub (tm : Bool) (l : List (Int × List Int)) : ∀ (k : Nat) (s : Int), subS s (fixN tm l k s)
  | 0, s => fun n h => h
  | k + 1, s => by
    rw [fixN]; split
    · exact fun n h => fixN_sub tm l k _ n (sub_round tm l s n h)
    · exact fun n h => h
theorem fixS_closed (tm : Bool) {l : List (Int × List Int)} (hl : okL l) (s : Int) : closed tm l (fixS tm l s) := fixN_closed tm hl _ s (Nat.lt_succ_self _)
theorem fixS_least (tm : Bool) {l : List (Int × List Int)} {t : Int} (hc : closed tm l t) : subS (fixS tm l 0) t := fixN_least tm hc _ 0 (fun n h => by rw [hI_0] at h; cases h)
def comes (l : List (Int × List Int)) (t : Int) : Prop := ∀ p ∈ l, hI t (p.1 - 100) = true → ∀ n ∈ p.2, 100 ≤ n → hI t (n - 100) = true
theorem comeL_least {left t : Int} : ∀ (l : List Int) (s : Int), (hI t (left - 100) = true → ∀ n ∈ l, 100 ≤ n → hI t (n - 100) = true) → subS s t → subS (comeL left l s) t
  | [], s, _, h => h
  | m :: r, s, hc, h => by
    rw [comeL]
    apply comeL_least r _ (fun hh n hn => hc hh n (List.mem_cons_of_mem _ hn))
    split
    · rename_i hs
      rw [Bool.and_eq_true, decide_eq_true_eq] at hs
      have h1 := hc (h _ hs.1) m (List.mem_cons_self ..) hs.2
      intro n hn
      rw [hI_wI, Bool.or_eq_true, decide_eq_true_eq] at hn
      rcases hn with hn | hn
      · exact h n hn
      · rw [hn.1]; exact h1
    · exact h
theorem comeR_least {t : Int} : ∀ (l : List (Int × List Int)) (s : Int), comes l t → subS s t → subS (comeR l s) t
  | [], s, _, h => h
  | p :: r, s, hc, h => comeR_least r _ (fun q hq => hc q (List.mem_cons_of_mem _ hq)) (comeL_least p.2 s (hc p (List.mem_cons_self ..)) h)
theorem comeL_same {left : Int} : ∀ (l : List Int) (s t : Int), subS (comeL left l s) t → subS s t → (∀ n ∈ l, 100 ≤ n → n < 164 → hI s (left - 100) = true → hI t (n - 100) = true)
  | [], s, t, _, _ => fun n hn => by simp at hn
  | m :: r, s, t, h, hs => fun n hn h1 h3 h2 => by
    rw [comeL] at h
    rcases List.mem_cons.1 hn with e | hn
    · subst e
      rw [if_pos (by rw [h2, decide_eq_true h1]; rfl)] at h
      exact h _ (comeL_sub left r _ _ (by rw [hI_wI, decide_eq_true (show n - 100 = n - 100 ∧ 0 ≤ n - 100 ∧ n - 100 < 64 from ⟨rfl, by omega, by omega⟩), Bool.or_true]))
    · have hle : subS s (if (hI s (left - 100) && decide (100 ≤ m)) = true then wI s (m - 100) else s) := by
        split
        · exact sub_w _ _
        · exact fun n h => h
      exact comeL_same r _ t h (fun k hk => h k (comeL_sub left r _ k hk)) n hn h1 h3 (hle _ h2)
def smallR (l : List (Int × List Int)) : Prop := ∀ p ∈ l, ∀ n ∈ p.2, n < 164
theorem comeR_same : ∀ (l : List (Int × List Int)) (s t : Int), smallR l → subS (comeR l s) t → subS t s → comes l t
  | [], s, t, _, _, _ => fun p hp => by simp at hp
  | q :: r, s, t, hm, h, ht => fun p hp hl n hn h1 => by
    rw [comeR] at h
    have h2 : subS (comeL q.1 q.2 s) t := fun k hk => h k (comeR_sub r _ k hk)
    have h3 : subS s t := fun k hk => h2 k (comeL_sub q.1 q.2 s k hk)
    rcases List.mem_cons.1 hp with e | hp
    · subst e
      exact comeL_same p.2 s t h2 h3 n hn h1 (hm p (List.mem_cons_self ..) n hn) (ht _ hl)
    · exact comeR_same r (comeL q.1 q.2 s) t (fun p hp => hm p (List.mem_cons_of_mem _ hp)) h (fun k hk => comeL_sub q.1 q.2 s k (ht k hk)) p hp hl n hn h1
theorem comeN_closed {l : List (Int × List Int)} (hm : smallR l) : ∀ (k : Nat) (s : Int), okU s → missing s < k → comes l (comeN l k s)
  | 0, s, _, h => by omega
  | k + 1, s, hu, h => by
    rw [comeN]; split
    · rename_i e
      exact comeR_same l s s hm (by rw [e]; exact fun n h => h) (fun n h => h)
    · rename_i e
      have := missing_lt hu (comeR_ok l hu) (comeR_sub l s) (fun h => e h.symm)
      exact comeN_closed hm k _ (comeR_ok l hu) (by omega)
theorem comeN_sub (l : List (Int × List Int)) : ∀ (k : Nat) (s : Int), subS s (comeN l k s)
  | 0, s => fun n h => h
  | k + 1, s => by
    rw [comeN]; split
    · exact fun n h => h
    · exact fun n h => comeN_sub l k _ n (comeR_sub l s n h)
theorem comeN_least {l : List (Int × List Int)} {t : Int} (hc : comes l t) : ∀ (k : Nat) (s : Int), subS s t → subS (comeN l k s) t
  | 0, s, h => h
  | k + 1, s, h => by
    rw [comeN]; split
    · exact h
    · exact comeN_least hc k _ (comeR_least l s hc h)
theorem hI_ofI : ∀ (l : List Int) (s n : Int), hI (ofI l s) n = (hI s n || decide (n ∈ l ∧ 0 ≤ n ∧ n < 64))
  | [], s, n => by rw [ofI, decide_eq_false (fun h => by simp at h), Bool.or_false]
  | a :: r, s, n => by
    rw [ofI, hI_ofI r, hI_wI, Bool.or_assoc]
    congr 1
    rw [Bool.eq_iff_iff, Bool.or_eq_true, decide_eq_true_eq, decide_eq_true_eq, decide_eq_true_eq, List.mem_cons]
    constructor
    · rintro (⟨h1, h2⟩ | ⟨h1, h2⟩)
      · exact ⟨.inl h1, by omega⟩
      · exact ⟨.inr h1, h2⟩
    · rintro ⟨h1 | h1, h2⟩
      · exact .inl ⟨h1, by omega⟩
      · exact .inr ⟨h1, h2⟩
theorem lI_zero {s t : Int} (hs : okU s) (ht : okU t) : (lI s t = 0) ↔ subS s t := by
  have hb : ∀ i, (XW.lessN s.toNat t.toNat).testBit i = (s.toNat.testBit i && !t.toNat.testBit i) := fun i => XW.lessN_testBit _ _ i (okU_nat hs).2 (okU_nat ht).2
  unfold lI
  constructor
  · intro h n hn
    have h0 : XW.lessN s.toNat t.toNat = 0 := by omega
    have := hb n.toNat
    rw [h0, Nat.zero_testBit] at this
    unfold hI at hn ⊢
    rw [Bool.and_eq_true] at hn
    rw [hn.2, Bool.true_and] at this
    rw [hn.1, Bool.true_and]
    cases ht : t.toNat.testBit n.toNat with
    | true => rfl
    | false => rw [ht] at this; cases this
  · intro h
    have h0 : XW.lessN s.toNat t.toNat = 0 := by
      apply Nat.eq_of_testBit_eq
      intro i
      rw [hb, Nat.zero_testBit]
      cases hs1 : s.toNat.testBit i with
      | false => rfl
      | true =>
        have hi : i < 64 := by
          rcases Nat.lt_or_ge i 64 with h6 | h6
          · exact h6
          · rw [Nat.testBit_lt_two_pow] at hs1
            · cases hs1
            · exact Nat.lt_of_lt_of_le (okU_nat hs).2 (Nat.le_trans (by decide) (Nat.pow_le_pow_right (show 0 < 2 by decide) h6))
        have := h (i : Int)
        unfold hI at this
        rw [decide_eq_true (show (0 : Int) ≤ i ∧ (i : Int) < 64 by omega), Bool.true_and, Bool.true_and, Int.toNat_natCast] at this
        rw [this hs1]; rfl
    rw [h0]; rfl
theorem trimL_mem (s : Int) : ∀ (l : List (Int × List Int)) (k i : Int), i ∈ trimL s k l ↔ (k ≤ i ∧ i < k + l.length ∧ (hI s ((l.getD (i - k).toNat (0, [])).1 - 100) && allT true s (l.getD (i - k).toNat (0, [])).2) = true)
  | [], k, i => by
    simp only [trimL, List.length_nil]
    constructor
    · intro h; simp at h
    · rintro ⟨h1, h2, _⟩; omega
  | p :: r, k, i => by
    have ih := trimL_mem s r (k + 1) i
    have hg : k + 1 ≤ i → (p :: r).getD (i - k).toNat (0, []) = r.getD (i - (k + 1)).toNat (0, []) := fun h => by
      rw [show (i - k).toNat = (i - (k + 1)).toNat + 1 by omega, List.getD_cons_succ]
    have h0 : i = k → (p :: r).getD (i - k).toNat (0, []) = p := fun h => by
      rw [show (i - k).toNat = 0 by omega]; rfl
    rw [trimL]
    simp only [List.length_cons]
    split
    · rename_i hc
      rw [List.mem_cons, ih]
      constructor
      · rintro (h | ⟨h1, h2, h3⟩)
        · rw [h0 h]; exact ⟨by omega, by omega, hc⟩
        · rw [hg h1]; exact ⟨by omega, by omega, h3⟩
      · rintro ⟨h1, h2, h3⟩
        by_cases e : i = k
        · exact .inl e
        · right; rw [hg (by omega)] at h3; exact ⟨by omega, by omega, h3⟩
    · rename_i hc
      rw [ih]
      constructor
      · rintro ⟨h1, h2, h3⟩
        rw [hg h1]; exact ⟨by omega, by omega, h3⟩
      · rintro ⟨h1, h2, h3⟩
        by_cases e : i = k
        · rw [h0 e] at h3; exact absurd h3 hc
        · rw [hg (by omega)] at h3; exact ⟨by omega, by omega, h3⟩
end Go.Proofs.YtajnboigikdefaaDoor.D
