/- Texts that the proof of a law rests on, put together: part 51. -/
import Derived.Test.YtajnboigikdefaaDoorFg50
import Derived.Test.YtajnboigikdefaaDoorProg
namespace Go.Proofs.YtajnboigikdefaaDoor.D
open Go Go.EV Go.Proofs
set_option linter.unusedVariables false
set_option linter.unusedSimpArgs false
set_option maxRecDepth 100000
noncomputable def wakes06 : Face := ⟨37, [], fun _ => none, [⟨false, [.v .bool], fun _ => true, fun _ => none⟩]⟩
theorem wakes06.fn : FnOk Tryd.prog wakes06 := fn_at fun s _ => hok_at E.hWakes060_ok wakes06 () _ [⟨.bool, true⟩] (List.mem_singleton_self _) (by kernel_rfl) (by kernel_rfl) (by kernel_rfl) (by kernel_rfl) (by kernel_rfl) (by kernel_rfl) (by kernel_rfl) (by kernel_rfl) (outIs_of rfl rfl (dec_cons (by kernel_rfl) (dec_nil _))) (by kernel_rfl)
def fH (t : Tab) : List Int → Int → Bool
  | [], n => decide (n = 0)
  | m :: r, n => (hI (oneS t m) n && !(decide (n = 0))) || (hI (oneS t m) 0 && fH t r n)
theorem hI_ofL {t : Tab} (ht : okTab t) {al : List Int} (hw : wordsS t al = true) (n : Int) : ∀ (l : List Int) (o : Int), okU o → (∀ m ∈ l, oneS t m ≠ 0) → hI (ofL t al l o) n = (hI o n || fH t l n)
  | [], o, ho, _ => by rw [ofL, hI_jI, hI_end, fH]
  | m :: r, o, ho, hl => by
    have h1 := hl m (List.mem_cons_self ..)
    have hu := okU_one ht m
    have ih := hI_ofL ht hw n r (jI o (lI (oneS t m) endS)) (okU_j ho (okU_l hu)) (fun q hq => hl q (List.mem_cons_of_mem _ hq))
    rw [ofL, if_neg h1, fH]
    by_cases h2 : hI (oneS t m) 0 = true
    · rw [if_pos h2, ih, hI_jI, hI_lI hu okU_end, hI_end, h2, Bool.true_and, Bool.or_assoc]
    · rw [Bool.not_eq_true] at h2
      rw [h2, if_neg Bool.false_ne_true, if_pos hw, hI_jI, hI_lI hu okU_end, hI_end, Bool.false_and, Bool.or_false]
theorem words_of {t : Tab} {l : List Int} (h : ∀ m ∈ l, oneS t m ≠ 0) : wordsS t l = true := by
  rw [wordsS, List.all_eq_true]
  exact fun m hm => decide_eq_true (h m hm)
theorem hI_ofS {t : Tab} (ht : okTab t) {l : List Int} (h : ∀ m ∈ l, oneS t m ≠ 0) (n : Int) : hI (ofS t l) n = fH t l n := by
  rw [ofS, hI_ofL ht (words_of h) n l 0 okU_0 h, hI_0, Bool.false_or]
theorem trim_06 {g : Gr} (hc : checkB g = true) (h : ¬ (trimS g).2 = 0) : (trimS g).2 = 6 := by
  rw [trimS, if_pos hc] at h ⊢
  split
  · rename_i h1; rw [if_pos h1] at h; exact absurd rfl h
  · rfl
theorem newS_ok {g : Gr} (hc : checkB g = true) (ho : okG g) : okTab (newS g) ∧ (newS g).1.length = g.2.1.length := by
  obtain ⟨p1, p2⟩ := trim_pl hc ho
  have ht := okTab_0 ho.1.1 ho.1.2
  have hpl : okPl g (List.replicate g.2.1.length (0 : Int)).length (trimS g).1 := by rw [List.length_replicate]; exact p1
  have := newN_ok (g := g) (tm := (g.1.length : Int)) (ks := (trimS g).1) (sumM (List.replicate g.2.1.length 0) + 1) _ hpl ht
  rw [List.length_replicate] at this
  exact this
end Go.Proofs.YtajnboigikdefaaDoor.D

namespace Go.Proofs.YtajnboigikdefaaDoor.D
open Go Go.EV Go.Proofs
set_option linter.unusedVariables false
set_option linter.unusedSimpArgs false
set_option maxRecDepth 100000
theorem memB_nil (s : ByteArray) : memB s [] = false := rfl
noncomputable def ckT2  : LFace := ⟨[1, 4, 55, 56, 57, 73, 74, 75], [.p GR, .v .str, .v (.sl .str), .v (.int .i64), .v (.int .i64), .v (.sl .str), .v (.int .i64), .v (.int .i64)], fun (g, s, al, m, j, l, n, i) => some (n = l.length ∧ 0 ≤ i ∧ i ≤ n ∧ l.length ≤ 9223372036854775807),
  [⟨.normal, [1, 55, 56, 57], [.p GR, .v (.sl .str), .v (.int .i64), .v (.int .i64)], fun (g, s, al, m, j, l, n, i) => (g, al, m, j), fun (g, s, al, m, j, l, n, i) => some (memB s (l.drop i.toNat) = false)⟩,
   ⟨.ret, [2], [.v .bool], fun (g, s, al, m, j, l, n, i) => false, fun (g, s, al, m, j, l, n, i) => some (memB s (l.drop i.toNat) = true)⟩]⟩
noncomputable def ckT2.mu  : dens ckT2.sh → Nat := fun (g, s, al, m, j, l, n, i) => (n - i).toNat
noncomputable def ckT2.g  (g : List ByteArray × List ByteArray × List (Int × List Int)) (s : ByteArray) (al : List ByteArray) (m : Int) (j : Int) (l : List ByteArray) (n : Int) (i : Int) : Prop := GoodLA Tryd.prog (cfOf []) [] 1000 24 2 ckT2 ckT2.mu (g, s, al, m, j, l, n, i)
noncomputable def ckT2.T (g : List ByteArray × List ByteArray × List (Int × List Int)) (s : ByteArray) (al : List ByteArray) (m : Int) (j : Int) (l : List ByteArray) (n : Int) (i : Int) : Prop := (((True ∧ decide (i < n) = true) ∧ (0 : Int) ≤ i ∧ i < (↑l.length : Int)) ∧ (s.toList == (l.getD i.toNat ByteArray.empty).toList) = true → memB s (List.drop i.toNat l) = true ∧ false = false) ∧ (((True ∧ decide (i < n) = true) ∧ (0 : Int) ≤ i ∧ i < (↑l.length : Int)) ∧ (s.toList == (l.getD i.toNat ByteArray.empty).toList) = false →
  (n = (↑l.length : Int) ∧ (0 : Int) ≤ IntKind.i64.wrap (i + (1 : Int)) ∧ IntKind.i64.wrap (i + (1 : Int)) ≤ n ∧ l.length ≤ (9223372036854775807 : Nat)) ∧ ckT2.mu (g, s, al, m, j, l, n, IntKind.i64.wrap (i + (1 : Int))) < ckT2.mu (g, s, al, m, j, l, n, i) ∧ (memB s (List.drop (IntKind.i64.wrap (i + (1 : Int))).toNat l) = false → memB s (List.drop i.toNat l) = false ∧ (g, al, m, j) = (g, al, m, j)) ∧ (memB s (List.drop (IntKind.i64.wrap (i + (1 : Int))).toNat l) = true → memB s (List.drop i.toNat l) = true ∧ false = false) ∧ True) ∧ ((True ∧ decide (i < n) = true) ∧ ¬((0 : Int) ≤ i ∧ i < (↑l.length : Int)) → False) ∧ (True ∧ decide (i < n) = false → memB s (List.drop i.toNat l) = false ∧ (g, al, m, j) = (g, al, m, j)) ∧ (True)
theorem ckT2.eq  (g : List ByteArray × List ByteArray × List (Int × List Int)) (s : ByteArray) (al : List ByteArray) (m : Int) (j : Int) (l : List ByteArray) (n : Int) (i : Int) : ckT2.g  g s al m j l n i = ckT2.T  g s al m j l n i := by kernel_rfl
theorem ckT2.ok  (g : List ByteArray × List ByteArray × List (Int × List Int)) (s : ByteArray) (al : List ByteArray) (m : Int) (j : Int) (l : List ByteArray) (n : Int) (i : Int) (hx : n = l.length ∧ 0 ≤ i ∧ i ≤ n ∧ l.length ≤ 9223372036854775807) : ckT2.T  g s al m j l n i := by
  obtain ⟨rfl, h0, h1, h2⟩ := hx
  rw [ckT2.T]
  by_cases hi : i < (l.length : Int)
  · rw [wrapI64 (x := i + 1) (by omega) (by omega), drop_int ByteArray.empty h0 hi, memB_cons]
    generalize l.getD i.toNat ByteArray.empty = a
    ((repeat' (first | exact trivial | apply And.intro)) <;> (intro hw; (try (simp only [zP, reduceCtorEq] at hw)); (try first | (exfalso; omega) | exact ⟨trivial, rfl⟩ | exact (hw hx).elim | exact (hw.2 hx).elim)))
    all_goals first
      | (exfalso; omega)
      | (refine ⟨?_, by first | rfl | trivial⟩; rw [beq_iff_eq.2 hw.2, Bool.true_or])
      | (rw [beq_eq_false_iff_ne.2 hw.2, Bool.false_or]
         exact ⟨⟨rfl, by omega, by omega, h2⟩, by simp only [ckT2.mu]; omega, fun h => ⟨h, rfl⟩, fun h => ⟨h, rfl⟩, trivial⟩)
      | trace_state
  · rw [drop_int_end hi]
    ((repeat' (first | exact trivial | apply And.intro)) <;> (intro hw; (try (simp only [zP, reduceCtorEq] at hw)); (try first | (exfalso; omega) | exact ⟨trivial, rfl⟩ | exact (hw hx).elim | exact (hw.2 hx).elim)))
    all_goals exact ⟨rfl, rfl⟩
theorem ckT2.lp   : LpAt Tryd.prog 24 2 ckT2 := lp_evalH (l := []) (lf := 1000) (fun _ => cfOf_ok (fns_nil _)) (lps_nil _ _) (by kernel_rfl) _ (ckT2.mu ) (fun ⟨g, s, al, m, j, l, n, i⟩ hx => Hid.of (ckT2.eq  g s al m j l n i) (ckT2.ok  g s al m j l n i hx))
noncomputable def ckT6  : LFace := ⟨[1, 7, 8, 9, 85, 86, 87, 103, 104, 105], [.p GR, .v (.int .i64), .v .str, .v .bool, .v (.sl .str), .v (.int .i64), .v (.int .i64), .v (.sl .str), .v (.int .i64), .v (.int .i64)], fun (g, kk, s, bb, al, m, j, l, n, i) => some (n = l.length ∧ 0 ≤ i ∧ i ≤ n ∧ l.length ≤ 9223372036854775807),
  [⟨.normal, [1, 7, 9, 85, 86, 87], [.p GR, .v (.int .i64), .v .bool, .v (.sl .str), .v (.int .i64), .v (.int .i64)], fun (g, kk, s, bb, al, m, j, l, n, i) => (g, kk, bb, al, m, j), fun (g, kk, s, bb, al, m, j, l, n, i) => some (memB s (l.drop i.toNat) = false)⟩,
   ⟨.ret, [2], [.v .bool], fun (g, kk, s, bb, al, m, j, l, n, i) => false, fun (g, kk, s, bb, al, m, j, l, n, i) => some (memB s (l.drop i.toNat) = true)⟩]⟩
noncomputable def ckT6.mu  : dens ckT6.sh → Nat := fun (g, kk, s, bb, al, m, j, l, n, i) => (n - i).toNat
noncomputable def ckT6.g  (g : List ByteArray × List ByteArray × List (Int × List Int)) (kk : Int) (s : ByteArray) (bb : Bool) (al : List ByteArray) (m : Int) (j : Int) (l : List ByteArray) (n : Int) (i : Int) : Prop := GoodLA Tryd.prog (cfOf []) [] 1000 24 6 ckT6 ckT6.mu (g, kk, s, bb, al, m, j, l, n, i)
noncomputable def ckT6.T (g : List ByteArray × List ByteArray × List (Int × List Int)) (kk : Int) (s : ByteArray) (bb : Bool) (al : List ByteArray) (m : Int) (j : Int) (l : List ByteArray) (n : Int) (i : Int) : Prop := (((True ∧ decide (i < n) = true) ∧ (0 : Int) ≤ i ∧ i < (↑l.length : Int)) ∧ (s.toList == (l.getD i.toNat ByteArray.empty).toList) = true → memB s (List.drop i.toNat l) = true ∧ false = false) ∧ (((True ∧ decide (i < n) = true) ∧ (0 : Int) ≤ i ∧ i < (↑l.length : Int)) ∧ (s.toList == (l.getD i.toNat ByteArray.empty).toList) = false →
  (n = (↑l.length : Int) ∧ (0 : Int) ≤ IntKind.i64.wrap (i + (1 : Int)) ∧ IntKind.i64.wrap (i + (1 : Int)) ≤ n ∧ l.length ≤ (9223372036854775807 : Nat)) ∧ ckT6.mu (g, kk, s, bb, al, m, j, l, n, IntKind.i64.wrap (i + (1 : Int))) < ckT6.mu (g, kk, s, bb, al, m, j, l, n, i) ∧ (memB s (List.drop (IntKind.i64.wrap (i + (1 : Int))).toNat l) = false → memB s (List.drop i.toNat l) = false ∧ (g, kk, bb, al, m, j) = (g, kk, bb, al, m, j)) ∧ (memB s (List.drop (IntKind.i64.wrap (i + (1 : Int))).toNat l) = true → memB s (List.drop i.toNat l) = true ∧ false = false) ∧ True) ∧ ((True ∧ decide (i < n) = true) ∧ ¬((0 : Int) ≤ i ∧ i < (↑l.length : Int)) → False) ∧ (True ∧ decide (i < n) = false → memB s (List.drop i.toNat l) = false ∧ (g, kk, bb, al, m, j) = (g, kk, bb, al, m, j)) ∧ (True)
theorem ckT6.eq  (g : List ByteArray × List ByteArray × List (Int × List Int)) (kk : Int) (s : ByteArray) (bb : Bool) (al : List ByteArray) (m : Int) (j : Int) (l : List ByteArray) (n : Int) (i : Int) : ckT6.g  g kk s bb al m j l n i = ckT6.T  g kk s bb al m j l n i := by kernel_rfl
theorem ckT6.ok  (g : List ByteArray × List ByteArray × List (Int × List Int)) (kk : Int) (s : ByteArray) (bb : Bool) (al : List ByteArray) (m : Int) (j : Int) (l : List ByteArray) (n : Int) (i : Int) (hx : n = l.length ∧ 0 ≤ i ∧ i ≤ n ∧ l.length ≤ 9223372036854775807) : ckT6.T  g kk s bb al m j l n i := by
  obtain ⟨rfl, h0, h1, h2⟩ := hx
  rw [ckT6.T]
  by_cases hi : i < (l.length : Int)
  · rw [wrapI64 (x := i + 1) (by omega) (by omega), drop_int ByteArray.empty h0 hi, memB_cons]
    generalize l.getD i.toNat ByteArray.empty = a
    ((repeat' (first | exact trivial | apply And.intro)) <;> (intro hw; (try (simp only [zP, reduceCtorEq] at hw)); (try first | (exfalso; omega) | exact ⟨trivial, rfl⟩ | exact (hw hx).elim | exact (hw.2 hx).elim)))
    all_goals first
      | (exfalso; omega)
      | (refine ⟨?_, by first | rfl | trivial⟩; rw [beq_iff_eq.2 hw.2, Bool.true_or])
      | (rw [beq_eq_false_iff_ne.2 hw.2, Bool.false_or]
         exact ⟨⟨rfl, by omega, by omega, h2⟩, by simp only [ckT6.mu]; omega, fun h => ⟨h, rfl⟩, fun h => ⟨h, rfl⟩, trivial⟩)
      | trace_state
  · rw [drop_int_end hi]
    ((repeat' (first | exact trivial | apply And.intro)) <;> (intro hw; (try (simp only [zP, reduceCtorEq] at hw)); (try first | (exfalso; omega) | exact ⟨trivial, rfl⟩ | exact (hw hx).elim | exact (hw.2 hx).elim)))
    all_goals exact ⟨rfl, rfl⟩
theorem ckT6.lp   : LpAt Tryd.prog 24 6 ckT6 := lp_evalH (l := []) (lf := 1000) (fun _ => cfOf_ok (fns_nil _)) (lps_nil _ _) (by kernel_rfl) _ (ckT6.mu ) (fun ⟨g, kk, s, bb, al, m, j, l, n, i⟩ hx => Hid.of (ckT6.eq  g kk s bb al m j l n i) (ckT6.ok  g kk s bb al m j l n i hx))
theorem bt_great (s : ByteArray) (h : 1 ≤ s.size) : decide (XW.bt s 0 < 97) = grB1 s := by
  rw [bt_bI (Int.le_refl 0) (by omega), show (bI s).getD (Int.toNat 0) 0 = (bI s).headD 0 from headD_getD _]; rfl
def rtermL (al : List ByteArray) : Int → List ByteArray → Bool
  | _, [] => true
  | i, s :: r => nameL (bI s) && (!(grB1 s) && (!(memB s (al.take i.toNat)) && rtermL al (i + 1) r))
noncomputable def ckT0  : LFace := ⟨[1, 55, 56, 57], [.p GR, .v (.sl .str), .v (.int .i64), .v (.int .i64)], fun (g, l, n, i) => some (l = g.1 ∧ n = l.length ∧ 0 ≤ i ∧ i ≤ n ∧ l.length ≤ 9223372036854775807 ∧ okN l),
  [⟨.normal, [1], [.p GR], fun (g, l, n, i) => g, fun (g, l, n, i) => some (rtermL l i (l.drop i.toNat) = true)⟩,
   ⟨.ret, [2], [.v .bool], fun (g, l, n, i) => false, fun (g, l, n, i) => some (rtermL l i (l.drop i.toNat) = false)⟩]⟩
noncomputable def ckT0.mu  : dens ckT0.sh → Nat := fun (g, l, n, i) => (n - i).toNat
noncomputable def ckT0.g  (g : List ByteArray × List ByteArray × List (Int × List Int)) (l : List ByteArray) (n : Int) (i : Int) : Prop := GoodLA Tryd.prog (cfOf [rnF]) [(2, ckT2)] 1000 24 0 ckT0 ckT0.mu (g, l, n, i)
noncomputable def ckT0.q3 (l : List ByteArray) (n : Int) (i : Int) : Prop := ((True ∧ decide (i < n) = true) ∧ (0 : Int) ≤ i ∧ i < (↑l.length : Int)) ∧ (l.getD i.toNat ByteArray.empty).size ≤ (4000000 : Nat)
noncomputable def ckT0.q0 (l : List ByteArray) (n : Int) (i : Int) : Prop := ((ckT0.q3 l n i) ∧ (!nameL (bI (l.getD i.toNat ByteArray.empty))) = false) ∧ (0 : Int) ≤ (0 : Int) ∧ (0 : Int) < (↑(l.getD i.toNat ByteArray.empty).size : Int)
noncomputable def ckT0.q2 (g : List ByteArray × List ByteArray × List (Int × List Int)) (l : List ByteArray) (n : Int) (i : Int) : Prop := (((ckT0.q0 l n i) ∧ decide (XW.bt (l.getD i.toNat ByteArray.empty) (0 : Int) < (97 : Int)) = false) ∧ (0 : Int) ≤ (0 : Int) ∧ (0 : Int) ≤ i ∧ i ≤ (↑(List.length g.1) : Int)) ∧ (List.drop (Int.toNat (0 : Int)) (List.take i.toNat g.1)).length ≤ (9223372036854775807 : Nat)
noncomputable def ckT0.q1 (g : List ByteArray × List ByteArray × List (Int × List Int)) (l : List ByteArray) (n : Int) (i : Int) : Prop := (ckT0.q2 g l n i) ∧ (↑(List.drop (Int.toNat (0 : Int)) (List.take i.toNat g.1)).length : Int) = (↑(List.drop (Int.toNat (0 : Int)) (List.take i.toNat g.1)).length : Int) ∧ (0 : Int) ≤ (0 : Int) ∧ (0 : Int) ≤ (↑(List.drop (Int.toNat (0 : Int)) (List.take i.toNat g.1)).length : Int) ∧ (List.drop (Int.toNat (0 : Int)) (List.take i.toNat g.1)).length ≤ (9223372036854775807 : Nat)
noncomputable def ckT0.T (g : List ByteArray × List ByteArray × List (Int × List Int)) (l : List ByteArray) (n : Int) (i : Int) : Prop := (((True ∧ decide (i < n) = true) ∧ (0 : Int) ≤ i ∧ i < (↑l.length : Int)) ∧ ¬(l.getD i.toNat ByteArray.empty).size ≤ (4000000 : Nat) → False) ∧ ((ckT0.q3 l n i) ∧ (!nameL (bI (l.getD i.toNat ByteArray.empty))) = true → rtermL l i (List.drop i.toNat l) = false ∧ false = false) ∧ ((ckT0.q0 l n i) ∧ decide (XW.bt (l.getD i.toNat ByteArray.empty) (0 : Int) < (97 : Int)) = true → rtermL l i (List.drop i.toNat l) = false ∧ false = false) ∧ ((ckT0.q2 g l n i) ∧ ¬((↑(List.drop (Int.toNat (0 : Int)) (List.take i.toNat g.1)).length : Int) = (↑(List.drop (Int.toNat (0 : Int)) (List.take i.toNat g.1)).length : Int) ∧ (0 : Int) ≤ (0 : Int) ∧ (0 : Int) ≤ (↑(List.drop (Int.toNat (0 : Int)) (List.take i.toNat g.1)).length : Int) ∧ (List.drop (Int.toNat (0 : Int)) (List.take i.toNat g.1)).length ≤ (9223372036854775807 : Nat)) → False) ∧ ((ckT0.q1 g l n i) ∧ memB (l.getD i.toNat ByteArray.empty) (List.drop (Int.toNat (0 : Int)) (List.drop (Int.toNat (0 : Int)) (List.take i.toNat g.1))) = false → (l = g.1 ∧ n = (↑l.length : Int) ∧ (0 : Int) ≤ IntKind.i64.wrap (i + (1 : Int)) ∧ IntKind.i64.wrap (i + (1 : Int)) ≤ n ∧ l.length ≤ (9223372036854775807 : Nat) ∧ okN l) ∧ ckT0.mu (g, l, n, IntKind.i64.wrap (i + (1 : Int))) < ckT0.mu (g, l, n, i) ∧ (rtermL l (IntKind.i64.wrap (i + (1 : Int))) (List.drop (IntKind.i64.wrap (i + (1 : Int))).toNat l) = true → rtermL l i (List.drop i.toNat l) = true ∧ g = g) ∧ (rtermL l (IntKind.i64.wrap (i + (1 : Int))) (List.drop (IntKind.i64.wrap (i + (1 : Int))).toNat l) = false → rtermL l i (List.drop i.toNat l) = false ∧ false = false) ∧ True) ∧ ((ckT0.q1 g l n i) ∧ memB (l.getD i.toNat ByteArray.empty) (List.drop (Int.toNat (0 : Int)) (List.drop (Int.toNat (0 : Int)) (List.take i.toNat g.1))) = true → rtermL l i (List.drop i.toNat l) = false ∧ false = false) ∧ (((ckT0.q0 l n i) ∧ decide (XW.bt (l.getD i.toNat ByteArray.empty) (0 : Int) < (97 : Int)) = false) ∧ ¬((0 : Int) ≤ (0 : Int) ∧ (0 : Int) ≤ i ∧ i ≤ (↑(List.length g.1) : Int)) → False) ∧ (((ckT0.q3 l n i) ∧ (!nameL (bI (l.getD i.toNat ByteArray.empty))) = false) ∧ ¬((0 : Int) ≤ (0 : Int) ∧ (0 : Int) < (↑(l.getD i.toNat ByteArray.empty).size : Int)) → False) ∧ ((True ∧ decide (i < n) = true) ∧ ¬((0 : Int) ≤ i ∧ i < (↑l.length : Int)) → False) ∧ (True ∧ decide (i < n) = false → rtermL l i (List.drop i.toNat l) = true ∧ g = g) ∧ (True)
theorem ckT0.eq  (g : List ByteArray × List ByteArray × List (Int × List Int)) (l : List ByteArray) (n : Int) (i : Int) : ckT0.g  g l n i = ckT0.T  g l n i := by kernel_rfl
theorem ckT0.ok  (g : List ByteArray × List ByteArray × List (Int × List Int)) (l : List ByteArray) (n : Int) (i : Int) (hx : l = g.1 ∧ n = l.length ∧ 0 ≤ i ∧ i ≤ n ∧ l.length ≤ 9223372036854775807 ∧ okN l) : ckT0.T  g l n i := by
  obtain ⟨rfl, rfl, h0, h1, h2, h3⟩ := hx
  delta ckT0.T ckT0.q3 ckT0.q0 ckT0.q2 ckT0.q1
  by_cases hi : i < (g.1.length : Int)
  · have hm := h3 _ (getD_mem (x := ByteArray.empty) (show i.toNat < g.1.length by omega))
    rw [drop_int ByteArray.empty h0 hi, rtermL, wrapI64 (x := i + 1) (by omega) (by omega)]
    simp only [show Int.toNat 0 = 0 from rfl, List.drop_zero]
    have ht : (g.1.take i.toNat).length ≤ g.1.length := by rw [List.length_take]; omega
    generalize g.1.getD i.toNat ByteArray.empty = s at *
    generalize g.1.drop (i + 1).toNat = r at *
    generalize g.1.take i.toNat = al at *
    have hp : nameL (bI s) = true → 1 ≤ s.size ∧ decide (XW.bt s 0 < 97) = grB1 s := fun h => ⟨nameL_pos h, bt_great s (nameL_pos h)⟩
    cases hc : nameL (bI s) with
    | false =>
      ((repeat' (first | exact trivial | apply And.intro)) <;> (intro hw; (try (simp only [zP, reduceCtorEq] at hw)); (try first | (exfalso; omega) | exact ⟨trivial, rfl⟩ | exact (hw hx).elim | exact (hw.2 hx).elim)))
      all_goals first
        | (exfalso; omega)
        | (exfalso; simp_all; done)
        | (refine ⟨?_, by first | rfl | trivial⟩; simp_all; done)
        | trace_state
    | true =>
      obtain ⟨p1, p2⟩ := hp hc
      rw [← p2]
      generalize memB s al = b at *
      generalize rtermL g.1 (i + 1) r = q at *
      by_cases hb : XW.bt s 0 < 97
      · rw [decide_eq_true hb]
        ((repeat' (first | exact trivial | apply And.intro)) <;> (intro hw; (try (simp only [zP, reduceCtorEq] at hw)); (try first | (exfalso; omega) | exact ⟨trivial, rfl⟩ | exact (hw hx).elim | exact (hw.2 hx).elim)))
        all_goals first
          | (exfalso; omega)
          | (exfalso; simp_all; done)
          | (refine ⟨?_, by first | rfl | trivial⟩; simp_all; done)
          | trace_state
      · rw [decide_eq_false hb]
        ((repeat' (first | exact trivial | apply And.intro)) <;> (intro hw; (try (simp only [zP, reduceCtorEq] at hw)); (try first | (exfalso; omega) | exact ⟨trivial, rfl⟩ | exact (hw hx).elim | exact (hw.2 hx).elim)))
        all_goals first
          | (exfalso; omega)
          | (exfalso; simp_all; done)
          | (refine ⟨?_, by first | rfl | trivial⟩; simp_all; done)
          | (refine ⟨⟨trivial, trivial, by omega, by omega, h2, h3⟩, by simp only [ckT0.mu]; omega, fun h => ⟨?_, by first | rfl | trivial⟩, fun h => ⟨?_, by first | rfl | trivial⟩, trivial⟩ <;> (clear h3; simp_all; done))
          | trace_state
  · rw [drop_int_end hi, rtermL]
    ((repeat' (first | exact trivial | apply And.intro)) <;> (intro hw; (try (simp only [zP, reduceCtorEq] at hw)); (try first | (exfalso; omega) | exact ⟨trivial, rfl⟩ | exact (hw hx).elim | exact (hw.2 hx).elim)))
    all_goals first
      | (exfalso; omega)
      | exact ⟨rfl, rfl⟩
      | trace_state
theorem ckT0.lp   : LpAt Tryd.prog 24 0 ckT0 := lp_evalH (l := [(2, ckT2)]) (lf := 1000) (fun _ => cfOf_ok (fns_cons rnF.fn (fns_nil _))) (lps_cons (ckT2.lp) (lps_nil _ _)) (by kernel_rfl) _ (ckT0.mu ) (fun ⟨g, l, n, i⟩ hx => Hid.of (ckT0.eq  g l n i) (ckT0.ok  g l n i hx))
noncomputable def ckT8  : LFace := ⟨[1, 7, 9, 85, 86, 87, 114, 115, 116], [.p GR, .v (.int .i64), .v .bool, .v (.sl .str), .v (.int .i64), .v (.int .i64), .v (.sl PR), .v (.int .i64), .v (.int .i64)], fun (g, k, b, al, m, j, l, n, i) => some (n = l.length ∧ 0 ≤ i ∧ i ≤ n ∧ l.length ≤ 9223372036854775807 ∧ 0 ≤ k ∧ k ≤ 1000),
  [⟨.normal, [1, 9, 85, 86, 87], [.p GR, .v .bool, .v (.sl .str), .v (.int .i64), .v (.int .i64)], fun (g, k, b, al, m, j, l, n, i) => (g, b || (l.drop i.toNat).any (leftIs k), al, m, j), fun (g, k, b, al, m, j, l, n, i) => none⟩]⟩
noncomputable def ckT8.mu  : dens ckT8.sh → Nat := fun (g, k, b, al, m, j, l, n, i) => (n - i).toNat
noncomputable def ckT8.g  (g : List ByteArray × List ByteArray × List (Int × List Int)) (k : Int) (b : Bool) (al : List ByteArray) (m : Int) (j : Int) (l : List (Int × List Int)) (n : Int) (i : Int) : Prop := GoodLA Tryd.prog (cfOf []) [] 1000 24 8 ckT8 ckT8.mu (g, k, b, al, m, j, l, n, i)
noncomputable def ckT8.T (g : List ByteArray × List ByteArray × List (Int × List Int)) (k : Int) (b : Bool) (al : List ByteArray) (m : Int) (j : Int) (l : List (Int × List Int)) (n : Int) (i : Int) : Prop := (((True ∧ decide (i < n) = true) ∧ (0 : Int) ≤ i ∧ i < (↑l.length : Int)) ∧ b = true →
  (n = (↑l.length : Int) ∧ (0 : Int) ≤ IntKind.i64.wrap (i + (1 : Int)) ∧ IntKind.i64.wrap (i + (1 : Int)) ≤ n ∧ l.length ≤ (9223372036854775807 : Nat) ∧ (0 : Int) ≤ k ∧ k ≤ (1000 : Int)) ∧ ckT8.mu (g, k, true, al, m, j, l, n, IntKind.i64.wrap (i + (1 : Int))) < ckT8.mu (g, k, b, al, m, j, l, n, i) ∧ (True → True ∧ (g, true || (List.drop (IntKind.i64.wrap (i + (1 : Int))).toNat l).any (leftIs k), al, m, j) = (g, b || (List.drop i.toNat l).any (leftIs k), al, m, j)) ∧ True) ∧ (((True ∧ decide (i < n) = true) ∧ (0 : Int) ≤ i ∧ i < (↑l.length : Int)) ∧ b = false →
  (n = (↑l.length : Int) ∧ (0 : Int) ≤ IntKind.i64.wrap (i + (1 : Int)) ∧ IntKind.i64.wrap (i + (1 : Int)) ≤ n ∧ l.length ≤ (9223372036854775807 : Nat) ∧ (0 : Int) ≤ k ∧ k ≤ (1000 : Int)) ∧ ckT8.mu (g, k, (l.getD i.toNat ((0 : Int), [])).1 == IntKind.i64.wrap ((100 : Int) + k), al, m, j, l, n, IntKind.i64.wrap (i + (1 : Int))) < ckT8.mu (g, k, b, al, m, j, l, n, i) ∧ (True → True ∧ (g, (l.getD i.toNat ((0 : Int), ([] : List Int))).1 == IntKind.i64.wrap ((100 : Int) + k) || (List.drop (IntKind.i64.wrap (i + (1 : Int))).toNat l).any (leftIs k), al, m, j) = (g, b || (List.drop i.toNat l).any (leftIs k), al, m, j)) ∧ True) ∧ ((True ∧ decide (i < n) = true) ∧ ¬((0 : Int) ≤ i ∧ i < (↑l.length : Int)) → False) ∧ (True ∧ decide (i < n) = false → True ∧ (g, b, al, m, j) = (g, b || (List.drop i.toNat l).any (leftIs k), al, m, j)) ∧ (True)
theorem ckT8.eq  (g : List ByteArray × List ByteArray × List (Int × List Int)) (k : Int) (b : Bool) (al : List ByteArray) (m : Int) (j : Int) (l : List (Int × List Int)) (n : Int) (i : Int) : ckT8.g  g k b al m j l n i = ckT8.T  g k b al m j l n i := by kernel_rfl
theorem ckT8.ok  (g : List ByteArray × List ByteArray × List (Int × List Int)) (k : Int) (b : Bool) (al : List ByteArray) (m : Int) (j : Int) (l : List (Int × List Int)) (n : Int) (i : Int) (hx : n = l.length ∧ 0 ≤ i ∧ i ≤ n ∧ l.length ≤ 9223372036854775807 ∧ 0 ≤ k ∧ k ≤ 1000) : ckT8.T  g k b al m j l n i := by
  obtain ⟨rfl, h0, h1, h2, h3, h4⟩ := hx
  rw [ckT8.T]
  by_cases hi : i < (l.length : Int)
  · rw [wrapI64 (x := i + 1) (by omega) (by omega), wrapI64 (x := 100 + k) (by omega) (by omega), drop_int (0, []) h0 hi, List.any_cons, leftIs]
    generalize l.getD i.toNat (0, []) = p
    ((repeat' (first | exact trivial | apply And.intro)) <;> (intro hw; (try (simp only [zP, reduceCtorEq] at hw)); (try first | (exfalso; omega) | exact ⟨trivial, rfl⟩ | exact (hw hx).elim | exact (hw.2 hx).elim)))
    all_goals first
      | (exfalso; omega)
      | (refine ⟨⟨rfl, by omega, by omega, h2, h3, h4⟩, by simp only [ckT8.mu]; omega, fun _ => ⟨trivial, ?_⟩, trivial⟩; cases b <;> simp_all <;> rfl)
      | trace_state
  · rw [drop_int_end hi, List.any_nil, Bool.or_false]
    ((repeat' (first | exact trivial | apply And.intro)) <;> (intro hw; (try (simp only [zP, reduceCtorEq] at hw)); (try first | (exfalso; omega) | exact ⟨trivial, rfl⟩ | exact (hw hx).elim | exact (hw.2 hx).elim)))
    all_goals first
      | (exfalso; omega)
      | exact ⟨trivial, rfl⟩
      | trace_state
theorem ckT8.lp   : LpAt Tryd.prog 24 8 ckT8 := lp_evalH (l := []) (lf := 1000) (fun _ => cfOf_ok (fns_nil _)) (lps_nil _ _) (by kernel_rfl) _ (ckT8.mu ) (fun ⟨g, k, b, al, m, j, l, n, i⟩ hx => Hid.of (ckT8.eq  g k b al m j l n i) (ckT8.ok  g k b al m j l n i hx))
def rnonL (g : Gr) (al : List ByteArray) : Int → List ByteArray → Bool
  | _, [] => true
  | i, s :: r => nameL (bI s) && (grB1 s && (!(memB s (al.take i.toNat)) && (g.2.2.any (leftIs i) && rnonL g al (i + 1) r)))
noncomputable def ckT4  : LFace := ⟨[1, 85, 86, 87], [.p GR, .v (.sl .str), .v (.int .i64), .v (.int .i64)], fun (g, l, n, i) => some (l = g.2.1 ∧ n = l.length ∧ 0 ≤ i ∧ i ≤ n ∧ l.length ≤ 99 ∧ okN l),
  [⟨.normal, [1], [.p GR], fun (g, l, n, i) => g, fun (g, l, n, i) => some (rnonL g l i (l.drop i.toNat) = true)⟩,
   ⟨.ret, [2], [.v .bool], fun (g, l, n, i) => false, fun (g, l, n, i) => some (rnonL g l i (l.drop i.toNat) = false)⟩]⟩
noncomputable def ckT4.mu  : dens ckT4.sh → Nat := fun (g, l, n, i) => (n - i).toNat
noncomputable def ckT4.g  (g : List ByteArray × List ByteArray × List (Int × List Int)) (l : List ByteArray) (n : Int) (i : Int) : Prop := GoodLA Tryd.prog (cfOf [rnF]) [(6, ckT6), (8, ckT8)] 1000 24 4 ckT4 ckT4.mu (g, l, n, i)
noncomputable def ckT4.q4 (l : List ByteArray) (n : Int) (i : Int) : Prop := ((True ∧ decide (i < n) = true) ∧ (0 : Int) ≤ i ∧ i < (↑l.length : Int)) ∧ (l.getD i.toNat ByteArray.empty).size ≤ (4000000 : Nat)
noncomputable def ckT4.q1 (l : List ByteArray) (n : Int) (i : Int) : Prop := ((ckT4.q4 l n i) ∧ (!nameL (bI (l.getD i.toNat ByteArray.empty))) = false) ∧ (0 : Int) ≤ (0 : Int) ∧ (0 : Int) < (↑(l.getD i.toNat ByteArray.empty).size : Int)
noncomputable def ckT4.q3 (g : List ByteArray × List ByteArray × List (Int × List Int)) (l : List ByteArray) (n : Int) (i : Int) : Prop := (((ckT4.q1 l n i) ∧ decide (XW.bt (l.getD i.toNat ByteArray.empty) (0 : Int) ≥ (97 : Int)) = false) ∧ (0 : Int) ≤ (0 : Int) ∧ (0 : Int) ≤ i ∧ i ≤ (↑(List.length g.2.1) : Int)) ∧ (List.drop (Int.toNat (0 : Int)) (List.take i.toNat g.2.1)).length ≤ (9223372036854775807 : Nat)
noncomputable def ckT4.q0 (g : List ByteArray × List ByteArray × List (Int × List Int)) (l : List ByteArray) (n : Int) (i : Int) : Prop := (ckT4.q3 g l n i) ∧ (↑(List.drop (Int.toNat (0 : Int)) (List.take i.toNat g.2.1)).length : Int) = (↑(List.drop (Int.toNat (0 : Int)) (List.take i.toNat g.2.1)).length : Int) ∧ (0 : Int) ≤ (0 : Int) ∧ (0 : Int) ≤ (↑(List.drop (Int.toNat (0 : Int)) (List.take i.toNat g.2.1)).length : Int) ∧ (List.drop (Int.toNat (0 : Int)) (List.take i.toNat g.2.1)).length ≤ (9223372036854775807 : Nat)
noncomputable def ckT4.q5 (g : List ByteArray × List ByteArray × List (Int × List Int)) (l : List ByteArray) (n : Int) (i : Int) : Prop := ((ckT4.q0 g l n i) ∧ memB (l.getD i.toNat ByteArray.empty) (List.drop (Int.toNat (0 : Int)) (List.drop (Int.toNat (0 : Int)) (List.take i.toNat g.2.1))) = false) ∧ List.length g.2.2 ≤ (9223372036854775807 : Nat)
noncomputable def ckT4.q2 (g : List ByteArray × List ByteArray × List (Int × List Int)) (l : List ByteArray) (n : Int) (i : Int) : Prop := (ckT4.q5 g l n i) ∧ (↑(List.length g.2.2) : Int) = (↑(List.length g.2.2) : Int) ∧ (0 : Int) ≤ (0 : Int) ∧ (0 : Int) ≤ (↑(List.length g.2.2) : Int) ∧ List.length g.2.2 ≤ (9223372036854775807 : Nat) ∧ (0 : Int) ≤ i ∧ i ≤ (1000 : Int)
noncomputable def ckT4.T (g : List ByteArray × List ByteArray × List (Int × List Int)) (l : List ByteArray) (n : Int) (i : Int) : Prop := (((True ∧ decide (i < n) = true) ∧ (0 : Int) ≤ i ∧ i < (↑l.length : Int)) ∧ ¬(l.getD i.toNat ByteArray.empty).size ≤ (4000000 : Nat) → False) ∧ ((ckT4.q4 l n i) ∧ (!nameL (bI (l.getD i.toNat ByteArray.empty))) = true → rnonL g l i (List.drop i.toNat l) = false ∧ false = false) ∧ ((ckT4.q1 l n i) ∧ decide (XW.bt (l.getD i.toNat ByteArray.empty) (0 : Int) ≥ (97 : Int)) = true → rnonL g l i (List.drop i.toNat l) = false ∧ false = false) ∧ ((ckT4.q3 g l n i) ∧ ¬((↑(List.drop (Int.toNat (0 : Int)) (List.take i.toNat g.2.1)).length : Int) = (↑(List.drop (Int.toNat (0 : Int)) (List.take i.toNat g.2.1)).length : Int) ∧ (0 : Int) ≤ (0 : Int) ∧ (0 : Int) ≤ (↑(List.drop (Int.toNat (0 : Int)) (List.take i.toNat g.2.1)).length : Int) ∧ (List.drop (Int.toNat (0 : Int)) (List.take i.toNat g.2.1)).length ≤ (9223372036854775807 : Nat)) → False) ∧ ((ckT4.q5 g l n i) ∧ ¬((↑(List.length g.2.2) : Int) = (↑(List.length g.2.2) : Int) ∧ (0 : Int) ≤ (0 : Int) ∧ (0 : Int) ≤ (↑(List.length g.2.2) : Int) ∧ List.length g.2.2 ≤ (9223372036854775807 : Nat) ∧ (0 : Int) ≤ i ∧ i ≤ (1000 : Int)) → False) ∧ ((ckT4.q2 g l n i) ∧ (!(false || (List.drop (Int.toNat (0 : Int)) g.2.2).any (leftIs i))) = true → rnonL g l i (List.drop i.toNat l) = false ∧ false = false) ∧ ((ckT4.q2 g l n i) ∧ (!(false || (List.drop (Int.toNat (0 : Int)) g.2.2).any (leftIs i))) = false → (l = g.2.1 ∧ n = (↑l.length : Int) ∧ (0 : Int) ≤ IntKind.i64.wrap (i + (1 : Int)) ∧ IntKind.i64.wrap (i + (1 : Int)) ≤ n ∧ l.length ≤ (99 : Nat) ∧ okN l) ∧ ckT4.mu (g, l, n, IntKind.i64.wrap (i + (1 : Int))) < ckT4.mu (g, l, n, i) ∧ (rnonL g l (IntKind.i64.wrap (i + (1 : Int))) (List.drop (IntKind.i64.wrap (i + (1 : Int))).toNat l) = true → rnonL g l i (List.drop i.toNat l) = true ∧ g = g) ∧ (rnonL g l (IntKind.i64.wrap (i + (1 : Int))) (List.drop (IntKind.i64.wrap (i + (1 : Int))).toNat l) = false → rnonL g l i (List.drop i.toNat l) = false ∧ false = false) ∧ True) ∧ ((ckT4.q0 g l n i) ∧ memB (l.getD i.toNat ByteArray.empty) (List.drop (Int.toNat (0 : Int)) (List.drop (Int.toNat (0 : Int)) (List.take i.toNat g.2.1))) = true → rnonL g l i (List.drop i.toNat l) = false ∧ false = false) ∧ (((ckT4.q1 l n i) ∧ decide (XW.bt (l.getD i.toNat ByteArray.empty) (0 : Int) ≥ (97 : Int)) = false) ∧ ¬((0 : Int) ≤ (0 : Int) ∧ (0 : Int) ≤ i ∧ i ≤ (↑(List.length g.2.1) : Int)) → False) ∧ (((ckT4.q4 l n i) ∧ (!nameL (bI (l.getD i.toNat ByteArray.empty))) = false) ∧ ¬((0 : Int) ≤ (0 : Int) ∧ (0 : Int) < (↑(l.getD i.toNat ByteArray.empty).size : Int)) → False) ∧ ((True ∧ decide (i < n) = true) ∧ ¬((0 : Int) ≤ i ∧ i < (↑l.length : Int)) → False) ∧ (True ∧ decide (i < n) = false → rnonL g l i (List.drop i.toNat l) = true ∧ g = g) ∧ (True)
theorem ckT4.eq  (g : List ByteArray × List ByteArray × List (Int × List Int)) (l : List ByteArray) (n : Int) (i : Int) : ckT4.g  g l n i = ckT4.T  g l n i := by kernel_rfl
theorem ckT4.ok  (g : List ByteArray × List ByteArray × List (Int × List Int)) (l : List ByteArray) (n : Int) (i : Int) (hx : l = g.2.1 ∧ n = l.length ∧ 0 ≤ i ∧ i ≤ n ∧ l.length ≤ 99 ∧ okN l) : ckT4.T  g l n i := by
  obtain ⟨rfl, rfl, h0, h1, h2, h3⟩ := hx
  delta ckT4.T ckT4.q4 ckT4.q1 ckT4.q3 ckT4.q0 ckT4.q5 ckT4.q2
  by_cases hi : i < (g.2.1.length : Int)
  · have hm := h3 _ (getD_mem (x := ByteArray.empty) (show i.toNat < g.2.1.length by omega))
    rw [drop_int ByteArray.empty h0 hi, rnonL, wrapI64 (x := i + 1) (by omega) (by omega)]
    simp only [show Int.toNat 0 = 0 from rfl, List.drop_zero, Bool.false_or]
    have ht : (g.2.1.take i.toNat).length ≤ g.2.1.length := by rw [List.length_take]; omega
    generalize g.2.1.getD i.toNat ByteArray.empty = s at *
    generalize g.2.1.drop (i + 1).toNat = r at *
    generalize g.2.1.take i.toNat = al at *
    have hp : nameL (bI s) = true → 1 ≤ s.size ∧ decide (XW.bt s 0 < 97) = grB1 s := fun h => ⟨nameL_pos h, bt_great s (nameL_pos h)⟩
    generalize g.2.2.any (leftIs i) = cc at *
    cases hc : nameL (bI s) with
    | false =>
      ((repeat' (first | exact trivial | apply And.intro)) <;> (intro hw; (try (simp only [zP, reduceCtorEq] at hw)); (try first | (exfalso; omega) | exact ⟨trivial, rfl⟩ | exact (hw hx).elim | exact (hw.2 hx).elim)))
      all_goals first
        | (exfalso; omega)
        | (exfalso; simp_all; done)
        | (refine ⟨?_, by first | rfl | trivial⟩; simp_all; done)
        | trace_state
    | true =>
      obtain ⟨p1, p2⟩ := hp hc
      rw [← p2]
      generalize memB s al = b at *
      generalize rnonL g g.2.1 (i + 1) r = q at *
      by_cases hb : XW.bt s 0 < 97
      · rw [decide_eq_true hb]
        ((repeat' (first | exact trivial | apply And.intro)) <;> (intro hw; (try (simp only [zP, reduceCtorEq] at hw)); (try first | (exfalso; omega) | exact ⟨trivial, rfl⟩ | exact (hw hx).elim | exact (hw.2 hx).elim)))
        all_goals first
          | (exfalso; omega)
          | (exfalso; simp_all; done)
          | (refine ⟨?_, by first | rfl | trivial⟩; simp_all; done)
          | (refine ⟨⟨trivial, trivial, by omega, by omega, h2, h3⟩, by simp only [ckT4.mu]; omega, fun h => ⟨?_, by first | rfl | trivial⟩, fun h => ⟨?_, by first | rfl | trivial⟩, trivial⟩ <;> (clear h3; simp_all; done))
          | trace_state
      · rw [decide_eq_false hb]
        ((repeat' (first | exact trivial | apply And.intro)) <;> (intro hw; (try (simp only [zP, reduceCtorEq] at hw)); (try first | (exfalso; omega) | exact ⟨trivial, rfl⟩ | exact (hw hx).elim | exact (hw.2 hx).elim)))
        all_goals first
          | (exfalso; omega)
          | (exfalso; simp_all; done)
          | (refine ⟨?_, by first | rfl | trivial⟩; simp_all; done)
          | trace_state
  · rw [drop_int_end hi, rnonL]
    ((repeat' (first | exact trivial | apply And.intro)) <;> (intro hw; (try (simp only [zP, reduceCtorEq] at hw)); (try first | (exfalso; omega) | exact ⟨trivial, rfl⟩ | exact (hw hx).elim | exact (hw.2 hx).elim)))
    all_goals first
      | (exfalso; omega)
      | exact ⟨rfl, rfl⟩
      | trace_state
theorem ckT4.lp   : LpAt Tryd.prog 24 4 ckT4 := lp_evalH (l := [(6, ckT6), (8, ckT8)]) (lf := 1000) (fun _ => cfOf_ok (fns_cons rnF.fn (fns_nil _))) (lps_cons (ckT6.lp) (lps_cons (ckT8.lp) (lps_nil _ _))) (by kernel_rfl) _ (ckT4.mu ) (fun ⟨g, l, n, i⟩ hx => Hid.of (ckT4.eq  g l n i) (ckT4.ok  g l n i hx))
noncomputable def ckT12  : LFace := ⟨[1, 14, 15, 133, 134, 135, 152, 153, 154], [.p GR, .v (.int .i64), .p PR, .v (.sl PR), .v (.int .i64), .v (.int .i64), .v (.sl (.int .i64)), .v (.int .i64), .v (.int .i64)], fun (g, k, p, al, m, j, l, n, i) => some (gSmall g ∧ n = l.length ∧ 0 ≤ i ∧ i ≤ n ∧ l.length ≤ 9223372036854775807),
  [⟨.normal, [1, 14, 15, 133, 134, 135], [.p GR, .v (.int .i64), .p PR, .v (.sl PR), .v (.int .i64), .v (.int .i64)], fun (g, k, p, al, m, j, l, n, i) => (g, k, p, al, m, j), fun (g, k, p, al, m, j, l, n, i) => some ((l.drop i.toNat).all (isS g) = true)⟩,
   ⟨.ret, [2], [.v .bool], fun (g, k, p, al, m, j, l, n, i) => false, fun (g, k, p, al, m, j, l, n, i) => some ((l.drop i.toNat).all (isS g) = false)⟩]⟩
noncomputable def ckT12.mu  : dens ckT12.sh → Nat := fun (g, k, p, al, m, j, l, n, i) => (n - i).toNat
noncomputable def ckT12.g  (g : List ByteArray × List ByteArray × List (Int × List Int)) (k : Int) (p : Int × List Int) (al : List (Int × List Int)) (m : Int) (j : Int) (l : List Int) (n : Int) (i : Int) : Prop := GoodLA Tryd.prog (cfOf [isF]) [] 1000 24 12 ckT12 ckT12.mu (g, k, p, al, m, j, l, n, i)
noncomputable def ckT12.T (g : List ByteArray × List ByteArray × List (Int × List Int)) (k : Int) (p : Int × List Int) (al : List (Int × List Int)) (m : Int) (j : Int) (l : List Int) (n : Int) (i : Int) : Prop := (((True ∧ decide (i < n) = true) ∧ (0 : Int) ≤ i ∧ i < (↑l.length : Int)) ∧ ¬gSmall g → False) ∧ ((((True ∧ decide (i < n) = true) ∧ (0 : Int) ≤ i ∧ i < (↑l.length : Int)) ∧ gSmall g) ∧ (!isS g (l.getD i.toNat (0 : Int))) = true → (List.drop i.toNat l).all (isS g) = false ∧ false = false) ∧ ((((True ∧ decide (i < n) = true) ∧ (0 : Int) ≤ i ∧ i < (↑l.length : Int)) ∧ gSmall g) ∧ (!isS g (l.getD i.toNat (0 : Int))) = false →
  (gSmall g ∧ n = (↑l.length : Int) ∧ (0 : Int) ≤ IntKind.i64.wrap (i + (1 : Int)) ∧ IntKind.i64.wrap (i + (1 : Int)) ≤ n ∧ l.length ≤ (9223372036854775807 : Nat)) ∧ ckT12.mu (g, k, p, al, m, j, l, n, IntKind.i64.wrap (i + (1 : Int))) < ckT12.mu (g, k, p, al, m, j, l, n, i) ∧ ((List.drop (IntKind.i64.wrap (i + (1 : Int))).toNat l).all (isS g) = true → (List.drop i.toNat l).all (isS g) = true ∧ (g, k, p, al, m, j) = (g, k, p, al, m, j)) ∧ ((List.drop (IntKind.i64.wrap (i + (1 : Int))).toNat l).all (isS g) = false → (List.drop i.toNat l).all (isS g) = false ∧ false = false) ∧ True) ∧ ((True ∧ decide (i < n) = true) ∧ ¬((0 : Int) ≤ i ∧ i < (↑l.length : Int)) → False) ∧ (True ∧ decide (i < n) = false → (List.drop i.toNat l).all (isS g) = true ∧ (g, k, p, al, m, j) = (g, k, p, al, m, j)) ∧ (True)
theorem ckT12.eq  (g : List ByteArray × List ByteArray × List (Int × List Int)) (k : Int) (p : Int × List Int) (al : List (Int × List Int)) (m : Int) (j : Int) (l : List Int) (n : Int) (i : Int) : ckT12.g  g k p al m j l n i = ckT12.T  g k p al m j l n i := by kernel_rfl
theorem ckT12.ok  (g : List ByteArray × List ByteArray × List (Int × List Int)) (k : Int) (p : Int × List Int) (al : List (Int × List Int)) (m : Int) (j : Int) (l : List Int) (n : Int) (i : Int) (hx : gSmall g ∧ n = l.length ∧ 0 ≤ i ∧ i ≤ n ∧ l.length ≤ 9223372036854775807) : ckT12.T  g k p al m j l n i := by
  obtain ⟨hg, rfl, h0, h1, h2⟩ := hx
  rw [ckT12.T]
  by_cases hi : i < (l.length : Int)
  · rw [wrapI64 (x := i + 1) (by omega) (by omega), drop_int 0 h0 hi, List.all_cons]
    generalize l.getD i.toNat 0 = a
    generalize isS g a = b
    ((repeat' (first | exact trivial | apply And.intro)) <;> (intro hw; (try (simp only [zP, reduceCtorEq] at hw)); (try first | (exfalso; omega) | exact ⟨trivial, rfl⟩ | exact (hw hx).elim | exact (hw.2 hx).elim)))
    all_goals first
      | (exfalso; omega)
      | exact (hw.2 hg).elim
      | (refine ⟨?_, by first | rfl | trivial⟩; rw [hw.2, Bool.false_and])
      | (rw [hw.2, Bool.true_and]
         exact ⟨⟨hg, rfl, by omega, by omega, h2⟩, by simp only [ckT12.mu]; omega, fun h => ⟨h, rfl⟩, fun h => ⟨h, rfl⟩, trivial⟩)
      | trace_state
  · rw [drop_int_end hi]
    ((repeat' (first | exact trivial | apply And.intro)) <;> (intro hw; (try (simp only [zP, reduceCtorEq] at hw)); (try first | (exfalso; omega) | exact ⟨trivial, rfl⟩ | exact (hw hx).elim | exact (hw.2 hx).elim)))
    all_goals exact ⟨rfl, rfl⟩
theorem ckT12.lp   : LpAt Tryd.prog 24 12 ckT12 := lp_evalH (l := []) (lf := 1000) (fun _ => cfOf_ok (fns_cons isF.fn (fns_nil _))) (lps_nil _ _) (by kernel_rfl) _ (ckT12.mu ) (fun ⟨g, k, p, al, m, j, l, n, i⟩ hx => Hid.of (ckT12.eq  g k p al m j l n i) (ckT12.ok  g k p al m j l n i hx))
noncomputable def ckT14  : LFace := ⟨[1, 15, 133, 134, 135, 166, 167, 168], [.p GR, .p PR, .v (.sl PR), .v (.int .i64), .v (.int .i64), .v (.sl PR), .v (.int .i64), .v (.int .i64)], fun (g, p, al, m, j, l, n, i) => some (n = l.length ∧ 0 ≤ i ∧ i ≤ n ∧ l.length ≤ 9223372036854775807),
  [⟨.normal, [1, 133, 134, 135], [.p GR, .v (.sl PR), .v (.int .i64), .v (.int .i64)], fun (g, p, al, m, j, l, n, i) => (g, al, m, j), fun (g, p, al, m, j, l, n, i) => some ((l.drop i.toNat).any (alkS p) = false)⟩,
   ⟨.ret, [2], [.v .bool], fun (g, p, al, m, j, l, n, i) => false, fun (g, p, al, m, j, l, n, i) => some ((l.drop i.toNat).any (alkS p) = true)⟩]⟩
noncomputable def ckT14.mu  : dens ckT14.sh → Nat := fun (g, p, al, m, j, l, n, i) => (n - i).toNat
noncomputable def ckT14.g  (g : List ByteArray × List ByteArray × List (Int × List Int)) (p : Int × List Int) (al : List (Int × List Int)) (m : Int) (j : Int) (l : List (Int × List Int)) (n : Int) (i : Int) : Prop := GoodLA Tryd.prog (cfOf [sameRow]) [] 1000 24 14 ckT14 ckT14.mu (g, p, al, m, j, l, n, i)
noncomputable def ckT14.T (g : List ByteArray × List ByteArray × List (Int × List Int)) (p : Int × List Int) (al : List (Int × List Int)) (m : Int) (j : Int) (l : List (Int × List Int)) (n : Int) (i : Int) : Prop := ((((True ∧ decide (i < n) = true) ∧ (0 : Int) ≤ i ∧ i < (↑l.length : Int)) ∧ ((l.getD i.toNat ((0 : Int), [])).1 == p.1) = true) ∧ sameS (l.getD i.toNat ((0 : Int), [])).2 p.2 = true → (List.drop i.toNat l).any (alkS p) = true ∧ false = false) ∧ ((((True ∧ decide (i < n) = true) ∧ (0 : Int) ≤ i ∧ i < (↑l.length : Int)) ∧ ((l.getD i.toNat ((0 : Int), [])).1 == p.1) = true) ∧ sameS (l.getD i.toNat ((0 : Int), [])).2 p.2 = false →
  (n = (↑l.length : Int) ∧ (0 : Int) ≤ IntKind.i64.wrap (i + (1 : Int)) ∧ IntKind.i64.wrap (i + (1 : Int)) ≤ n ∧ l.length ≤ (9223372036854775807 : Nat)) ∧ ckT14.mu (g, p, al, m, j, l, n, IntKind.i64.wrap (i + (1 : Int))) < ckT14.mu (g, p, al, m, j, l, n, i) ∧ ((List.drop (IntKind.i64.wrap (i + (1 : Int))).toNat l).any (alkS p) = false → (List.drop i.toNat l).any (alkS p) = false ∧ (g, al, m, j) = (g, al, m, j)) ∧ ((List.drop (IntKind.i64.wrap (i + (1 : Int))).toNat l).any (alkS p) = true → (List.drop i.toNat l).any (alkS p) = true ∧ false = false) ∧ True) ∧ (((True ∧ decide (i < n) = true) ∧ (0 : Int) ≤ i ∧ i < (↑l.length : Int)) ∧ ((l.getD i.toNat ((0 : Int), [])).1 == p.1) = false →
  (n = (↑l.length : Int) ∧ (0 : Int) ≤ IntKind.i64.wrap (i + (1 : Int)) ∧ IntKind.i64.wrap (i + (1 : Int)) ≤ n ∧ l.length ≤ (9223372036854775807 : Nat)) ∧ ckT14.mu (g, p, al, m, j, l, n, IntKind.i64.wrap (i + (1 : Int))) < ckT14.mu (g, p, al, m, j, l, n, i) ∧ ((List.drop (IntKind.i64.wrap (i + (1 : Int))).toNat l).any (alkS p) = false → (List.drop i.toNat l).any (alkS p) = false ∧ (g, al, m, j) = (g, al, m, j)) ∧ ((List.drop (IntKind.i64.wrap (i + (1 : Int))).toNat l).any (alkS p) = true → (List.drop i.toNat l).any (alkS p) = true ∧ false = false) ∧ True) ∧ ((True ∧ decide (i < n) = true) ∧ ¬((0 : Int) ≤ i ∧ i < (↑l.length : Int)) → False) ∧ (True ∧ decide (i < n) = false → (List.drop i.toNat l).any (alkS p) = false ∧ (g, al, m, j) = (g, al, m, j)) ∧ (True)
theorem ckT14.eq  (g : List ByteArray × List ByteArray × List (Int × List Int)) (p : Int × List Int) (al : List (Int × List Int)) (m : Int) (j : Int) (l : List (Int × List Int)) (n : Int) (i : Int) : ckT14.g  g p al m j l n i = ckT14.T  g p al m j l n i := by kernel_rfl
theorem ckT14.ok  (g : List ByteArray × List ByteArray × List (Int × List Int)) (p : Int × List Int) (al : List (Int × List Int)) (m : Int) (j : Int) (l : List (Int × List Int)) (n : Int) (i : Int) (hx : n = l.length ∧ 0 ≤ i ∧ i ≤ n ∧ l.length ≤ 9223372036854775807) : ckT14.T  g p al m j l n i := by
  obtain ⟨rfl, h0, h1, h2⟩ := hx
  rw [ckT14.T]
  by_cases hi : i < (l.length : Int)
  · rw [wrapI64 (x := i + 1) (by omega) (by omega), drop_int (0, []) h0 hi, List.any_cons, alkS]
    generalize l.getD i.toNat (0, []) = q
    generalize sameS q.2 p.2 = c
    ((repeat' (first | exact trivial | apply And.intro)) <;> (intro hw; (try (simp only [zP, reduceCtorEq] at hw)); (try first | (exfalso; omega) | exact ⟨trivial, rfl⟩ | exact (hw hx).elim | exact (hw.2 hx).elim)))
    all_goals first
      | (exfalso; omega)
      | (refine ⟨?_, by first | rfl | trivial⟩; simp_all; done)
      | (refine ⟨⟨rfl, by omega, by omega, h2⟩, by simp only [ckT14.mu]; omega, fun h => ⟨?_, by first | rfl | trivial⟩, fun h => ⟨?_, by first | rfl | trivial⟩, trivial⟩ <;> (simp_all; done))
      | trace_state
  · rw [drop_int_end hi]
    ((repeat' (first | exact trivial | apply And.intro)) <;> (intro hw; (try (simp only [zP, reduceCtorEq] at hw)); (try first | (exfalso; omega) | exact ⟨trivial, rfl⟩ | exact (hw hx).elim | exact (hw.2 hx).elim)))
    all_goals exact ⟨rfl, rfl⟩
theorem ckT14.lp   : LpAt Tryd.prog 24 14 ckT14 := lp_evalH (l := []) (lf := 1000) (fun _ => cfOf_ok (fns_cons sameRow.fn (fns_nil _))) (lps_nil _ _) (by kernel_rfl) _ (ckT14.mu ) (fun ⟨g, p, al, m, j, l, n, i⟩ hx => Hid.of (ckT14.eq  g p al m j l n i) (ckT14.ok  g p al m j l n i hx))
theorem all_strange (g : Gr) : ∀ l : List Int, l.all (isS g) = !(l.any (strange g))
  | [] => rfl
  | a :: r => by
    rw [List.all_cons, List.any_cons, all_strange g r, strange, isS, Bool.not_or, Bool.not_and, Bool.not_not, Bool.not_not]
noncomputable def ckT10  : LFace := ⟨[1, 133, 134, 135], [.p GR, .v (.sl PR), .v (.int .i64), .v (.int .i64)], fun (g, l, n, i) => some (gSmall g ∧ l = g.2.2 ∧ n = l.length ∧ 0 ≤ i ∧ i ≤ n ∧ l.length ≤ 9223372036854775807),
  [⟨.normal, [], [], fun (g, l, n, i) => (), fun (g, l, n, i) => some (prodL g g.2.2 i (l.drop i.toNat) = true)⟩,
   ⟨.ret, [2], [.v .bool], fun (g, l, n, i) => false, fun (g, l, n, i) => some (prodL g g.2.2 i (l.drop i.toNat) = false)⟩]⟩
noncomputable def ckT10.mu  : dens ckT10.sh → Nat := fun (g, l, n, i) => (n - i).toNat
noncomputable def ckT10.g  (g : List ByteArray × List ByteArray × List (Int × List Int)) (l : List (Int × List Int)) (n : Int) (i : Int) : Prop := GoodLA Tryd.prog (cfOf [nonIs]) [(12, ckT12), (14, ckT14)] 1000 24 10 ckT10 ckT10.mu (g, l, n, i)
noncomputable def ckT10.q2 (g : List ByteArray × List ByteArray × List (Int × List Int)) (l : List (Int × List Int)) (n : Int) (i : Int) : Prop := ((((True ∧ decide (i < n) = true) ∧ (0 : Int) ≤ i ∧ i < (↑l.length : Int)) ∧ gSmall g) ∧ (!nonS g (l.getD i.toNat ((0 : Int), [])).1) = false) ∧ List.length (l.getD i.toNat ((0 : Int), [])).2 ≤ (9223372036854775807 : Nat)
noncomputable def ckT10.q4 (g : List ByteArray × List ByteArray × List (Int × List Int)) (l : List (Int × List Int)) (n : Int) (i : Int) : Prop := ((ckT10.q2 g l n i) ∧ decide ((↑(List.length (l.getD i.toNat ((0 : Int), [])).2) : Int) > (6 : Int)) = false) ∧ List.length (l.getD i.toNat ((0 : Int), [])).2 ≤ (9223372036854775807 : Nat)
noncomputable def ckT10.q0 (g : List ByteArray × List ByteArray × List (Int × List Int)) (l : List (Int × List Int)) (n : Int) (i : Int) : Prop := (ckT10.q4 g l n i) ∧ gSmall g ∧ (↑(List.length (l.getD i.toNat ((0 : Int), [])).2) : Int) = (↑(List.length (l.getD i.toNat ((0 : Int), [])).2) : Int) ∧ (0 : Int) ≤ (0 : Int) ∧ (0 : Int) ≤ (↑(List.length (l.getD i.toNat ((0 : Int), [])).2) : Int) ∧ List.length (l.getD i.toNat ((0 : Int), [])).2 ≤ (9223372036854775807 : Nat)
noncomputable def ckT10.q3 (g : List ByteArray × List ByteArray × List (Int × List Int)) (l : List (Int × List Int)) (n : Int) (i : Int) : Prop := (((ckT10.q0 g l n i) ∧ (List.drop (Int.toNat (0 : Int)) (l.getD i.toNat ((0 : Int), [])).2).all (isS g) = true) ∧ (0 : Int) ≤ (0 : Int) ∧ (0 : Int) ≤ i ∧ i ≤ (↑(List.length g.2.2) : Int)) ∧ (List.drop (Int.toNat (0 : Int)) (List.take i.toNat g.2.2)).length ≤ (9223372036854775807 : Nat)
noncomputable def ckT10.q1 (g : List ByteArray × List ByteArray × List (Int × List Int)) (l : List (Int × List Int)) (n : Int) (i : Int) : Prop := (ckT10.q3 g l n i) ∧ (↑(List.drop (Int.toNat (0 : Int)) (List.take i.toNat g.2.2)).length : Int) = (↑(List.drop (Int.toNat (0 : Int)) (List.take i.toNat g.2.2)).length : Int) ∧ (0 : Int) ≤ (0 : Int) ∧ (0 : Int) ≤ (↑(List.drop (Int.toNat (0 : Int)) (List.take i.toNat g.2.2)).length : Int) ∧ (List.drop (Int.toNat (0 : Int)) (List.take i.toNat g.2.2)).length ≤ (9223372036854775807 : Nat)
noncomputable def ckT10.T (g : List ByteArray × List ByteArray × List (Int × List Int)) (l : List (Int × List Int)) (n : Int) (i : Int) : Prop := (((True ∧ decide (i < n) = true) ∧ (0 : Int) ≤ i ∧ i < (↑l.length : Int)) ∧ ¬gSmall g → False) ∧ ((((True ∧ decide (i < n) = true) ∧ (0 : Int) ≤ i ∧ i < (↑l.length : Int)) ∧ gSmall g) ∧ (!nonS g (l.getD i.toNat ((0 : Int), [])).1) = true → prodL g g.2.2 i (List.drop i.toNat l) = false ∧ false = false) ∧ ((ckT10.q2 g l n i) ∧ decide ((↑(List.length (l.getD i.toNat ((0 : Int), [])).2) : Int) > (6 : Int)) = true → prodL g g.2.2 i (List.drop i.toNat l) = false ∧ false = false) ∧ ((ckT10.q4 g l n i) ∧ ¬(gSmall g ∧ (↑(List.length (l.getD i.toNat ((0 : Int), [])).2) : Int) = (↑(List.length (l.getD i.toNat ((0 : Int), [])).2) : Int) ∧ (0 : Int) ≤ (0 : Int) ∧ (0 : Int) ≤ (↑(List.length (l.getD i.toNat ((0 : Int), [])).2) : Int) ∧ List.length (l.getD i.toNat ((0 : Int), [])).2 ≤ (9223372036854775807 : Nat)) → False) ∧ ((ckT10.q3 g l n i) ∧ ¬((↑(List.drop (Int.toNat (0 : Int)) (List.take i.toNat g.2.2)).length : Int) = (↑(List.drop (Int.toNat (0 : Int)) (List.take i.toNat g.2.2)).length : Int) ∧ (0 : Int) ≤ (0 : Int) ∧ (0 : Int) ≤ (↑(List.drop (Int.toNat (0 : Int)) (List.take i.toNat g.2.2)).length : Int) ∧ (List.drop (Int.toNat (0 : Int)) (List.take i.toNat g.2.2)).length ≤ (9223372036854775807 : Nat)) → False) ∧ ((ckT10.q1 g l n i) ∧ (List.drop (Int.toNat (0 : Int)) (List.drop (Int.toNat (0 : Int)) (List.take i.toNat g.2.2))).any (alkS (l.getD i.toNat ((0 : Int), []))) = false → (gSmall g ∧ l = g.2.2 ∧ n = (↑l.length : Int) ∧ (0 : Int) ≤ IntKind.i64.wrap (i + (1 : Int)) ∧ IntKind.i64.wrap (i + (1 : Int)) ≤ n ∧ l.length ≤ (9223372036854775807 : Nat)) ∧ ckT10.mu (g, l, n, IntKind.i64.wrap (i + (1 : Int))) < ckT10.mu (g, l, n, i) ∧ (prodL g g.2.2 (IntKind.i64.wrap (i + (1 : Int))) (List.drop (IntKind.i64.wrap (i + (1 : Int))).toNat l) = true → prodL g g.2.2 i (List.drop i.toNat l) = true ∧ () = ()) ∧ (prodL g g.2.2 (IntKind.i64.wrap (i + (1 : Int))) (List.drop (IntKind.i64.wrap (i + (1 : Int))).toNat l) = false → prodL g g.2.2 i (List.drop i.toNat l) = false ∧ false = false) ∧ True) ∧ ((ckT10.q1 g l n i) ∧ (List.drop (Int.toNat (0 : Int)) (List.drop (Int.toNat (0 : Int)) (List.take i.toNat g.2.2))).any (alkS (l.getD i.toNat ((0 : Int), []))) = true → prodL g g.2.2 i (List.drop i.toNat l) = false ∧ false = false) ∧ (((ckT10.q0 g l n i) ∧ (List.drop (Int.toNat (0 : Int)) (l.getD i.toNat ((0 : Int), [])).2).all (isS g) = true) ∧ ¬((0 : Int) ≤ (0 : Int) ∧ (0 : Int) ≤ i ∧ i ≤ (↑(List.length g.2.2) : Int)) → False) ∧ ((ckT10.q0 g l n i) ∧ (List.drop (Int.toNat (0 : Int)) (l.getD i.toNat ((0 : Int), [])).2).all (isS g) = false → prodL g g.2.2 i (List.drop i.toNat l) = false ∧ false = false) ∧ ((True ∧ decide (i < n) = true) ∧ ¬((0 : Int) ≤ i ∧ i < (↑l.length : Int)) → False) ∧ (True ∧ decide (i < n) = false → prodL g g.2.2 i (List.drop i.toNat l) = true ∧ () = ()) ∧ (True)
theorem ckT10.eq  (g : List ByteArray × List ByteArray × List (Int × List Int)) (l : List (Int × List Int)) (n : Int) (i : Int) : ckT10.g  g l n i = ckT10.T  g l n i := by kernel_rfl
theorem ckT10.ok  (g : List ByteArray × List ByteArray × List (Int × List Int)) (l : List (Int × List Int)) (n : Int) (i : Int) (hx : gSmall g ∧ l = g.2.2 ∧ n = l.length ∧ 0 ≤ i ∧ i ≤ n ∧ l.length ≤ 9223372036854775807) : ckT10.T  g l n i := by
  obtain ⟨hg, rfl, rfl, h0, h1, h2⟩ := hx
  delta ckT10.T ckT10.q2 ckT10.q4 ckT10.q0 ckT10.q3 ckT10.q1
  by_cases hi : i < (g.2.2.length : Int)
  · rw [drop_int (0, []) h0 hi, prodL, wrapI64 (x := i + 1) (by omega) (by omega)]
    have ht : (g.2.2.take i.toNat).length ≤ g.2.2.length := by rw [List.length_take]; omega
    simp only [show Int.toNat 0 = 0 from rfl, List.drop_zero]
    generalize g.2.2.getD i.toNat (0, []) = p at *
    generalize g.2.2.drop (i + 1).toNat = r at *
    rw [all_strange]
    generalize List.any (List.take i.toNat g.2.2) (alkS p) = b at *
    generalize p.2.any (strange g) = c at *
    generalize nonS g p.1 = d at *
    have hl : decide (p.2.length ≤ 6) = !(decide ((p.2.length : Int) > 6)) := by
      by_cases h : p.2.length ≤ 6
      · rw [decide_eq_true h, decide_eq_false (show ¬ (p.2.length : Int) > 6 by omega)]; rfl
      · rw [decide_eq_false h, decide_eq_true (show (p.2.length : Int) > 6 by omega)]; rfl
    rw [hl]
    generalize prodL g g.2.2 (i + 1) r = q at *
    ((repeat' (first | exact trivial | apply And.intro)) <;> (intro hw; (try (simp only [zP, reduceCtorEq] at hw)); (try first | (exfalso; omega) | exact ⟨trivial, rfl⟩ | exact (hw hx).elim | exact (hw.2 hx).elim)))
    all_goals first
      | (exfalso; omega)
      | exact (hw.2 hg).elim
      | exact (hw.2 ⟨hg, by omega, by omega, by omega, by omega⟩).elim
      | exact (hw.2 ⟨hg, by omega, by omega, by omega⟩).elim
      | (exfalso; clear hl; simp_all; done)
      | (refine ⟨?_, trivial⟩; clear hl; simp_all; done)
      | (refine ⟨?_, by first | rfl | trivial⟩; clear hl; simp_all; done)
      | (refine ⟨⟨hg, trivial, trivial, by omega, by omega, h2⟩, by simp only [ckT10.mu]; omega, fun h => ⟨?_, trivial⟩, fun h => ⟨?_, trivial⟩, trivial⟩ <;> (clear hl; simp_all; done))
      | (refine ⟨⟨hg, rfl, rfl, by omega, by omega, h2⟩, by simp only [ckT10.mu]; omega, fun h => ⟨?_, by first | rfl | trivial⟩, fun h => ⟨?_, by first | rfl | trivial⟩, trivial⟩ <;> (clear hl; simp_all; done))
      | trace_state
  · rw [drop_int_end hi, prodL]
    ((repeat' (first | exact trivial | apply And.intro)) <;> (intro hw; (try (simp only [zP, reduceCtorEq] at hw)); (try first | (exfalso; omega) | exact ⟨trivial, rfl⟩ | exact (hw hx).elim | exact (hw.2 hx).elim)))
    all_goals first
      | (exfalso; omega)
      | exact ⟨rfl, rfl⟩
      | trace_state
theorem ckT10.lp   : LpAt Tryd.prog 24 10 ckT10 := lp_evalH (l := [(12, ckT12), (14, ckT14)]) (lf := 1000) (fun _ => cfOf_ok (fns_cons nonIs.fn (fns_nil _))) (lps_cons (ckT12.lp) (lps_cons (ckT14.lp) (lps_nil _ _))) (by kernel_rfl) _ (ckT10.mu ) (fun ⟨g, l, n, i⟩ hx => Hid.of (ckT10.eq  g l n i) (ckT10.ok  g l n i hx))
theorem take_app_le {α : Type} {a b : List α} {i : Nat} (h : i ≤ a.length) : (a ++ b).take i = a.take i := by
  rw [List.take_append_of_le_length h]
theorem memB_app (s : ByteArray) : ∀ a b : List ByteArray, memB s (a ++ b) = (memB s a || memB s b)
  | [], b => by rw [List.nil_append, memB_nil, Bool.false_or]
  | x :: a, b => by rw [List.cons_append, memB_cons, memB_cons, memB_app s a b, Bool.or_assoc]
theorem memB_great {s : ByteArray} : ∀ {l : List ByteArray}, memB s l = true → ∃ a ∈ l, grB1 a = grB1 s
  | [], h => by cases h
  | x :: l, h => by
    rw [memB_cons, Bool.or_eq_true, beq_iff_eq] at h
    rcases h with h | h
    · refine ⟨x, List.mem_cons_self .., ?_⟩
      rw [toList_data, toList_data] at h
      unfold grB1 bI
      rw [h]
    · obtain ⟨a, ha, e⟩ := memB_great h
      exact ⟨a, List.mem_cons_of_mem _ ha, e⟩
theorem rterm_great (al : List ByteArray) : ∀ (l : List ByteArray) (i : Int), rtermL al i l = true → ∀ s ∈ l, grB1 s = false
  | [], _, _, s, hs => by simp at hs
  | a :: r, i, h, s, hs => by
    simp only [rtermL, Bool.and_eq_true, Bool.not_eq_true'] at h
    rcases List.mem_cons.1 hs with e | hs
    · rw [e]; exact h.2.1
    · exact rterm_great al r (i + 1) h.2.2.2 s hs
theorem names_T (T N : List ByteArray) : ∀ (l : List ByteArray) (i : Int), 0 ≤ i → i + l.length = T.length → namesL (T.length : Int) (T ++ N) i (l ++ N) = (rtermL T i l && namesL (T.length : Int) (T ++ N) (T.length : Int) N)
  | [], i, h0, h => by
    rw [List.length_nil] at h
    rw [List.nil_append, rtermL, Bool.true_and, show i = (T.length : Int) by omega]
  | s :: l, i, h0, h => by
    rw [List.length_cons] at h
    rw [List.cons_append, namesL, rtermL, names_T T N l (i + 1) (by omega) (by omega), decide_eq_false (show ¬ (T.length : Int) ≤ i by omega), take_app_le (by omega)]
    generalize nameL (bI s) = a
    generalize grB1 s = b
    generalize memB s (T.take i.toNat) = c
    cases a <;> cases b <;> cases c <;> simp
theorem names_N (g : Gr) (T N : List ByteArray) (hT : ∀ s ∈ T, grB1 s = false) : ∀ (l : List ByteArray) (j : Int), 0 ≤ j → namesL (T.length : Int) (T ++ N) ((T.length : Int) + j) l = true → leftsL g.2.2 l.length j = true → rnonL g N j l = true
  | [], j, h0, _, _ => rfl
  | s :: l, j, h0, h, h2 => by
    rw [List.length_cons, leftsL, Bool.and_eq_true] at h2
    rw [namesL] at h
    simp only [Bool.and_eq_true, Bool.not_eq_true', beq_iff_eq] at h
    obtain ⟨h3, h4, h5, h6⟩ := h
    rw [show (T.length : Int) + j + 1 = (T.length : Int) + (j + 1) by omega] at h6
    have ih := names_N g T N hT l (j + 1) (by omega) h6 h2.2
    rw [decide_eq_true (show (T.length : Int) ≤ (T.length : Int) + j by omega)] at h4
    rw [show ((T.length : Int) + j).toNat = T.length + j.toNat by omega, List.take_append, List.take_of_length_le (by omega), memB_app, Bool.or_eq_false_iff, show T.length + j.toNat - T.length = j.toNat by omega] at h5
    rw [rnonL, h3, h4, h5.2, h2.1, ih]; rfl
theorem names_N2 (g : Gr) (T N : List ByteArray) (hT : ∀ s ∈ T, grB1 s = false) : ∀ (l : List ByteArray) (j : Int), 0 ≤ j → rnonL g N j l = true → namesL (T.length : Int) (T ++ N) ((T.length : Int) + j) l = true ∧ leftsL g.2.2 l.length j = true
  | [], j, h0, _ => ⟨rfl, rfl⟩
  | s :: l, j, h0, h => by
    rw [rnonL] at h
    simp only [Bool.and_eq_true, Bool.not_eq_true'] at h
    obtain ⟨h3, h4, h5, h6, h7⟩ := h
    obtain ⟨a1, a2⟩ := names_N2 g T N hT l (j + 1) (by omega) h7
    have hm : memB s T = false := by
      cases hm : memB s T with
      | false => rfl
      | true =>
        obtain ⟨a, ha, e⟩ := memB_great hm
        rw [hT a ha, h4] at e; cases e
    refine ⟨?_, by rw [List.length_cons, leftsL, h6, a2]; rfl⟩
    rw [namesL, h3, h4, decide_eq_true (show (T.length : Int) ≤ (T.length : Int) + j by omega), show ((T.length : Int) + j).toNat = T.length + j.toNat by omega, List.take_append, List.take_of_length_le (by omega), memB_app, hm, show T.length + j.toNat - T.length = j.toNat by omega, h5, show (T.length : Int) + j + 1 = (T.length : Int) + (j + 1) by omega, a1]
    rfl
theorem check_both (g : Gr) : (rtermL g.1 0 g.1 && rnonL g g.2.1 0 g.2.1) = (namesS g && leftsL g.2.2 g.2.1.length 0) := by
  have h := names_T g.1 g.2.1 g.1 0 (Int.le_refl _) (by omega)
  rw [namesS, h]
  cases ht : rtermL g.1 0 g.1 with
  | false => rfl
  | true =>
    have hg := rterm_great _ _ _ ht
    have e : namesL (g.1.length : Int) (g.1 ++ g.2.1) (g.1.length : Int) g.2.1 = namesL (g.1.length : Int) (g.1 ++ g.2.1) ((g.1.length : Int) + 0) g.2.1 := by rw [Int.add_zero]
    rw [Bool.true_and, Bool.true_and, e, Bool.eq_iff_iff, Bool.and_eq_true]
    exact ⟨fun h => names_N2 g _ _ hg _ 0 (Int.le_refl _) h, fun h => names_N g _ _ hg _ 0 (Int.le_refl _) h.1 h.2⟩
theorem checkB_ref (g : Gr) : checkB g = (cntB g.1.length 8 && (cntB g.2.1.length 8 && (cntB g.2.2.length 24 && (rtermL g.1 0 g.1 && (rnonL g g.2.1 0 g.2.1 && prodsS g))))) := by
  have h := check_both g
  rw [checkB]
  generalize rtermL g.1 0 g.1 = a at *
  generalize rnonL g g.2.1 0 g.2.1 = b at *
  generalize namesS g = c at *
  generalize leftsL g.2.2 g.2.1.length 0 = d at *
  generalize prodsS g = e at *
  cases a <;> cases b <;> cases c <;> cases d <;> cases e <;> first | rfl | cases h
noncomputable def rcheckF  : Face := ⟨24, [.v GR], fun g => some (okG g),
  [⟨false, [.v .bool], fun g => checkB g, fun g => none⟩]⟩
noncomputable def rcheckF.g  (g : List ByteArray × List ByteArray × List (Int × List Int)) : Prop := GoodFA Tryd.prog (cfOf []) [(0, ckT0), (4, ckT4), (10, ckT10)] 1000 rcheckF g
noncomputable def rcheckF.q5 (g : List ByteArray × List ByteArray × List (Int × List Int)) : Prop := ((True ∧ List.length g.1 ≤ (9223372036854775807 : Nat)) ∧ decide ((↑(List.length g.1) : Int) < (1 : Int)) = false) ∧ List.length g.1 ≤ (9223372036854775807 : Nat)
noncomputable def rcheckF.q1 (g : List ByteArray × List ByteArray × List (Int × List Int)) : Prop := ((((rcheckF.q5 g) ∧ decide ((↑(List.length g.1) : Int) > (8 : Int)) = false) ∧ List.length g.2.1 ≤ (9223372036854775807 : Nat)) ∧ decide ((↑(List.length g.2.1) : Int) < (1 : Int)) = false) ∧ List.length g.2.1 ≤ (9223372036854775807 : Nat)
noncomputable def rcheckF.q3 (g : List ByteArray × List ByteArray × List (Int × List Int)) : Prop := ((((rcheckF.q1 g) ∧ decide ((↑(List.length g.2.1) : Int) > (8 : Int)) = false) ∧ List.length g.2.2 ≤ (9223372036854775807 : Nat)) ∧ decide ((↑(List.length g.2.2) : Int) < (1 : Int)) = false) ∧ List.length g.2.2 ≤ (9223372036854775807 : Nat)
noncomputable def rcheckF.q0 (g : List ByteArray × List ByteArray × List (Int × List Int)) : Prop := (((rcheckF.q3 g) ∧ decide ((↑(List.length g.2.2) : Int) > (24 : Int)) = false) ∧ List.length g.1 ≤ (9223372036854775807 : Nat)) ∧ g.1 = g.1 ∧ (↑(List.length g.1) : Int) = (↑(List.length g.1) : Int) ∧ (0 : Int) ≤ (0 : Int) ∧ (0 : Int) ≤ (↑(List.length g.1) : Int) ∧ List.length g.1 ≤ (9223372036854775807 : Nat) ∧ okN g.1
noncomputable def rcheckF.q2 (g : List ByteArray × List ByteArray × List (Int × List Int)) : Prop := (((rcheckF.q0 g) ∧ rtermL g.1 (0 : Int) (List.drop (Int.toNat (0 : Int)) g.1) = true) ∧ List.length g.2.1 ≤ (9223372036854775807 : Nat)) ∧ g.2.1 = g.2.1 ∧ (↑(List.length g.2.1) : Int) = (↑(List.length g.2.1) : Int) ∧ (0 : Int) ≤ (0 : Int) ∧ (0 : Int) ≤ (↑(List.length g.2.1) : Int) ∧ List.length g.2.1 ≤ (99 : Nat) ∧ okN g.2.1
noncomputable def rcheckF.q4 (g : List ByteArray × List ByteArray × List (Int × List Int)) : Prop := (((rcheckF.q2 g) ∧ rnonL g g.2.1 (0 : Int) (List.drop (Int.toNat (0 : Int)) g.2.1) = true) ∧ List.length g.2.2 ≤ (9223372036854775807 : Nat)) ∧ gSmall g ∧ g.2.2 = g.2.2 ∧ (↑(List.length g.2.2) : Int) = (↑(List.length g.2.2) : Int) ∧ (0 : Int) ≤ (0 : Int) ∧ (0 : Int) ≤ (↑(List.length g.2.2) : Int) ∧ List.length g.2.2 ≤ (9223372036854775807 : Nat)
noncomputable def rcheckF.T (g : List ByteArray × List ByteArray × List (Int × List Int)) : Prop := ((True ∧ List.length g.1 ≤ (9223372036854775807 : Nat)) ∧ decide ((↑(List.length g.1) : Int) < (1 : Int)) = true → True ∧ false = checkB g) ∧ ((rcheckF.q5 g) ∧ decide ((↑(List.length g.1) : Int) > (8 : Int)) = true → True ∧ false = checkB g) ∧ ((((rcheckF.q5 g) ∧ decide ((↑(List.length g.1) : Int) > (8 : Int)) = false) ∧ List.length g.2.1 ≤ (9223372036854775807 : Nat)) ∧ decide ((↑(List.length g.2.1) : Int) < (1 : Int)) = true → True ∧ false = checkB g) ∧ ((rcheckF.q1 g) ∧ decide ((↑(List.length g.2.1) : Int) > (8 : Int)) = true → True ∧ false = checkB g) ∧ ((((rcheckF.q1 g) ∧ decide ((↑(List.length g.2.1) : Int) > (8 : Int)) = false) ∧ List.length g.2.2 ≤ (9223372036854775807 : Nat)) ∧ decide ((↑(List.length g.2.2) : Int) < (1 : Int)) = true → True ∧ false = checkB g) ∧ ((rcheckF.q3 g) ∧ decide ((↑(List.length g.2.2) : Int) > (24 : Int)) = true → True ∧ false = checkB g) ∧ ((((rcheckF.q3 g) ∧ decide ((↑(List.length g.2.2) : Int) > (24 : Int)) = false) ∧ List.length g.1 ≤ (9223372036854775807 : Nat)) ∧ ¬(g.1 = g.1 ∧ (↑(List.length g.1) : Int) = (↑(List.length g.1) : Int) ∧ (0 : Int) ≤ (0 : Int) ∧ (0 : Int) ≤ (↑(List.length g.1) : Int) ∧ List.length g.1 ≤ (9223372036854775807 : Nat) ∧ okN g.1) → False) ∧ ((((rcheckF.q0 g) ∧ rtermL g.1 (0 : Int) (List.drop (Int.toNat (0 : Int)) g.1) = true) ∧ List.length g.2.1 ≤ (9223372036854775807 : Nat)) ∧ ¬(g.2.1 = g.2.1 ∧ (↑(List.length g.2.1) : Int) = (↑(List.length g.2.1) : Int) ∧ (0 : Int) ≤ (0 : Int) ∧ (0 : Int) ≤ (↑(List.length g.2.1) : Int) ∧ List.length g.2.1 ≤ (99 : Nat) ∧ okN g.2.1) → False) ∧ ((((rcheckF.q2 g) ∧ rnonL g g.2.1 (0 : Int) (List.drop (Int.toNat (0 : Int)) g.2.1) = true) ∧ List.length g.2.2 ≤ (9223372036854775807 : Nat)) ∧ ¬(gSmall g ∧ g.2.2 = g.2.2 ∧ (↑(List.length g.2.2) : Int) = (↑(List.length g.2.2) : Int) ∧ (0 : Int) ≤ (0 : Int) ∧ (0 : Int) ≤ (↑(List.length g.2.2) : Int) ∧ List.length g.2.2 ≤ (9223372036854775807 : Nat)) → False) ∧ ((rcheckF.q4 g) ∧ prodL g g.2.2 (0 : Int) (List.drop (Int.toNat (0 : Int)) g.2.2) = true → True ∧ true = checkB g) ∧ ((rcheckF.q4 g) ∧ prodL g g.2.2 (0 : Int) (List.drop (Int.toNat (0 : Int)) g.2.2) = false → True ∧ false = checkB g) ∧ ((rcheckF.q2 g) ∧ rnonL g g.2.1 (0 : Int) (List.drop (Int.toNat (0 : Int)) g.2.1) = false → True ∧ false = checkB g) ∧ ((rcheckF.q0 g) ∧ rtermL g.1 (0 : Int) (List.drop (Int.toNat (0 : Int)) g.1) = false → True ∧ false = checkB g) ∧ (True)
theorem rcheckF.eq  (g : List ByteArray × List ByteArray × List (Int × List Int)) : rcheckF.g  g = rcheckF.T  g := by kernel_rfl
theorem rcheckF.ok  (g : List ByteArray × List ByteArray × List (Int × List Int)) (hx : okG g) : rcheckF.T  g := by
  obtain ⟨hg, h1, h2, h3⟩ := hx
  have hg1 := hg.1
  have hg2 := hg.2
  delta rcheckF.T rcheckF.q5 rcheckF.q1 rcheckF.q3 rcheckF.q0 rcheckF.q2 rcheckF.q4
  rw [checkB_ref, cntB, cntB, cntB, prodsS]
  simp only [show Int.toNat 0 = 0 from rfl, List.drop_zero]
  generalize rtermL g.1 0 g.1 = a at *
  generalize rnonL g g.2.1 0 g.2.1 = b at *
  generalize prodL g g.2.2 0 g.2.2 = c at *
  ((repeat' (first | exact trivial | apply And.intro)) <;> (intro hw; (try (simp only [zP, reduceCtorEq] at hw)); (try first | (exfalso; omega) | exact ⟨trivial, rfl⟩ | exact (hw hx).elim | exact (hw.2 hx).elim)))
  all_goals first
    | (exfalso; omega)
    | (refine ⟨trivial, ?_⟩; rw [decide_eq_false (show ¬ (1 : Int) ≤ (g.1.length : Int) by omega)]; simp; done)
    | (refine ⟨trivial, ?_⟩; rw [decide_eq_false (show ¬ (g.1.length : Int) ≤ 8 by omega)]; simp; done)
    | (refine ⟨trivial, ?_⟩; rw [decide_eq_false (show ¬ (1 : Int) ≤ (g.2.1.length : Int) by omega)]; simp; done)
    | (refine ⟨trivial, ?_⟩; rw [decide_eq_false (show ¬ (g.2.1.length : Int) ≤ 8 by omega)]; simp; done)
    | (refine ⟨trivial, ?_⟩; rw [decide_eq_false (show ¬ (1 : Int) ≤ (g.2.2.length : Int) by omega)]; simp; done)
    | (refine ⟨trivial, ?_⟩; rw [decide_eq_false (show ¬ (g.2.2.length : Int) ≤ 24 by omega)]; simp; done)
    | exact (hw.2 ⟨trivial, trivial, by omega, by omega, by omega, h1⟩).elim
    | exact (hw.2 ⟨trivial, trivial, by omega, by omega, by omega, h2⟩).elim
    | exact (hw.2 ⟨hg, trivial, trivial, by omega, by omega, by omega⟩).elim
    | exact (hw.2 ⟨by omega, by omega, by omega, h1⟩).elim
    | exact (hw.2 ⟨by omega, by omega, by omega, h2⟩).elim
    | exact (hw.2 ⟨hg, by omega, by omega, by omega⟩).elim
    | (refine ⟨trivial, ?_⟩; rw [decide_eq_true (show (1 : Int) ≤ (g.1.length : Int) by omega), decide_eq_true (show (g.1.length : Int) ≤ 8 by omega), decide_eq_true (show (1 : Int) ≤ (g.2.1.length : Int) by omega), decide_eq_true (show (g.2.1.length : Int) ≤ 8 by omega), decide_eq_true (show (1 : Int) ≤ (g.2.2.length : Int) by omega), decide_eq_true (show (g.2.2.length : Int) ≤ 24 by omega)]; simp_all; done)
    | trace_state
theorem rcheckF.fn   : FnOk Tryd.prog rcheckF := fn_evalH (l := [(0, ckT0), (4, ckT4), (10, ckT10)]) (lf := 1000) (fun _ => cfOf_ok (fns_nil _)) _ (lps_cons (ckT0.lp) (lps_cons (ckT4.lp) (lps_cons (ckT10.lp) (lps_nil _ _)))) (by kernel_rfl) (fun g hx => Hid.of (rcheckF.eq  g) (rcheckF.ok  g hx))
end Go.Proofs.YtajnboigikdefaaDoor.D

namespace Go.Proofs.YtajnboigikdefaaDoor.D
open Go Go.EV Go.Proofs
set_option linter.unusedVariables false
set_option linter.unusedSimpArgs false
set_option maxRecDepth 100000
theorem chk_small {g : Gr} (hk : Chk g) : smallR g.2.2 := fun p hp n hn => by
  rcases (hk.ps p hp).2.2 n hn with e | e
  · rw [termS_iff] at e; have := hk.t2; omega
  · rw [nonS_iff] at e; have := hk.n2; omega
theorem more_sub {g h : Gr} {p : Int × List Int} (hc : checkB g = true) (hch : checkB h = true) (hoh : okG h) (hp : h.2.2 = g.2.2 ++ [p]) :
    (∀ tm, subS (growS tm g) (growS tm h)) ∧ subS (reachedS g) (reachedS h) ∧ ((trimS g).2 = 0 → (trimS h).2 = 0 ∧ subS (ofI (trimS g).1 0) (ofI (trimS h).1 0)) := by
  have hk := chk_of hch
  have hl := hk.okL hoh.2.2.2
  have hm : ∀ q ∈ g.2.2, q ∈ h.2.2 := fun q hq => by rw [hp]; exact List.mem_append_left _ hq
  have h1 : ∀ tm, subS (growS tm g) (growS tm h) := fun tm => by
    rw [growS, growS, if_pos hc, if_pos hch]
    exact fixS_least tm fun q hq ha => fixS_closed tm hl 0 q (hm q hq) ha
  refine ⟨h1, ?_, fun h0 => ?_⟩
  · rw [reachedS, reachedS, if_pos hc, if_pos hch]
    have s3 : comes h.2.2 (comeF h.2.2 (ofI [0] 0)) := comeN_closed (chk_small hk) (missing (ofI [0] 0) + 1) (ofI [0] 0) (okU_ofI [0] okU_0) (Nat.lt_succ_self _)
    exact comeN_least (fun q hq => s3 q (hm q hq)) _ _ (comeN_sub _ _ _)
  · have eg : trimS g = if hI (growS true g) 0 = true then (trimL (growS true g) 0 g.2.2, 0) else ([], 6) := by rw [trimS, if_pos hc]
    have eh : trimS h = if hI (growS true h) 0 = true then (trimL (growS true h) 0 h.2.2, 0) else ([], 6) := by rw [trimS, if_pos hch]
    rw [eg] at h0 ⊢
    rw [eh]
    cases hF : hI (growS true g) 0 with
    | false => rw [hF, if_neg Bool.false_ne_true] at h0; exact absurd h0 (by decide)
    | true =>
      rw [if_pos rfl, if_pos (h1 true 0 hF)]
      refine ⟨rfl, fun n hn => ?_⟩
      rw [hI_ofI, hI_0, Bool.false_or, decide_eq_true_eq, trimL_mem, Bool.and_eq_true] at hn ⊢
      obtain ⟨⟨a1, a2, a3, a4⟩, a5⟩ := hn
      have e : h.2.2.getD (n - 0).toNat (0, []) = g.2.2.getD (n - 0).toNat (0, []) := by
        rw [hp, List.getD_eq_getElem?_getD, List.getElem?_append_left (by omega), ← List.getD_eq_getElem?_getD]
      rw [e]
      have hl : h.2.2.length = g.2.2.length + 1 := by rw [hp, List.length_append]; rfl
      exact ⟨⟨a1, by omega, h1 true _ a3, allT_mono (h1 true) a4⟩, a5⟩
theorem map_symS {g : Gr} (ht : 1 ≤ g.1.length) (ht2 : g.1.length ≤ 9) (hn : g.2.1.length ≤ 99) (l : List Int) : okR (l.map (symS g.1.length g.2.1.length)) := fun s hs => by
  obtain ⟨r, _, e⟩ := List.mem_map.1 hs
  rw [← e]
  rcases symS_ok (g := g) rfl rfl ht ht2 r with e | e
  · rw [termS_iff] at e; omega
  · rw [nonS_iff] at e; omega
def rmH (r : Raw) (row : List Int) (left : Int) : Gr := ((anyS r).1, (anyS r).2.1, (anyS r).2.2 ++ [(IntKind.i64.wrap (100 + left % ((anyS r).2.1.length : Int)), [] ++ List.map (symS ((anyS r).1.length : Int) ((anyS r).2.1.length : Int)) (List.drop (Int.toNat 0) (List.take 3 row)))])
end Go.Proofs.YtajnboigikdefaaDoor.D

namespace Go.Proofs.YtajnboigikdefaaDoor.D
open Go Go.EV Go.Proofs
set_option linter.unusedVariables false
set_option linter.unusedSimpArgs false
set_option maxRecDepth 100000
def leTab (l m : List Int) : Prop := ∀ i : Nat, subS (l.getD i 0) (m.getD i 0)
theorem sub_zero {s : Int} (hs : okU s) (h : subS s 0) : s = 0 := hI_ext hs okU_0 fun n => by
  cases hn : hI s n with
  | true => have := h n hn; rw [hI_0] at this; cases this
  | false => rw [hI_0]
theorem one_mono {l m : List Int} {tm : Int} (hl : l.length = m.length) (h : leTab l m) (n : Int) : subS (oneS (l, tm) n) (oneS (m, tm) n) := by
  unfold oneS
  show subS (if 1 ≤ n ∧ n ≤ tm then _ else if 100 ≤ n ∧ n - 100 < (l.length : Int) then l.getD (n - 100).toNat 0 else 0) (if 1 ≤ n ∧ n ≤ tm then _ else if 100 ≤ n ∧ n - 100 < (m.length : Int) then m.getD (n - 100).toNat 0 else 0)
  rw [hl]
  split
  · exact fun k hk => hk
  · split
    · exact h _
    · exact fun k hk => hk
theorem fH_mono {t u : Tab} (h : ∀ n, subS (oneS t n) (oneS u n)) : ∀ (l : List Int) (n : Int), fH t l n = true → fH u l n = true
  | [], n, hn => hn
  | m :: r, n, hn => by
    rw [fH, Bool.or_eq_true, Bool.and_eq_true, Bool.and_eq_true] at hn ⊢
    rcases hn with ⟨h1, h2⟩ | ⟨h1, h2⟩
    · exact .inl ⟨h m n h1, h2⟩
    · exact .inr ⟨h m 0 h1, fH_mono h r n h2⟩
theorem ofL_zero {t : Tab} {al : List Int} (hw : wordsS t al = false) : ∀ (l : List Int) (o : Int), (∃ m ∈ l, oneS t m = 0) → ofL t al l o = 0
  | [], o, h => by obtain ⟨m, hm, _⟩ := h; simp at hm
  | n :: r, o, h => by
    rw [ofL]
    split
    · rfl
    · rename_i h1
      split
      · apply ofL_zero hw r
        obtain ⟨m, hm, e⟩ := h
        rcases List.mem_cons.1 hm with e2 | hm
        · subst e2; exact absurd e h1
        · exact ⟨m, hm, e⟩
      · rw [hw]; rfl
theorem ofS_zero {t : Tab} {l : List Int} (h : ∃ m ∈ l, oneS t m = 0) : ofS t l = 0 := by
  apply ofL_zero _ l 0 h
  rw [wordsS, List.all_eq_false]
  obtain ⟨m, hm, e⟩ := h
  exact ⟨m, hm, by rw [decide_eq_true_eq]; exact fun h => h e⟩
theorem ofS_mono {l m : List Int} {tm : Int} (ht : okTab (l, tm)) (hu : okTab (m, tm)) (hl : l.length = m.length) (h : leTab l m) (ss : List Int) : subS (ofS (l, tm) ss) (ofS (m, tm) ss) := fun n hn => by
  have h1 := one_mono (tm := tm) hl h
  by_cases hz : ∃ q ∈ ss, oneS (l, tm) q = 0
  · rw [ofS_zero hz, hI_0] at hn; cases hn
  · have a1 : ∀ q ∈ ss, oneS (l, tm) q ≠ 0 := fun q hq e => hz ⟨q, hq, e⟩
    have a2 : ∀ q ∈ ss, oneS (m, tm) q ≠ 0 := fun q hq e => a1 q hq (sub_zero (okU_one ht q) (e ▸ h1 q))
    rw [hI_ofS ht a1] at hn
    rw [hI_ofS hu a2]
    exact fH_mono h1 ss n hn
theorem newC_false {g : Gr} {tm : Int} : ∀ (ks l : List Int), okPl g l.length ks → newC g tm ks l = false → ∀ k ∈ ks, newV g tm l k = l.getD (newAt g k) 0
  | [], l, _, _, k, hk => by simp at hk
  | q :: r, l, hp, h, k, hk => by
    obtain ⟨a1, a2, a3, a4, a5⟩ := hp q (List.mem_cons_self ..)
    have hq : newAt g q < l.length := by unfold newAt; omega
    rw [newC, Bool.or_eq_false_iff, decide_eq_false_iff_not, Classical.not_not] at h
    obtain ⟨h1, h2⟩ := h
    have hset : l.set (newAt g q) (newV g tm l q) = l := by
      rw [h1, List.getD_eq_getElem?_getD, List.getElem?_eq_getElem hq, Option.getD_some, List.set_getElem_self]
    rw [hset] at h2
    rcases List.mem_cons.1 hk with e | hk
    · rw [e]; exact h1
    · exact newC_false r l (fun x hx => hp x (List.mem_cons_of_mem _ hx)) h2 k hk
theorem newN_closed {g : Gr} {tm : Int} {ks : List Int} : ∀ (k : Nat) (l : List Int), okPl g l.length ks → okTab (l, tm) → sumM l < k → newC g tm ks (newN g tm ks k l) = false
  | 0, _, _, _, h => by omega
  | k + 1, l, hp, ht, h1 => by
    rw [newN]
    split
    · rename_i h
      have := (newR_le ks l hp ht).2.1 h
      obtain ⟨q1, q2⟩ := newR_ok ks l hp ht
      exact newN_closed k _ (by rw [q2]; exact hp) q1 (by omega)
    · rename_i h; simpa using h
theorem leTab_set {l m : List Int} {i : Nat} {s : Int} (h : leTab l m) (hs : subS s (m.getD i 0)) : leTab (l.set i s) m := fun j => by
  rw [List.getD_eq_getElem?_getD, List.getElem?_set]
  split
  · rename_i e
    subst e
    split
    · exact hs
    · rw [Option.getD_none]; intro n hn; rw [hI_0] at hn; cases hn
  · have := h j; rw [List.getD_eq_getElem?_getD] at this; exact this
def clTab (g : Gr) (tm : Int) (ks L : List Int) : Prop := ∀ k ∈ ks, subS (ofS (L, tm) (g.2.2.getD k.toNat (0, [])).2) (L.getD (newAt g k) 0)
theorem newR_mono {g : Gr} {tm : Int} {L : List Int} (hL : okTab (L, tm)) : ∀ (ks l : List Int), okPl g l.length ks → okTab (l, tm) → l.length = L.length → clTab g tm ks L → leTab l L → leTab (newR g tm ks l) L
  | [], l, _, _, _, _, h => h
  | k :: r, l, hp, ht, hlen, hc, h => by
    obtain ⟨a1, a2, a3, a4, a5⟩ := hp k (List.mem_cons_self ..)
    have hk : newAt g k < l.length := by unfold newAt; omega
    have hv : subS (newV g tm l k) (L.getD (newAt g k) 0) := fun n hn => by
      unfold newV at hn
      rw [hI_jI, Bool.or_eq_true] at hn
      rcases hn with hn | hn
      · exact h _ n hn
      · exact hc k (List.mem_cons_self ..) n (ofS_mono ht hL hlen h _ n hn)
    rw [newR]
    exact newR_mono hL r _ (by rw [List.length_set]; exact fun q hq => hp q (List.mem_cons_of_mem _ hq)) (okTab_set ht (okU_newV ht hk) _) (by rw [List.length_set]; exact hlen) (fun q hq => hc q (List.mem_cons_of_mem _ hq)) (leTab_set h hv)
theorem newN_mono {g : Gr} {tm : Int} {ks L : List Int} (hL : okTab (L, tm)) (hc : clTab g tm ks L) : ∀ (k : Nat) (l : List Int), okPl g l.length ks → okTab (l, tm) → l.length = L.length → leTab l L → leTab (newN g tm ks k l) L
  | 0, l, _, _, _, h => h
  | k + 1, l, hp, ht, hlen, h => by
    rw [newN]
    split
    · obtain ⟨q1, q2⟩ := newR_ok ks l hp ht
      exact newN_mono hL hc k _ (by rw [q2]; exact hp) q1 (q2.trans hlen) (newR_mono hL ks l hp ht hlen hc h)
    · exact h
theorem newS_closed {g : Gr} (hc : checkB g = true) (ho : okG g) : clTab g (g.1.length : Int) (trimS g).1 (newS g).1 := fun k hk => by
  obtain ⟨p1, p2⟩ := trim_pl hc ho
  have ht := okTab_0 ho.1.1 ho.1.2
  have hpl : okPl g (List.replicate g.2.1.length (0 : Int)).length (trimS g).1 := by rw [List.length_replicate]; exact p1
  have h1 := newN_closed (g := g) (tm := (g.1.length : Int)) (ks := (trimS g).1) (sumM (List.replicate g.2.1.length 0) + 1) _ hpl ht (Nat.lt_succ_self _)
  obtain ⟨n1, n2⟩ := newS_ok hc ho
  have h2 := newC_false (g := g) (tm := (g.1.length : Int)) (trimS g).1 (newS g).1 (by rw [n2]; exact p1) h1 k hk
  intro n hn
  rw [← h2]
  unfold newV
  rw [hI_jI, Bool.or_eq_true]
  exact .inr hn
theorem newS_mono {g h : Gr} {p : Int × List Int} (hc : checkB g = true) (hg : okG g) (hch : checkB h = true) (hh : okG h) (e1 : h.1 = g.1) (e2 : h.2.1 = g.2.1) (e3 : h.2.2 = g.2.2 ++ [p]) (h0 : (trimS g).2 = 0) : leTab (newS g).1 (newS h).1 := by
  obtain ⟨p1, p2⟩ := trim_pl hc hg
  obtain ⟨n1, n2⟩ := newS_ok hch hh
  have ht := okTab_0 hg.1.1 hg.1.2
  have hpl : okPl g (List.replicate g.2.1.length (0 : Int)).length (trimS g).1 := by rw [List.length_replicate]; exact p1
  have hcl := newS_closed hch hh
  have hsub := (more_sub hc hch hh e3).1
  have hF := (more_sub hc hch hh e3).2.2 h0
  have hget : ∀ k : Int, 0 ≤ k → k < g.2.2.length → h.2.2.getD k.toNat (0, []) = g.2.2.getD k.toNat (0, []) := fun k a1 a2 => by
    rw [e3, List.getD_eq_getElem?_getD, List.getElem?_append_left (by omega), ← List.getD_eq_getElem?_getD]
  have hmem : ∀ k ∈ (trimS g).1, k ∈ (trimS h).1 := fun k hk => by
    have h3 := hF.1
    rw [trimS, if_pos hc] at hk h0
    rw [trimS, if_pos hch] at h3 ⊢
    cases hz : hI (growS true g) 0 with
    | false => rw [hz, if_neg Bool.false_ne_true] at h0; exact absurd h0 (by decide)
    | true =>
      rw [hz, if_pos rfl] at hk
      rw [if_pos (hsub true 0 hz)]
      rw [trimL_mem, Bool.and_eq_true] at hk ⊢
      obtain ⟨b1, b2, b3, b4⟩ := hk
      rw [show k - 0 = k by omega] at *
      rw [hget k b1 (by omega)]
      have hl : h.2.2.length = g.2.2.length + 1 := by rw [e3, List.length_append]; rfl
      exact ⟨b1, by omega, hsub true _ b3, allT_mono (hsub true) b4⟩
  have hcg : clTab g (g.1.length : Int) (trimS g).1 (newS h).1 := fun k hk => by
    obtain ⟨b1, b2, _⟩ := p1 k hk
    have := hcl k (hmem k hk)
    unfold newAt at this ⊢
    rw [hget k b1 b2, e1] at this
    exact this
  have n1' : okTab ((newS h).1, (g.1.length : Int)) := by rw [← e1]; exact n1
  refine newN_mono n1' hcg _ _ hpl ht (by rw [List.length_replicate, n2, e2]) (fun i n hn => ?_)
  rw [List.getD_eq_getElem?_getD, List.getElem?_replicate] at hn
  split at hn
  · rw [Option.getD_some, hI_0] at hn; cases hn
  · rw [Option.getD_none, hI_0] at hn; cases hn
end Go.Proofs.YtajnboigikdefaaDoor.D

namespace Go.Proofs.YtajnboigikdefaaDoor.D
open Go Go.EV Go.Proofs
set_option linter.unusedVariables false
set_option linter.unusedSimpArgs false
set_option maxRecDepth 100000
noncomputable def fgL0  : LFace := ⟨[1, 7, 8, 9], [.v (.sl (.int .i64)), .box 28 [.row .str 9, .row .str 9, .row PR 53], .box 53 [.v (.int .i64), .row (.int .i64) 3], .v (.int .i64)], fun (row, g, p, i) => some (0 ≤ i ∧ i ≤ 3 ∧ 1 ≤ g.1.length ∧ g.1.length ≤ 99 ∧ g.2.1.length ≤ 99 ∧ p.2.length ≤ i.toNat),
  [⟨.normal, [7, 8], [.box 28 [.row .str 9, .row .str 9, .row PR 53], .box 53 [.v (.int .i64), .row (.int .i64) 3]], fun (row, g, p, i) => (g, p.1, p.2 ++ ((row.take 3).drop i.toNat).map (symS g.1.length g.2.1.length)), fun (row, g, p, i) => none⟩]⟩
noncomputable def fgL0.mu  : dens fgL0.sh → Nat := fun (row, g, p, i) => (3 - i).toNat
noncomputable def fgL0.g  (row : List Int) (g : List ByteArray × List ByteArray × List (Int × List Int)) (p : Int × List Int) (i : Int) : Prop := GoodLA Tryd.prog (cfOf [within]) [] 1000 8 0 fgL0 fgL0.mu (row, g, p, i)
noncomputable def fgL0.q1 (row : List Int) (g : List ByteArray × List ByteArray × List (Int × List Int)) (i : Int) : Prop := (((((True ∧ row.length ≤ (9223372036854775807 : Nat)) ∧ decide (i < (↑row.length : Int)) = true) ∧ decide (i < (3 : Int)) = true) ∧ (0 : Int) ≤ i ∧ i < (↑row.length : Int)) ∧ List.length g.1 ≤ (9223372036854775807 : Nat)) ∧ List.length g.2.1 ≤ (9223372036854775807 : Nat)
noncomputable def fgL0.q0 (row : List Int) (g : List ByteArray × List ByteArray × List (Int × List Int)) (i : Int) : Prop := ((fgL0.q1 row g i) ∧ (0 : Int) < IntKind.i64.wrap ((↑(List.length g.1) : Int) + (↑(List.length g.2.1) : Int)) ∧ IntKind.i64.wrap ((↑(List.length g.1) : Int) + (↑(List.length g.2.1) : Int)) ≤ (9223372036854775807 : Int)) ∧ List.length g.1 ≤ (9223372036854775807 : Nat)
noncomputable def fgL0.q2 (row : List Int) (g : List ByteArray × List ByteArray × List (Int × List Int)) (i : Int) : Prop := ((fgL0.q0 row g i) ∧ decide (row.getD i.toNat (0 : Int) % IntKind.i64.wrap ((↑(List.length g.1) : Int) + (↑(List.length g.2.1) : Int)) < (↑(List.length g.1) : Int)) = false) ∧ List.length g.1 ≤ (9223372036854775807 : Nat)
noncomputable def fgL0.T (row : List Int) (g : List ByteArray × List ByteArray × List (Int × List Int)) (p : Int × List Int) (i : Int) : Prop := ((((True ∧ row.length ≤ (9223372036854775807 : Nat)) ∧ decide (i < (↑row.length : Int)) = true) ∧ decide (i < (3 : Int)) = true) ∧ ¬((0 : Int) ≤ i ∧ i < (↑row.length : Int)) → False) ∧ ((fgL0.q1 row g i) ∧ ¬((0 : Int) < IntKind.i64.wrap ((↑(List.length g.1) : Int) + (↑(List.length g.2.1) : Int)) ∧ IntKind.i64.wrap ((↑(List.length g.1) : Int) + (↑(List.length g.2.1) : Int)) ≤ (9223372036854775807 : Int)) → False) ∧ (((fgL0.q0 row g i) ∧ decide (row.getD i.toNat (0 : Int) % IntKind.i64.wrap ((↑(List.length g.1) : Int) + (↑(List.length g.2.1) : Int)) < (↑(List.length g.1) : Int)) = true) ∧ (List.length p.2 + (1 : Nat)) * (8 : Nat) ≤ (140737488355328 : Nat) → ((0 : Int) ≤ IntKind.i64.wrap (i + (1 : Int)) ∧ IntKind.i64.wrap (i + (1 : Int)) ≤ (3 : Int) ∧ (1 : Nat) ≤ List.length g.1 ∧ List.length g.1 ≤ (99 : Nat) ∧ List.length g.2.1 ≤ (99 : Nat) ∧ (p.2 ++ [IntKind.i64.wrap (row.getD i.toNat (0 : Int) % IntKind.i64.wrap ((↑(List.length g.1) : Int) + (↑(List.length g.2.1) : Int)) + (1 : Int))]).length ≤ (IntKind.i64.wrap (i + (1 : Int))).toNat) ∧ fgL0.mu (row, g, (p.1, p.2 ++ [IntKind.i64.wrap (row.getD i.toNat (0 : Int) % IntKind.i64.wrap ((↑(List.length g.1) : Int) + (↑(List.length g.2.1) : Int)) + (1 : Int))]), IntKind.i64.wrap (i + (1 : Int))) < fgL0.mu (row, g, p, i) ∧ (True → True ∧ (g, p.1, p.2 ++ [IntKind.i64.wrap (row.getD i.toNat (0 : Int) % IntKind.i64.wrap ((↑(List.length g.1) : Int) + (↑(List.length g.2.1) : Int)) + (1 : Int))] ++ List.map (symS (↑(List.length g.1) : Int) (↑(List.length g.2.1) : Int)) (List.drop (IntKind.i64.wrap (i + (1 : Int))).toNat (List.take (3 : Nat) row))) = (g, p.1, p.2 ++ List.map (symS (↑(List.length g.1) : Int) (↑(List.length g.2.1) : Int)) (List.drop i.toNat (List.take (3 : Nat) row)))) ∧ True) ∧ (((fgL0.q0 row g i) ∧ decide (row.getD i.toNat (0 : Int) % IntKind.i64.wrap ((↑(List.length g.1) : Int) + (↑(List.length g.2.1) : Int)) < (↑(List.length g.1) : Int)) = true) ∧ ¬(List.length p.2 + (1 : Nat)) * (8 : Nat) ≤ (140737488355328 : Nat) → False) ∧ ((fgL0.q2 row g i) ∧ (List.length p.2 + (1 : Nat)) * (8 : Nat) ≤ (140737488355328 : Nat) → ((0 : Int) ≤ IntKind.i64.wrap (i + (1 : Int)) ∧ IntKind.i64.wrap (i + (1 : Int)) ≤ (3 : Int) ∧ (1 : Nat) ≤ List.length g.1 ∧ List.length g.1 ≤ (99 : Nat) ∧ List.length g.2.1 ≤ (99 : Nat) ∧ (p.2 ++ [IntKind.i64.wrap (IntKind.i64.wrap ((100 : Int) + row.getD i.toNat (0 : Int) % IntKind.i64.wrap ((↑(List.length g.1) : Int) + (↑(List.length g.2.1) : Int))) - (↑(List.length g.1) : Int))]).length ≤ (IntKind.i64.wrap (i + (1 : Int))).toNat) ∧ fgL0.mu (row, g, (p.1, p.2 ++ [IntKind.i64.wrap (IntKind.i64.wrap ((100 : Int) + row.getD i.toNat (0 : Int) % IntKind.i64.wrap ((↑(List.length g.1) : Int) + (↑(List.length g.2.1) : Int))) - (↑(List.length g.1) : Int))]), IntKind.i64.wrap (i + (1 : Int))) < fgL0.mu (row, g, p, i) ∧ (True → True ∧ (g, p.1, p.2 ++ [IntKind.i64.wrap (IntKind.i64.wrap ((100 : Int) + row.getD i.toNat (0 : Int) % IntKind.i64.wrap ((↑(List.length g.1) : Int) + (↑(List.length g.2.1) : Int))) - (↑(List.length g.1) : Int))] ++ List.map (symS (↑(List.length g.1) : Int) (↑(List.length g.2.1) : Int)) (List.drop (IntKind.i64.wrap (i + (1 : Int))).toNat (List.take (3 : Nat) row))) = (g, p.1, p.2 ++ List.map (symS (↑(List.length g.1) : Int) (↑(List.length g.2.1) : Int)) (List.drop i.toNat (List.take (3 : Nat) row)))) ∧ True) ∧ ((fgL0.q2 row g i) ∧ ¬(List.length p.2 + (1 : Nat)) * (8 : Nat) ≤ (140737488355328 : Nat) → False) ∧ (((True ∧ row.length ≤ (9223372036854775807 : Nat)) ∧ decide (i < (↑row.length : Int)) = true) ∧ decide (i < (3 : Int)) = false → True ∧ (g, p) = (g, p.1, p.2 ++ List.map (symS (↑(List.length g.1) : Int) (↑(List.length g.2.1) : Int)) (List.drop i.toNat (List.take (3 : Nat) row)))) ∧ ((True ∧ row.length ≤ (9223372036854775807 : Nat)) ∧ decide (i < (↑row.length : Int)) = false → True ∧ (g, p) = (g, p.1, p.2 ++ List.map (symS (↑(List.length g.1) : Int) (↑(List.length g.2.1) : Int)) (List.drop i.toNat (List.take (3 : Nat) row)))) ∧ (True)
theorem fgL0.eq  (row : List Int) (g : List ByteArray × List ByteArray × List (Int × List Int)) (p : Int × List Int) (i : Int) : fgL0.g  row g p i = fgL0.T  row g p i := by kernel_rfl
theorem fgL0.ok  (row : List Int) (g : List ByteArray × List ByteArray × List (Int × List Int)) (p : Int × List Int) (i : Int) (hx : 0 ≤ i ∧ i ≤ 3 ∧ 1 ≤ g.1.length ∧ g.1.length ≤ 99 ∧ g.2.1.length ≤ 99 ∧ p.2.length ≤ i.toNat) : fgL0.T  row g p i := by
  obtain ⟨h0, h1, h2, h3, h4, h5⟩ := hx
  have w1 : IntKind.i64.wrap (i + 1) = i + 1 := wrapI64 (by omega) (by omega)
  have w2 : IntKind.i64.wrap ((g.1.length : Int) + g.2.1.length) = (g.1.length : Int) + g.2.1.length := wrapI64 (by omega) (by omega)
  delta fgL0.T fgL0.q1 fgL0.q0 fgL0.q2
  simp only [w1, w2]
  have hr0 := Int.emod_nonneg (row.getD i.toNat 0) (show (g.1.length : Int) + g.2.1.length ≠ 0 by omega)
  have hr1 := Int.emod_lt_of_pos (row.getD i.toNat 0) (show 0 < (g.1.length : Int) + g.2.1.length by omega)
  have hS : symS g.1.length g.2.1.length (row.getD i.toNat 0) = if row.getD i.toNat 0 % ((g.1.length : Int) + g.2.1.length) < g.1.length then row.getD i.toNat 0 % ((g.1.length : Int) + g.2.1.length) + 1 else 100 + row.getD i.toNat 0 % ((g.1.length : Int) + g.2.1.length) - g.1.length := rfl
  have hD : i < 3 → i < (row.length : Int) → (row.take 3).drop i.toNat = row.getD i.toNat 0 :: (row.take 3).drop (i + 1).toNat := fun ha hb => by
    rw [drop_int 0 h0 (by simp; omega), take_getD (by omega)]
  generalize row.getD i.toNat 0 % ((g.1.length : Int) + g.2.1.length) = r at *
  rw [wrapI64 (x := r + 1) (by omega) (by omega), wrapI64 (x := 100 + r) (by omega) (by omega), wrapI64 (x := 100 + r - g.1.length) (by omega) (by omega)]
  generalize row.getD i.toNat 0 = x at *
  have hmu : ∀ q, fgL0.mu (row, g, q, i + 1) < fgL0.mu (row, g, p, i) ∨ 3 ≤ i := fun q => by simp only [fgL0.mu]; omega
  ((repeat' (first | exact trivial | apply And.intro)) <;> (intro hw; (try (simp only [zP, reduceCtorEq] at hw)); (try first | (exfalso; omega) | exact ⟨trivial, rfl⟩ | exact (hw hx).elim | exact (hw.2 hx).elim)))
  · rw [hD (by omega) (by omega), List.map_cons, hS, if_pos hw.1.2]
    refine ⟨⟨by omega, by omega, h2, h3, h4, by rw [List.length_append]; simp; omega⟩, (hmu _).resolve_right (by omega), fun _ => ⟨trivial, ?_⟩, trivial⟩
    rw [List.append_assoc]; rfl
  · rw [hD (by omega) (by omega), List.map_cons, hS, if_neg (by first | exact hw.1.2 | exact hw.1.1.2)]
    refine ⟨⟨by omega, by omega, h2, h3, h4, by rw [List.length_append]; simp; omega⟩, (hmu _).resolve_right (by omega), fun _ => ⟨trivial, ?_⟩, trivial⟩
    rw [List.append_assoc]; rfl
  all_goals
    rw [List.drop_eq_nil_of_le (by simp; omega), List.map_nil, List.append_nil]
    exact ⟨trivial, rfl⟩
theorem fgL0.lp   : LpAt Tryd.prog 8 0 fgL0 := lp_evalH (l := []) (lf := 1000) (fun _ => cfOf_ok (fns_cons within.fn (fns_nil _))) (lps_nil _ _) (by kernel_rfl) _ (fgL0.mu ) (fun ⟨row, g, p, i⟩ hx => Hid.of (fgL0.eq  row g p i) (fgL0.ok  row g p i hx))
def fgP (n i : Int) (t u : Tab) : Prop := 0 ≤ i ∧ i ≤ n ∧ n ≤ 99 ∧ okTab t ∧ okTab u ∧ t.1.length = u.1.length ∧ t.2 = u.2 ∧ leTab t.1 u.1
noncomputable def fgL2  : LFace := ⟨[12, 14, 116, 117], [.p TAB, .p TAB, .v (.int .i64), .v (.int .i64)], fun (t, u, n, i) => some (fgP n i t u),
  [⟨.normal, [], [], fun (t, u, n, i) => (), fun (t, u, n, i) => none⟩]⟩
noncomputable def fgL2.mu  : dens fgL2.sh → Nat := fun (t, u, n, i) => (n - i).toNat
noncomputable def fgL2.g  (t : List Int × Int) (u : List Int × Int) (n : Int) (i : Int) : Prop := GoodLA Tryd.prog (cfOf [ofF, setIn]) [] 1000 8 2 fgL2 fgL2.mu (t, u, n, i)
noncomputable def fgL2.q0 (t : List Int × Int) (u : List Int × Int) (n : Int) (i : Int) : Prop := ((True ∧ decide (i < n) = true) ∧ okTab t ∧ okR [IntKind.i64.wrap ((100 : Int) + i)]) ∧ okTab u ∧ okR [IntKind.i64.wrap ((100 : Int) + i)]
noncomputable def fgL2.T (t : List Int × Int) (u : List Int × Int) (n : Int) (i : Int) : Prop := ((True ∧ decide (i < n) = true) ∧ ¬(okTab t ∧ okR [IntKind.i64.wrap ((100 : Int) + i)]) → False) ∧ (((True ∧ decide (i < n) = true) ∧ okTab t ∧ okR [IntKind.i64.wrap ((100 : Int) + i)]) ∧ ¬(okTab u ∧ okR [IntKind.i64.wrap ((100 : Int) + i)]) → False) ∧ ((fgL2.q0 t u n i) ∧ ¬(okU (ofS t [IntKind.i64.wrap ((100 : Int) + i)]) ∧ okU (ofS u [IntKind.i64.wrap ((100 : Int) + i)])) → False) ∧ (((fgL2.q0 t u n i) ∧ okU (ofS t [IntKind.i64.wrap ((100 : Int) + i)]) ∧ okU (ofS u [IntKind.i64.wrap ((100 : Int) + i)])) ∧ (!decide (lI (ofS t [IntKind.i64.wrap ((100 : Int) + i)]) (ofS u [IntKind.i64.wrap ((100 : Int) + i)]) = (0 : Int))) = true → False) ∧ (((fgL2.q0 t u n i) ∧ okU (ofS t [IntKind.i64.wrap ((100 : Int) + i)]) ∧ okU (ofS u [IntKind.i64.wrap ((100 : Int) + i)])) ∧ (!decide (lI (ofS t [IntKind.i64.wrap ((100 : Int) + i)]) (ofS u [IntKind.i64.wrap ((100 : Int) + i)]) = (0 : Int))) = false → fgP n (IntKind.i64.wrap (i + (1 : Int))) t u ∧ fgL2.mu (t, u, n, IntKind.i64.wrap (i + (1 : Int))) < fgL2.mu (t, u, n, i) ∧ (True → True ∧ () = ()) ∧ True) ∧ (True ∧ decide (i < n) = false → True ∧ () = ()) ∧ (True)
theorem fgL2.eq  (t : List Int × Int) (u : List Int × Int) (n : Int) (i : Int) : fgL2.g  t u n i = fgL2.T  t u n i := by kernel_rfl
theorem fgL2.ok  (t : List Int × Int) (u : List Int × Int) (n : Int) (i : Int) (hx : fgP n i t u) : fgL2.T  t u n i := by
  obtain ⟨h0, h1, h2, h3, h4, h5, h6, h7⟩ := hx
  delta fgL2.T fgL2.q0
  by_cases hi : i < n
  · rw [wrapI64 (x := i + 1) (by omega) (by omega), wrapI64 (x := 100 + i) (by omega) (by omega)]
    have hr : okR [100 + i] := fun s hs => by rw [List.mem_singleton.1 hs]; omega
    have hs := ofS_mono (l := t.1) (m := u.1) (tm := t.2) h3 (by rw [h6]; exact h4) h5 h7 [100 + i]
    have u1 := okU_ofS h3 [100 + i]
    have u2 := okU_ofS h4 [100 + i]
    have e : ofS (u.1, t.2) [100 + i] = ofS u [100 + i] := by rw [h6]
    rw [e] at hs
    have hd := decide_eq_true ((lI_zero u1 u2).2 hs)
    rw [hd]
    generalize ofS t [100 + i] = a at *
    generalize ofS u [100 + i] = b at *
    have hf : fgP n (i + 1) t u := ⟨by omega, by omega, h2, h3, h4, h5, h6, h7⟩
    ((repeat' (first | exact trivial | apply And.intro)) <;> (intro hw; (try (simp only [zP, reduceCtorEq] at hw)); (try first | (exfalso; omega) | exact ⟨trivial, rfl⟩ | exact (hw hx).elim | exact (hw.2 hx).elim)))
    all_goals first
      | (exfalso; omega)
      | exact (hw.2 ⟨h3, hr⟩).elim
      | exact (hw.2 ⟨h4, hr⟩).elim
      | exact (hw.2 ⟨u1, u2⟩).elim
      | exact ⟨hf, by simp only [fgL2.mu]; omega, fun _ => ⟨trivial, by first | rfl | trivial⟩, trivial⟩
      | (exfalso; simp at hw; done)
      | trace_state
  · ((repeat' (first | exact trivial | apply And.intro)) <;> (intro hw; (try (simp only [zP, reduceCtorEq] at hw)); (try first | (exfalso; omega) | exact ⟨trivial, rfl⟩ | exact (hw hx).elim | exact (hw.2 hx).elim)))
    all_goals first
      | (exfalso; omega)
      | exact ⟨trivial, trivial⟩
      | trace_state
theorem fgL2.lp   : LpAt Tryd.prog 8 2 fgL2 := lp_evalH (l := []) (lf := 1000) (fun _ => cfOf_ok (fns_cons ofF.fn (fns_cons setIn.fn (fns_nil _)))) (lps_nil _ _) (by kernel_rfl) _ (fgL2.mu ) (fun ⟨t, u, n, i⟩ hx => Hid.of (fgL2.eq  t u n i) (fgL2.ok  t u n i hx))
noncomputable def firstGrows  : Face := ⟨8, [.v RAW, .v (.sl (.int .i64)), .v (.int .i64)], fun (r, row, left) => none,
  [⟨false, [.v .bool], fun (r, row, left) => true, fun (r, row, left) => none⟩]⟩
noncomputable def firstGrows.g  (r : Int × Int × Int × Int × List (List Int) × ByteArray) (row : List Int) (left : Int) : Prop := GoodFA Tryd.prog (cfOf [any, within, rcheckF, newFc, wakes06]) [(0, fgL0), (2, fgL2)] 1000 firstGrows (r, row, left)
noncomputable def firstGrows.q10 (r : Int × Int × Int × Int × List (List Int) × ByteArray) : Prop := (True ∧ List.length (anyS r).2.1 ≤ (9223372036854775807 : Nat)) ∧ (0 : Int) < (↑(List.length (anyS r).2.1) : Int) ∧ (↑(List.length (anyS r).2.1) : Int) ≤ (9223372036854775807 : Int)
noncomputable def firstGrows.q1 (r : Int × Int × Int × Int × List (List Int) × ByteArray) : Prop := (firstGrows.q10 r) ∧ (0 : Int) ≤ (0 : Int) ∧ (0 : Int) ≤ (3 : Int) ∧ (1 : Nat) ≤ List.length (anyS r).1 ∧ List.length (anyS r).1 ≤ (99 : Nat) ∧ List.length (anyS r).2.1 ≤ (99 : Nat) ∧ (0 : Nat) ≤ Int.toNat (0 : Int)
noncomputable def firstGrows.q4 (r : Int × Int × Int × Int × List (List Int) × ByteArray) : Prop := ((firstGrows.q1 r) ∧ List.length (anyS r).2.2 * (32 : Nat) ≤ (140737488355328 : Nat)) ∧ (List.length (anyS r).2.2 + (1 : Nat)) * (32 : Nat) ≤ (140737488355328 : Nat)
noncomputable def firstGrows.q0 (r : Int × Int × Int × Int × List (List Int) × ByteArray) (row : List Int) (left : Int) : Prop := ((firstGrows.q4 r) ∧ okG (rmH r row left)) ∧ (!checkB (rmH r row left)) = false
noncomputable def firstGrows.q2 (r : Int × Int × Int × Int × List (List Int) × ByteArray) (row : List Int) (left : Int) : Prop := (((firstGrows.q0 r row left) ∧ okG (anyS r)) ∧ (trimS (anyS r)).2 = (0 : Int)) ∧ okG (rmH r row left)
noncomputable def firstGrows.q3 (r : Int × Int × Int × Int × List (List Int) × ByteArray) (row : List Int) (left : Int) : Prop := (((firstGrows.q0 r row left) ∧ okG (anyS r)) ∧ ¬(trimS (anyS r)).2 = (0 : Int)) ∧ okG (rmH r row left)
noncomputable def firstGrows.q9 (r : Int × Int × Int × Int × List (List Int) × ByteArray) (row : List Int) (left : Int) : Prop := (firstGrows.q2 r row left) ∧ (trimS (rmH r row left)).2 = (0 : Int)
noncomputable def firstGrows.q5 (r : Int × Int × Int × Int × List (List Int) × ByteArray) (row : List Int) (left : Int) : Prop := (((firstGrows.q9 r row left) ∧ ((0 : Int) != (0 : Int)) = false) ∧ ((0 : Int) != (0 : Int)) = false) ∧ List.length (anyS r).2.1 ≤ (9223372036854775807 : Nat)
noncomputable def firstGrows.q6 (r : Int × Int × Int × Int × List (List Int) × ByteArray) (row : List Int) (left : Int) : Prop := (firstGrows.q2 r row left) ∧ ¬(trimS (rmH r row left)).2 = (0 : Int)
noncomputable def firstGrows.q7 (r : Int × Int × Int × Int × List (List Int) × ByteArray) (row : List Int) (left : Int) : Prop := ((firstGrows.q3 r row left) ∧ ¬(trimS (rmH r row left)).2 = (0 : Int)) ∧ ((trimS (anyS r)).2 != (0 : Int)) = true
noncomputable def firstGrows.q8 (r : Int × Int × Int × Int × List (List Int) × ByteArray) (row : List Int) (left : Int) : Prop := ((firstGrows.q3 r row left) ∧ (trimS (rmH r row left)).2 = (0 : Int)) ∧ ((trimS (anyS r)).2 != (0 : Int)) = true
noncomputable def firstGrows.T (r : Int × Int × Int × Int × List (List Int) × ByteArray) (row : List Int) (left : Int) : Prop := ((True ∧ List.length (anyS r).2.1 ≤ (9223372036854775807 : Nat)) ∧ ¬((0 : Int) < (↑(List.length (anyS r).2.1) : Int) ∧ (↑(List.length (anyS r).2.1) : Int) ≤ (9223372036854775807 : Int)) → False) ∧ ((firstGrows.q10 r) ∧ ¬((0 : Int) ≤ (0 : Int) ∧ (0 : Int) ≤ (3 : Int) ∧ (1 : Nat) ≤ List.length (anyS r).1 ∧ List.length (anyS r).1 ≤ (99 : Nat) ∧ List.length (anyS r).2.1 ≤ (99 : Nat) ∧ (0 : Nat) ≤ Int.toNat (0 : Int)) → False) ∧ ((firstGrows.q4 r) ∧ ¬okG (rmH r row left) → False) ∧ (((firstGrows.q4 r) ∧ okG (rmH r row left)) ∧ (!checkB (rmH r row left)) = true → True ∧ true = true) ∧ ((firstGrows.q0 r row left) ∧ ¬okG (anyS r) → False) ∧ ((((firstGrows.q0 r row left) ∧ okG (anyS r)) ∧ ¬(trimS (anyS r)).2 = (0 : Int)) ∧ ¬okG (rmH r row left) → False) ∧ ((firstGrows.q7 r row left) ∧ ((trimS (anyS r)).2 == (6 : Int)) = true → True ∧ true = true) ∧ ((firstGrows.q7 r row left) ∧ ((trimS (anyS r)).2 == (6 : Int)) = false → True ∧ false = true) ∧ (((firstGrows.q3 r row left) ∧ ¬(trimS (rmH r row left)).2 = (0 : Int)) ∧ ((trimS (anyS r)).2 != (0 : Int)) = false → True ∧ false = true) ∧ ((firstGrows.q8 r row left) ∧ ((trimS (anyS r)).2 == (6 : Int)) = true → True ∧ true = true) ∧ ((firstGrows.q8 r row left) ∧ ((trimS (anyS r)).2 == (6 : Int)) = false → True ∧ false = true) ∧ (((firstGrows.q3 r row left) ∧ (trimS (rmH r row left)).2 = (0 : Int)) ∧ ((trimS (anyS r)).2 != (0 : Int)) = false → True ∧ false = true) ∧ ((((firstGrows.q0 r row left) ∧ okG (anyS r)) ∧ (trimS (anyS r)).2 = (0 : Int)) ∧ ¬okG (rmH r row left) → False) ∧ (((firstGrows.q6 r row left) ∧ ((0 : Int) != (0 : Int)) = true) ∧ ((0 : Int) == (6 : Int)) = true → True ∧ false = true) ∧ (((firstGrows.q6 r row left) ∧ ((0 : Int) != (0 : Int)) = true) ∧ ((0 : Int) == (6 : Int)) = false → True ∧ false = true) ∧ (((firstGrows.q6 r row left) ∧ ((0 : Int) != (0 : Int)) = false) ∧ ((trimS (rmH r row left)).2 != (0 : Int)) = true → True ∧ false = true) ∧ (((firstGrows.q6 r row left) ∧ ((0 : Int) != (0 : Int)) = false) ∧ ((trimS (rmH r row left)).2 != (0 : Int)) = false → True ∧ false = true) ∧ (((firstGrows.q9 r row left) ∧ ((0 : Int) != (0 : Int)) = true) ∧ ((0 : Int) == (6 : Int)) = true → True ∧ false = true) ∧ (((firstGrows.q9 r row left) ∧ ((0 : Int) != (0 : Int)) = true) ∧ ((0 : Int) == (6 : Int)) = false → True ∧ false = true) ∧ (((firstGrows.q9 r row left) ∧ ((0 : Int) != (0 : Int)) = false) ∧ ((0 : Int) != (0 : Int)) = true → True ∧ false = true) ∧ ((firstGrows.q5 r row left) ∧ ¬fgP (↑(List.length (anyS r).2.1) : Int) (0 : Int) (newS (anyS r)) (newS (rmH r row left)) → False) ∧ ((firstGrows.q5 r row left) ∧ fgP (↑(List.length (anyS r).2.1) : Int) (0 : Int) (newS (anyS r)) (newS (rmH r row left)) → True ∧ true = true) ∧ (((firstGrows.q1 r) ∧ List.length (anyS r).2.2 * (32 : Nat) ≤ (140737488355328 : Nat)) ∧ ¬(List.length (anyS r).2.2 + (1 : Nat)) * (32 : Nat) ≤ (140737488355328 : Nat) → False) ∧ ((firstGrows.q1 r) ∧ ¬List.length (anyS r).2.2 * (32 : Nat) ≤ (140737488355328 : Nat) → False) ∧ ((firstGrows.q4 r) ∧ ¬okG (rmH r row left) → False) ∧ (((firstGrows.q4 r) ∧ okG (rmH r row left)) ∧ (!checkB (rmH r row left)) = true → True ∧ true = true) ∧ ((firstGrows.q0 r row left) ∧ ¬okG (anyS r) → False) ∧ ((((firstGrows.q0 r row left) ∧ okG (anyS r)) ∧ ¬(trimS (anyS r)).2 = (0 : Int)) ∧ ¬okG (rmH r row left) → False) ∧ ((firstGrows.q7 r row left) ∧ ((trimS (anyS r)).2 == (6 : Int)) = true → True ∧ true = true) ∧ ((firstGrows.q7 r row left) ∧ ((trimS (anyS r)).2 == (6 : Int)) = false → True ∧ false = true) ∧ (((firstGrows.q3 r row left) ∧ ¬(trimS (rmH r row left)).2 = (0 : Int)) ∧ ((trimS (anyS r)).2 != (0 : Int)) = false → True ∧ false = true) ∧ ((firstGrows.q8 r row left) ∧ ((trimS (anyS r)).2 == (6 : Int)) = true → True ∧ true = true) ∧ ((firstGrows.q8 r row left) ∧ ((trimS (anyS r)).2 == (6 : Int)) = false → True ∧ false = true) ∧ (((firstGrows.q3 r row left) ∧ (trimS (rmH r row left)).2 = (0 : Int)) ∧ ((trimS (anyS r)).2 != (0 : Int)) = false → True ∧ false = true) ∧ ((((firstGrows.q0 r row left) ∧ okG (anyS r)) ∧ (trimS (anyS r)).2 = (0 : Int)) ∧ ¬okG (rmH r row left) → False) ∧ (((firstGrows.q6 r row left) ∧ ((0 : Int) != (0 : Int)) = true) ∧ ((0 : Int) == (6 : Int)) = true → True ∧ false = true) ∧ (((firstGrows.q6 r row left) ∧ ((0 : Int) != (0 : Int)) = true) ∧ ((0 : Int) == (6 : Int)) = false → True ∧ false = true) ∧ (((firstGrows.q6 r row left) ∧ ((0 : Int) != (0 : Int)) = false) ∧ ((trimS (rmH r row left)).2 != (0 : Int)) = true → True ∧ false = true) ∧ (((firstGrows.q6 r row left) ∧ ((0 : Int) != (0 : Int)) = false) ∧ ((trimS (rmH r row left)).2 != (0 : Int)) = false → True ∧ false = true) ∧ (((firstGrows.q9 r row left) ∧ ((0 : Int) != (0 : Int)) = true) ∧ ((0 : Int) == (6 : Int)) = true → True ∧ false = true) ∧ (((firstGrows.q9 r row left) ∧ ((0 : Int) != (0 : Int)) = true) ∧ ((0 : Int) == (6 : Int)) = false → True ∧ false = true) ∧ (((firstGrows.q9 r row left) ∧ ((0 : Int) != (0 : Int)) = false) ∧ ((0 : Int) != (0 : Int)) = true → True ∧ false = true) ∧ ((firstGrows.q5 r row left) ∧ ¬fgP (↑(List.length (anyS r).2.1) : Int) (0 : Int) (newS (anyS r)) (newS (rmH r row left)) → False) ∧ ((firstGrows.q5 r row left) ∧ fgP (↑(List.length (anyS r).2.1) : Int) (0 : Int) (newS (anyS r)) (newS (rmH r row left)) → True ∧ true = true) ∧ (((firstGrows.q1 r) ∧ List.length (anyS r).2.2 * (32 : Nat) ≤ (140737488355328 : Nat)) ∧ ¬(List.length (anyS r).2.2 + (1 : Nat)) * (32 : Nat) ≤ (140737488355328 : Nat) → False) ∧ ((firstGrows.q1 r) ∧ ¬List.length (anyS r).2.2 * (32 : Nat) ≤ (140737488355328 : Nat) → False) ∧ (True)
theorem firstGrows.eq  (r : Int × Int × Int × Int × List (List Int) × ByteArray) (row : List Int) (left : Int) : firstGrows.g  r row left = firstGrows.T  r row left := by kernel_rfl
theorem firstGrows.ok  (r : Int × Int × Int × Int × List (List Int) × ByteArray) (row : List Int) (left : Int) : firstGrows.T  r row left := by
  obtain ⟨hc, hg⟩ := any_chk r
  have hk := chk_of hc
  have hn1 := hk.n1
  have hn2 := hk.n2
  have ht1 := hk.t1
  have ht2 := hk.t2
  have hp2 := hk.p2
  have e1 := Int.emod_nonneg left (show ((anyS r).2.1.length : Int) ≠ 0 by omega)
  have e2 := Int.emod_lt_of_pos left (show (0 : Int) < ((anyS r).2.1.length : Int) by omega)
  have hR := map_symS (g := anyS r) ht1 (by omega) (by omega) (row.take 3)
  have eh : rmH r row left = ((anyS r).1, (anyS r).2.1, (anyS r).2.2 ++ [(100 + left % ((anyS r).2.1.length : Int), List.map (symS ((anyS r).1.length : Int) ((anyS r).2.1.length : Int)) (List.take 3 row))]) := by
    rw [rmH, wrapI64 (by omega) (by omega)]; rfl
  have hoh : okG (rmH r row left) := by
    rw [eh]
    refine ⟨hg.1, hg.2.1, hg.2.2.1, fun q hq => ?_⟩
    rcases List.mem_append.1 hq with hq | hq
    · exact hg.2.2.2 q hq
    · rw [List.mem_singleton.1 hq]
      exact ⟨by show 100 + left % ((anyS r).2.1.length : Int) ≤ _; omega, hR⟩
  have h06 := trim_06 hc
  delta firstGrows.T firstGrows.q10 firstGrows.q1 firstGrows.q4 firstGrows.q0 firstGrows.q2 firstGrows.q3 firstGrows.q9 firstGrows.q5 firstGrows.q6 firstGrows.q7 firstGrows.q8
  cases hch : checkB (rmH r row left) with
  | false =>
    clear eh hR
    generalize rmH r row left = h at *
    generalize anyS r = g at *
    ((repeat' (first | exact trivial | apply And.intro)) <;> (intro hw; (try (simp only [zP, reduceCtorEq] at hw)); (try first | (exfalso; omega) | exact ⟨trivial, rfl⟩ | exact (hw hx).elim | exact (hw.2 hx).elim)))
    all_goals first
      | (exfalso; omega)
      | exact (hw.2 hoh).elim
      | exact ⟨trivial, trivial⟩
      | (exfalso; simp at hw; done)
      | trace_state
  | true =>
    by_cases h0 : (trimS (anyS r)).2 = 0
    · have hm := newS_mono (h := rmH r row left) hc hg hch hoh (by rw [eh]) (by rw [eh]) (by rw [eh]) h0
      have h1 := (more_sub (h := rmH r row left) hc hch hoh (by rw [eh])).2.2 h0
      obtain ⟨t1, t2⟩ := newS_ok hc hg
      obtain ⟨u1, u2⟩ := newS_ok hch hoh
      have hfg : fgP ((anyS r).2.1.length : Int) 0 (newS (anyS r)) (newS (rmH r row left)) := ⟨Int.le_refl _, by omega, by omega, t1, u1, by rw [t2, u2, eh], by show ((anyS r).1.length : Int) = ((rmH r row left).1.length : Int); rw [eh], hm⟩
      have h1' := h1.1
      clear eh hR hm h1
      generalize rmH r row left = h at *
      generalize anyS r = g at *
      rw [h0, h1']
      ((repeat' (first | exact trivial | apply And.intro)) <;> (intro hw; (try (simp only [zP, reduceCtorEq] at hw)); (try first | (exfalso; omega) | exact ⟨trivial, rfl⟩ | exact (hw hx).elim | exact (hw.2 hx).elim)))
      all_goals first
        | (exfalso; omega)
        | exact (hw.2 hoh).elim
        | exact (hw.2 hg).elim
        | exact (hw.2 hfg).elim
        | exact ⟨trivial, trivial⟩
        | (exfalso; simp at hw; done)
        | trace_state
    · rw [h06 h0]
      clear eh hR
      generalize rmH r row left = h at *
      generalize anyS r = g at *
      ((repeat' (first | exact trivial | apply And.intro)) <;> (intro hw; (try (simp only [zP, reduceCtorEq] at hw)); (try first | (exfalso; omega) | exact ⟨trivial, rfl⟩ | exact (hw hx).elim | exact (hw.2 hx).elim)))
      all_goals first
        | (exfalso; omega)
        | exact (hw.2 hoh).elim
        | exact (hw.2 hg).elim
        | exact ⟨trivial, trivial⟩
        | (exfalso; simp at hw; done)
        | trace_state
theorem firstGrows.fn   : FnOk Tryd.prog firstGrows := fn_evalH (l := [(0, fgL0), (2, fgL2)]) (lf := 1000) (fun _ => cfOf_ok (fns_cons any.fn (fns_cons within.fn (fns_cons rcheckF.fn (fns_cons newFc.fn (fns_cons wakes06.fn (fns_nil _))))))) _ (lps_cons (fgL0.lp) (lps_cons (fgL2.lp) (lps_nil _ _))) (by kernel_rfl) (fun ⟨r, row, left⟩ hx => Hid.of (firstGrows.eq  r row left) (firstGrows.ok  r row left))
theorem firstGrows_pre (x : Raw) (row : List Int) (left : Int) (h0 : rng RAW x) (h1 : rng (.sl (.int .i64)) row) (h2 : rng (.int .i64) left) : holds (firstGrows.pre (x, row, left)) := trivial
end Go.Proofs.YtajnboigikdefaaDoor.D
