/- Texts that the proof of a law rests on, put together: part 49. -/
import Derived.Test.YtajnboigikdefaaDoorFg48
import Derived.Test.YtajnboigikdefaaDoorProg
namespace Go.Proofs.YtajnboigikdefaaDoor.D
open Go Go.EV Go.Proofs
set_option linter.unusedVariables false
set_option linter.unusedSimpArgs false
set_option maxRecDepth 100000
abbrev TAB : Ty := .pr (.sl (.int .u64)) (.int .i64)
theorem hI_jI (s t n : Int) : hI (jI s t) n = (hI s n || hI t n) := by
  unfold hI jI
  rw [Int.toNat_natCast, Nat.testBit_or, Bool.and_or_distrib_left]
theorem hI_lI {s t : Int} (hs : okU s) (ht : okU t) (n : Int) : hI (lI s t) n = (hI s n && !(hI t n)) := by
  unfold hI lI
  rw [Int.toNat_natCast, XW.lessN_testBit _ _ _ (okU_nat hs).2 (okU_nat ht).2]
  cases decide (0 ≤ n ∧ n < 64) <;> simp
abbrev Tab : Type := List Int × Int
def okUs (l : List Int) : Prop := ∀ s ∈ l, okU s
def okTab (t : Tab) : Prop := okUs t.1 ∧ t.1.length ≤ 99 ∧ 0 ≤ t.2 ∧ t.2 ≤ 99
def oneS (t : Tab) (n : Int) : Int := if 1 ≤ n ∧ n ≤ t.2 then ofI [n] 0 else if 100 ≤ n ∧ n - 100 < (t.1.length : Int) then t.1.getD (n - 100).toNat 0 else 0
theorem okU_one {t : Tab} (h : okTab t) (n : Int) : okU (oneS t n) := by
  unfold oneS
  split
  · exact okU_ofI _ okU_0
  · split
    · exact h.1 _ (getD_mem (by omega))
    · exact okU_0
noncomputable def oneF  : Face := ⟨69, [.p TAB, .v (.int .i64)], fun (t, n) => some (okTab t ∧ n ≤ 9223372036854775807),
  [⟨false, [.v (.int .u64)], fun (t, n) => oneS t n, fun (t, n) => none⟩]⟩
noncomputable def oneF.g  (t : List Int × Int) (n : Int) : Prop := GoodFA Tryd.prog (cfOf [setOf]) [] 1000 oneF (t, n)
noncomputable def oneF.q0 (t : List Int × Int) (n : Int) : Prop := (((True ∧ decide (n ≥ (1 : Int)) = true) ∧ decide (n ≤ t.2) = false) ∧ decide (n ≥ (100 : Int)) = true) ∧ List.length t.1 ≤ (9223372036854775807 : Nat)
noncomputable def oneF.q1 (t : List Int × Int) (n : Int) : Prop := ((True ∧ decide (n ≥ (1 : Int)) = false) ∧ decide (n ≥ (100 : Int)) = true) ∧ List.length t.1 ≤ (9223372036854775807 : Nat)
noncomputable def oneF.T (t : List Int × Int) (n : Int) : Prop := ((True ∧ decide (n ≥ (1 : Int)) = true) ∧ decide (n ≤ t.2) = true → True ∧ ofI [n] (0 : Int) = oneS t n) ∧ (((oneF.q0 t n) ∧ decide (IntKind.i64.wrap (n - (100 : Int)) < (↑(List.length t.1) : Int)) = true) ∧ (0 : Int) ≤ IntKind.i64.wrap (n - (100 : Int)) ∧ IntKind.i64.wrap (n - (100 : Int)) < (↑(List.length t.1) : Int) → True ∧ List.getD t.1 (IntKind.i64.wrap (n - (100 : Int))).toNat (0 : Int) = oneS t n) ∧ (((oneF.q0 t n) ∧ decide (IntKind.i64.wrap (n - (100 : Int)) < (↑(List.length t.1) : Int)) = true) ∧ ¬((0 : Int) ≤ IntKind.i64.wrap (n - (100 : Int)) ∧ IntKind.i64.wrap (n - (100 : Int)) < (↑(List.length t.1) : Int)) → False) ∧ ((oneF.q0 t n) ∧ decide (IntKind.i64.wrap (n - (100 : Int)) < (↑(List.length t.1) : Int)) = false → True ∧ (0 : Int) = oneS t n) ∧ (((True ∧ decide (n ≥ (1 : Int)) = true) ∧ decide (n ≤ t.2) = false) ∧ decide (n ≥ (100 : Int)) = false → True ∧ (0 : Int) = oneS t n) ∧ (((oneF.q1 t n) ∧ decide (IntKind.i64.wrap (n - (100 : Int)) < (↑(List.length t.1) : Int)) = true) ∧ (0 : Int) ≤ IntKind.i64.wrap (n - (100 : Int)) ∧ IntKind.i64.wrap (n - (100 : Int)) < (↑(List.length t.1) : Int) → True ∧ List.getD t.1 (IntKind.i64.wrap (n - (100 : Int))).toNat (0 : Int) = oneS t n) ∧ (((oneF.q1 t n) ∧ decide (IntKind.i64.wrap (n - (100 : Int)) < (↑(List.length t.1) : Int)) = true) ∧ ¬((0 : Int) ≤ IntKind.i64.wrap (n - (100 : Int)) ∧ IntKind.i64.wrap (n - (100 : Int)) < (↑(List.length t.1) : Int)) → False) ∧ ((oneF.q1 t n) ∧ decide (IntKind.i64.wrap (n - (100 : Int)) < (↑(List.length t.1) : Int)) = false → True ∧ (0 : Int) = oneS t n) ∧ ((True ∧ decide (n ≥ (1 : Int)) = false) ∧ decide (n ≥ (100 : Int)) = false → True ∧ (0 : Int) = oneS t n) ∧ (True)
theorem oneF.eq  (t : List Int × Int) (n : Int) : oneF.g  t n = oneF.T  t n := by kernel_rfl
theorem oneF.ok  (t : List Int × Int) (n : Int) (hx : okTab t ∧ n ≤ 9223372036854775807) : oneF.T  t n := by
  obtain ⟨⟨h1, h2, h3, h4⟩, h5⟩ := hx
  delta oneF.T oneF.q0 oneF.q1
  unfold oneS
  by_cases ha : 1 ≤ n ∧ n ≤ t.2
  · rw [if_pos ha]
    ((repeat' (first | exact trivial | apply And.intro)) <;> (intro hw; (try (simp only [zP, reduceCtorEq] at hw)); (try first | (exfalso; omega) | exact ⟨trivial, rfl⟩ | exact (hw hx).elim | exact (hw.2 hx).elim)))
    all_goals first
      | (exfalso; omega)
      | exact ⟨trivial, rfl⟩
      | trace_state
  · rw [if_neg ha]
    by_cases hb : 100 ≤ n
    · rw [wrapI64 (x := n - 100) (by omega) (by omega)]
      by_cases hc : n - 100 < (t.1.length : Int)
      · rw [if_pos ⟨hb, hc⟩]
        ((repeat' (first | exact trivial | apply And.intro)) <;> (intro hw; (try (simp only [zP, reduceCtorEq] at hw)); (try first | (exfalso; omega) | exact ⟨trivial, rfl⟩ | exact (hw hx).elim | exact (hw.2 hx).elim)))
        all_goals first
          | (exfalso; omega)
          | exact ⟨trivial, rfl⟩
          | trace_state
      · rw [if_neg (fun h => hc h.2)]
        ((repeat' (first | exact trivial | apply And.intro)) <;> (intro hw; (try (simp only [zP, reduceCtorEq] at hw)); (try first | (exfalso; omega) | exact ⟨trivial, rfl⟩ | exact (hw hx).elim | exact (hw.2 hx).elim)))
        all_goals first
          | (exfalso; omega)
          | exact ⟨trivial, rfl⟩
          | trace_state
    · rw [if_neg (fun h => hb h.1)]
      ((repeat' (first | exact trivial | apply And.intro)) <;> (intro hw; (try (simp only [zP, reduceCtorEq] at hw)); (try first | (exfalso; omega) | exact ⟨trivial, rfl⟩ | exact (hw hx).elim | exact (hw.2 hx).elim)))
      all_goals first
        | (exfalso; omega)
        | exact ⟨trivial, rfl⟩
        | trace_state
theorem oneF.fn   : FnOk Tryd.prog oneF := fn_evalH (l := []) (lf := 1000) (fun _ => cfOf_ok (fns_cons setOf.fn (fns_nil _))) _ (lps_nil _ _) (by kernel_rfl) (fun ⟨t, n⟩ hx => Hid.of (oneF.eq  t n) (oneF.ok  t n hx))
def wordsS (t : Tab) (l : List Int) : Bool := l.all fun n => decide (oneS t n ≠ 0)
noncomputable def wdL  : LFace := ⟨[0, 7, 8, 9], [.p TAB, .v (.sl (.int .i64)), .v (.int .i64), .v (.int .i64)], fun (t, l, n, i) => some (n = l.length ∧ 0 ≤ i ∧ i ≤ n ∧ l.length ≤ 9223372036854775807 ∧ okTab t ∧ okR l),
  [⟨.normal, [0], [.p TAB], fun (t, l, n, i) => t, fun (t, l, n, i) => some (wordsS t (l.drop i.toNat) = true)⟩,
   ⟨.ret, [4], [.v .bool], fun (t, l, n, i) => false, fun (t, l, n, i) => some (wordsS t (l.drop i.toNat) = false)⟩]⟩
noncomputable def wdL.mu  : dens wdL.sh → Nat := fun (t, l, n, i) => (n - i).toNat
noncomputable def wdL.g  (t : List Int × Int) (l : List Int) (n : Int) (i : Int) : Prop := GoodLA Tryd.prog (cfOf [oneF]) [] 1000 70 0 wdL wdL.mu (t, l, n, i)
noncomputable def wdL.q0 (t : List Int × Int) (l : List Int) (n : Int) (i : Int) : Prop := ((True ∧ decide (i < n) = true) ∧ (0 : Int) ≤ i ∧ i < (↑l.length : Int)) ∧ okTab t ∧ l.getD i.toNat (0 : Int) ≤ (9223372036854775807 : Int)
noncomputable def wdL.T (t : List Int × Int) (l : List Int) (n : Int) (i : Int) : Prop := (((True ∧ decide (i < n) = true) ∧ (0 : Int) ≤ i ∧ i < (↑l.length : Int)) ∧ ¬(okTab t ∧ l.getD i.toNat (0 : Int) ≤ (9223372036854775807 : Int)) → False) ∧ ((wdL.q0 t l n i) ∧ (oneS t (l.getD i.toNat (0 : Int)) == (0 : Int)) = true → wordsS t (List.drop i.toNat l) = false ∧ false = false) ∧ ((wdL.q0 t l n i) ∧ (oneS t (l.getD i.toNat (0 : Int)) == (0 : Int)) = false → (n = (↑l.length : Int) ∧ (0 : Int) ≤ IntKind.i64.wrap (i + (1 : Int)) ∧ IntKind.i64.wrap (i + (1 : Int)) ≤ n ∧ l.length ≤ (9223372036854775807 : Nat) ∧ okTab t ∧ okR l) ∧ wdL.mu (t, l, n, IntKind.i64.wrap (i + (1 : Int))) < wdL.mu (t, l, n, i) ∧ (wordsS t (List.drop (IntKind.i64.wrap (i + (1 : Int))).toNat l) = true → wordsS t (List.drop i.toNat l) = true ∧ t = t) ∧ (wordsS t (List.drop (IntKind.i64.wrap (i + (1 : Int))).toNat l) = false → wordsS t (List.drop i.toNat l) = false ∧ false = false) ∧ True) ∧ ((True ∧ decide (i < n) = true) ∧ ¬((0 : Int) ≤ i ∧ i < (↑l.length : Int)) → False) ∧ (True ∧ decide (i < n) = false → wordsS t (List.drop i.toNat l) = true ∧ t = t) ∧ (True)
theorem wdL.eq  (t : List Int × Int) (l : List Int) (n : Int) (i : Int) : wdL.g  t l n i = wdL.T  t l n i := by kernel_rfl
theorem wdL.ok  (t : List Int × Int) (l : List Int) (n : Int) (i : Int) (hx : n = l.length ∧ 0 ≤ i ∧ i ≤ n ∧ l.length ≤ 9223372036854775807 ∧ okTab t ∧ okR l) : wdL.T  t l n i := by
  obtain ⟨rfl, h0, h1, h2, h3, h4⟩ := hx
  delta wdL.T wdL.q0
  by_cases hi : i < (l.length : Int)
  · have hm := h4 _ (getD_mem (x := 0) (show i.toNat < l.length by omega))
    rw [drop_int 0 h0 hi, wordsS, List.all_cons, ← wordsS]
    rw [wrapI64 (x := i + 1) (by omega) (by omega)]
    generalize l.getD i.toNat 0 = a at *
    generalize oneS t a = b at *
    ((repeat' (first | exact trivial | apply And.intro)) <;> (intro hw; (try (simp only [zP, reduceCtorEq] at hw)); (try first | (exfalso; omega) | exact ⟨trivial, rfl⟩ | exact (hw hx).elim | exact (hw.2 hx).elim)))
    all_goals first
      | (exfalso; omega)
      | exact (hw.2 ⟨h3, hm⟩).elim
      | (refine ⟨?_, by first | rfl | trivial⟩; simp_all; done)
      | (refine ⟨⟨by first | rfl | trivial, by omega, by omega, h2, h3, h4⟩, by simp only [wdL.mu]; omega, fun h => ⟨?_, by first | rfl | trivial⟩, fun h => ⟨?_, by first | rfl | trivial⟩, trivial⟩ <;> (clear h4 h3; simp_all; done))
      | trace_state
  · rw [drop_int_end hi, wordsS, List.all_nil]
    ((repeat' (first | exact trivial | apply And.intro)) <;> (intro hw; (try (simp only [zP, reduceCtorEq] at hw)); (try first | (exfalso; omega) | exact ⟨trivial, rfl⟩ | exact (hw hx).elim | exact (hw.2 hx).elim)))
    all_goals exact ⟨rfl, rfl⟩
theorem wdL.lp   : LpAt Tryd.prog 70 0 wdL := lp_evalH (l := []) (lf := 1000) (fun _ => cfOf_ok (fns_cons oneF.fn (fns_nil _))) (lps_nil _ _) (by kernel_rfl) _ (wdL.mu ) (fun ⟨t, l, n, i⟩ hx => Hid.of (wdL.eq  t l n i) (wdL.ok  t l n i hx))
noncomputable def wordsF  : Face := ⟨70, [.p TAB, .v (.sl (.int .i64))], fun (t, l) => some (okTab t ∧ okR l),
  [⟨false, [.v .bool], fun (t, l) => wordsS t l, fun (t, l) => none⟩]⟩
noncomputable def wordsF.g  (t : List Int × Int) (l : List Int) : Prop := GoodFA Tryd.prog (cfOf []) [(0, wdL)] 1000 wordsF (t, l)
noncomputable def wordsF.T (t : List Int × Int) (l : List Int) : Prop := ((True ∧ l.length ≤ (9223372036854775807 : Nat)) ∧ ¬((↑l.length : Int) = (↑l.length : Int) ∧ (0 : Int) ≤ (0 : Int) ∧ (0 : Int) ≤ (↑l.length : Int) ∧ l.length ≤ (9223372036854775807 : Nat) ∧ okTab t ∧ okR l) → False) ∧ (((True ∧ l.length ≤ (9223372036854775807 : Nat)) ∧ (↑l.length : Int) = (↑l.length : Int) ∧ (0 : Int) ≤ (0 : Int) ∧ (0 : Int) ≤ (↑l.length : Int) ∧ l.length ≤ (9223372036854775807 : Nat) ∧ okTab t ∧ okR l) ∧ wordsS t (List.drop (Int.toNat (0 : Int)) l) = true →
  True ∧ true = wordsS t l) ∧ (((True ∧ l.length ≤ (9223372036854775807 : Nat)) ∧ (↑l.length : Int) = (↑l.length : Int) ∧ (0 : Int) ≤ (0 : Int) ∧ (0 : Int) ≤ (↑l.length : Int) ∧ l.length ≤ (9223372036854775807 : Nat) ∧ okTab t ∧ okR l) ∧ wordsS t (List.drop (Int.toNat (0 : Int)) l) = false →
  True ∧ false = wordsS t l) ∧ (True)
theorem wordsF.eq  (t : List Int × Int) (l : List Int) : wordsF.g  t l = wordsF.T  t l := by kernel_rfl
theorem wordsF.ok  (t : List Int × Int) (l : List Int) (hx : okTab t ∧ okR l) : wordsF.T  t l := by
  obtain ⟨h3, h4⟩ := hx
  rw [wordsF.T]
  simp only [show Int.toNat 0 = 0 from rfl, List.drop_zero]
  ((repeat' (first | exact trivial | apply And.intro)) <;> (intro hw; (try (simp only [zP, reduceCtorEq] at hw)); (try first | (exfalso; omega) | exact ⟨trivial, rfl⟩ | exact (hw hx).elim | exact (hw.2 hx).elim)))
  all_goals first
    | (exfalso; omega)
    | exact (hw.2 ⟨by omega, by omega, by omega, h3, h4⟩).elim
    | (refine ⟨trivial, ?_⟩; rw [hw.2]; done)
    | (refine ⟨trivial, ?_⟩; rw [hw.2]; rfl)
    | trace_state
theorem wordsF.fn   : FnOk Tryd.prog wordsF := fn_evalH (l := [(0, wdL)]) (lf := 1000) (fun _ => cfOf_ok (fns_nil _)) _ (lps_cons (wdL.lp) (lps_nil _ _)) (by kernel_rfl) (fun ⟨t, l⟩ hx => Hid.of (wordsF.eq  t l) (wordsF.ok  t l hx))
def endS : Int := ofI [0] 0
theorem okU_end : okU endS := okU_ofI _ okU_0
theorem hI_end (n : Int) : hI endS n = decide (n = 0) := by
  unfold endS
  rw [hI_ofI, hI_0, Bool.false_or, decide_eq_decide, List.mem_singleton]
  omega
def ofL (t : Tab) (all : List Int) : List Int → Int → Int
  | [], o => jI o endS
  | n :: r, o => if oneS t n = 0 then 0 else if hI (oneS t n) 0 = true then ofL t all r (jI o (lI (oneS t n) endS)) else if wordsS t all = true then jI o (lI (oneS t n) endS) else 0
def ofLs (t : Tab) (all : List Int) : List Int → Bool
  | [] => false
  | n :: r => if oneS t n = 0 then true else if hI (oneS t n) 0 = true then ofLs t all r else true
def ofLo (t : Tab) (all : List Int) : List Int → Int → Int
  | [], o => o
  | n :: r, o => ofLo t all r (jI o (lI (oneS t n) endS))
theorem ofL_o (t : Tab) (all : List Int) : ∀ (l : List Int) (o : Int), ofLs t all l = false → ofL t all l o = jI (ofLo t all l o) endS
  | [], o, _ => rfl
  | n :: r, o, h => by
    rw [ofLs] at h
    split at h
    · cases h
    · split at h
      · rename_i h1 h2; rw [ofL, if_neg h1, if_pos h2, ofLo, ofL_o t all r _ h]
      · cases h
def ofS (t : Tab) (l : List Int) : Int := ofL t l l 0
theorem okU_ofL {t : Tab} (h : okTab t) (al : List Int) : ∀ (l : List Int) {o : Int}, okU o → okU (ofL t al l o)
  | [], o, ho => okU_j ho okU_end
  | n :: r, o, ho => by
    have h1 := okU_j ho (okU_l (t := endS) (okU_one h n))
    rw [ofL]
    split
    · exact okU_0
    · split
      · exact okU_ofL h al r h1
      · split
        · exact h1
        · exact okU_0
theorem okU_ofLo {t : Tab} (h : okTab t) (al : List Int) : ∀ (l : List Int) {o : Int}, okU o → okU (ofLo t al l o)
  | [], o, ho => ho
  | n :: r, o, ho => okU_ofLo h al r (okU_j ho (okU_l (t := endS) (okU_one h n)))
theorem okU_ofS {t : Tab} (h : okTab t) (l : List Int) : okU (ofS t l) := okU_ofL h l l okU_0
noncomputable def ofLp  : LFace := ⟨[0, 1, 5, 6, 12, 13, 14], [.p TAB, .v (.sl (.int .i64)), .v (.int .u64), .v (.int .u64), .v (.sl (.int .i64)), .v (.int .i64), .v (.int .i64)], fun (t, al, e, o, l, n, i) => some (n = l.length ∧ 0 ≤ i ∧ i ≤ n ∧ l.length ≤ 9223372036854775807 ∧ okTab t ∧ okR l ∧ okR al ∧ okU o ∧ e = endS),
  [⟨.normal, [0, 5, 6], [.p TAB, .v (.int .u64), .v (.int .u64)], fun (t, al, e, o, l, n, i) => (t, e, ofLo t al (l.drop i.toNat) o), fun (t, al, e, o, l, n, i) => some (ofLs t al (l.drop i.toNat) = false)⟩,
   ⟨.ret, [4], [.v (.int .u64)], fun (t, al, e, o, l, n, i) => ofL t al (l.drop i.toNat) o, fun (t, al, e, o, l, n, i) => some (ofLs t al (l.drop i.toNat) = true)⟩]⟩
noncomputable def ofLp.mu  : dens ofLp.sh → Nat := fun (t, al, e, o, l, n, i) => (n - i).toNat
noncomputable def ofLp.g  (t : List Int × Int) (al : List Int) (e : Int) (o : Int) (l : List Int) (n : Int) (i : Int) : Prop := GoodLA Tryd.prog (cfOf [oneF, setLess, setJoin, setHas, wordsF]) [] 1000 38 0 ofLp ofLp.mu (t, al, e, o, l, n, i)
noncomputable def ofLp.q2 (t : List Int × Int) (l : List Int) (n : Int) (i : Int) : Prop := ((True ∧ decide (i < n) = true) ∧ (0 : Int) ≤ i ∧ i < (↑l.length : Int)) ∧ okTab t ∧ l.getD i.toNat (0 : Int) ≤ (9223372036854775807 : Int)
noncomputable def ofLp.q0 (t : List Int × Int) (e : Int) (l : List Int) (n : Int) (i : Int) : Prop := ((ofLp.q2 t l n i) ∧ (oneS t (l.getD i.toNat (0 : Int)) == (0 : Int)) = false) ∧ okU (oneS t (l.getD i.toNat (0 : Int))) ∧ okU e
noncomputable def ofLp.q1 (t : List Int × Int) (e : Int) (o : Int) (l : List Int) (n : Int) (i : Int) : Prop := (((ofLp.q0 t e l n i) ∧ okU o ∧ okU (lI (oneS t (l.getD i.toNat (0 : Int))) e)) ∧ okU (oneS t (l.getD i.toNat (0 : Int)))) ∧ (!hI (oneS t (l.getD i.toNat (0 : Int))) (0 : Int)) = true
noncomputable def ofLp.T (t : List Int × Int) (al : List Int) (e : Int) (o : Int) (l : List Int) (n : Int) (i : Int) : Prop := (((True ∧ decide (i < n) = true) ∧ (0 : Int) ≤ i ∧ i < (↑l.length : Int)) ∧ ¬(okTab t ∧ l.getD i.toNat (0 : Int) ≤ (9223372036854775807 : Int)) → False) ∧ ((ofLp.q2 t l n i) ∧ (oneS t (l.getD i.toNat (0 : Int)) == (0 : Int)) = true → ofLs t al (List.drop i.toNat l) = true ∧ (0 : Int) = ofL t al (List.drop i.toNat l) o) ∧ (((ofLp.q2 t l n i) ∧ (oneS t (l.getD i.toNat (0 : Int)) == (0 : Int)) = false) ∧ ¬(okU (oneS t (l.getD i.toNat (0 : Int))) ∧ okU e) → False) ∧ ((ofLp.q0 t e l n i) ∧ ¬(okU o ∧ okU (lI (oneS t (l.getD i.toNat (0 : Int))) e)) → False) ∧ (((ofLp.q0 t e l n i) ∧ okU o ∧ okU (lI (oneS t (l.getD i.toNat (0 : Int))) e)) ∧ ¬okU (oneS t (l.getD i.toNat (0 : Int))) → False) ∧ ((ofLp.q1 t e o l n i) ∧ ¬(okTab t ∧ okR al) → False) ∧ (((ofLp.q1 t e o l n i) ∧ okTab t ∧ okR al) ∧ (!wordsS t al) = true → ofLs t al (List.drop i.toNat l) = true ∧ (0 : Int) = ofL t al (List.drop i.toNat l) o) ∧ (((ofLp.q1 t e o l n i) ∧ okTab t ∧ okR al) ∧ (!wordsS t al) = false → ofLs t al (List.drop i.toNat l) = true ∧ jI o (lI (oneS t (l.getD i.toNat (0 : Int))) e) = ofL t al (List.drop i.toNat l) o) ∧ ((((ofLp.q0 t e l n i) ∧ okU o ∧ okU (lI (oneS t (l.getD i.toNat (0 : Int))) e)) ∧ okU (oneS t (l.getD i.toNat (0 : Int)))) ∧ (!hI (oneS t (l.getD i.toNat (0 : Int))) (0 : Int)) = false → (n = (↑l.length : Int) ∧ (0 : Int) ≤ IntKind.i64.wrap (i + (1 : Int)) ∧ IntKind.i64.wrap (i + (1 : Int)) ≤ n ∧ l.length ≤ (9223372036854775807 : Nat) ∧ okTab t ∧ okR l ∧ okR al ∧ okU (jI o (lI (oneS t (l.getD i.toNat (0 : Int))) e)) ∧ e = endS) ∧ ofLp.mu (t, al, e, jI o (lI (oneS t (l.getD i.toNat (0 : Int))) e), l, n, IntKind.i64.wrap (i + (1 : Int))) < ofLp.mu (t, al, e, o, l, n, i) ∧ (ofLs t al (List.drop (IntKind.i64.wrap (i + (1 : Int))).toNat l) = false → ofLs t al (List.drop i.toNat l) = false ∧ (t, e, ofLo t al (List.drop (IntKind.i64.wrap (i + (1 : Int))).toNat l) (jI o (lI (oneS t (l.getD i.toNat (0 : Int))) e))) = (t, e, ofLo t al (List.drop i.toNat l) o)) ∧ (ofLs t al (List.drop (IntKind.i64.wrap (i + (1 : Int))).toNat l) = true → ofLs t al (List.drop i.toNat l) = true ∧ ofL t al (List.drop (IntKind.i64.wrap (i + (1 : Int))).toNat l) (jI o (lI (oneS t (l.getD i.toNat (0 : Int))) e)) = ofL t al (List.drop i.toNat l) o) ∧ True) ∧ ((True ∧ decide (i < n) = true) ∧ ¬((0 : Int) ≤ i ∧ i < (↑l.length : Int)) → False) ∧ (True ∧ decide (i < n) = false → ofLs t al (List.drop i.toNat l) = false ∧ (t, e, o) = (t, e, ofLo t al (List.drop i.toNat l) o)) ∧ (True)
theorem ofLp.eq  (t : List Int × Int) (al : List Int) (e : Int) (o : Int) (l : List Int) (n : Int) (i : Int) : ofLp.g  t al e o l n i = ofLp.T  t al e o l n i := by kernel_rfl
theorem ofLp.ok  (t : List Int × Int) (al : List Int) (e : Int) (o : Int) (l : List Int) (n : Int) (i : Int) (hx : n = l.length ∧ 0 ≤ i ∧ i ≤ n ∧ l.length ≤ 9223372036854775807 ∧ okTab t ∧ okR l ∧ okR al ∧ okU o ∧ e = endS) : ofLp.T  t al e o l n i := by
  obtain ⟨rfl, h0, h1, h2, h3, h4, h5, h6, rfl⟩ := hx
  delta ofLp.T ofLp.q2 ofLp.q0 ofLp.q1
  have he := okU_end
  by_cases hi : i < (l.length : Int)
  · have hm := h4 _ (getD_mem (x := 0) (show i.toNat < l.length by omega))
    rw [drop_int 0 h0 hi, ofL, ofLs, ofLo]
    rw [wrapI64 (x := i + 1) (by omega) (by omega)]
    have hb := okU_one h3 (l.getD i.toNat 0)
    generalize l.getD i.toNat 0 = a at *
    generalize oneS t a = b at *
    have hlb := okU_l (t := endS) hb
    have hj := okU_j h6 hlb
    generalize hI b 0 = c at *
    generalize wordsS t al = d at *
    generalize jI o (lI b endS) = o' at *
    generalize l.drop (i + 1).toNat = r at *
    ((repeat' (first | exact trivial | apply And.intro)) <;> (intro hw; (try (simp only [zP, reduceCtorEq] at hw)); (try first | (exfalso; omega) | exact ⟨trivial, rfl⟩ | exact (hw hx).elim | exact (hw.2 hx).elim)))
    all_goals first
      | (exfalso; omega)
      | exact (hw.2 ⟨h3, hm⟩).elim
      | exact (hw.2 ⟨hb, he⟩).elim
      | exact (hw.2 ⟨h6, hlb⟩).elim
      | exact (hw.2 hb).elim
      | exact (hw.2 ⟨h3, h5⟩).elim
      | (refine ⟨?_, ?_⟩ <;> (clear h3 h4 h5; simp_all; done))
      | (refine ⟨⟨by first | rfl | trivial, by omega, by omega, h2, h3, h4, h5, hj, by first | rfl | trivial⟩, by simp only [ofLp.mu]; omega, fun h => ⟨?_, ?_⟩, fun h => ⟨?_, ?_⟩, trivial⟩ <;> (clear h3 h4 h5; simp_all; done))
      | trace_state
  · rw [drop_int_end hi, ofLs, ofLo]
    ((repeat' (first | exact trivial | apply And.intro)) <;> (intro hw; (try (simp only [zP, reduceCtorEq] at hw)); (try first | (exfalso; omega) | exact ⟨trivial, rfl⟩ | exact (hw hx).elim | exact (hw.2 hx).elim)))
    all_goals first
      | (exfalso; omega)
      | exact ⟨rfl, rfl⟩
      | trace_state
theorem ofLp.lp   : LpAt Tryd.prog 38 0 ofLp := lp_evalH (l := []) (lf := 1000) (fun _ => cfOf_ok (fns_cons oneF.fn (fns_cons setLess.fn (fns_cons setJoin.fn (fns_cons setHas.fn (fns_cons wordsF.fn (fns_nil _))))))) (lps_nil _ _) (by kernel_rfl) _ (ofLp.mu ) (fun ⟨t, al, e, o, l, n, i⟩ hx => Hid.of (ofLp.eq  t al e o l n i) (ofLp.ok  t al e o l n i hx))
noncomputable def ofF  : Face := ⟨38, [.p TAB, .v (.sl (.int .i64))], fun (t, l) => some (okTab t ∧ okR l),
  [⟨false, [.v (.int .u64)], fun (t, l) => ofS t l, fun (t, l) => none⟩]⟩
noncomputable def ofF.g  (t : List Int × Int) (l : List Int) : Prop := GoodFA Tryd.prog (cfOf [setOf, setJoin]) [(0, ofLp)] 1000 ofF (t, l)
noncomputable def ofF.q0 (t : List Int × Int) (l : List Int) : Prop := (True ∧ l.length ≤ (9223372036854775807 : Nat)) ∧ (↑l.length : Int) = (↑l.length : Int) ∧ (0 : Int) ≤ (0 : Int) ∧ (0 : Int) ≤ (↑l.length : Int) ∧ l.length ≤ (9223372036854775807 : Nat) ∧ okTab t ∧ okR l ∧ okR l ∧ okU (0 : Int) ∧ ofI [(0 : Int)] (0 : Int) = endS
noncomputable def ofF.T (t : List Int × Int) (l : List Int) : Prop := ((True ∧ l.length ≤ (9223372036854775807 : Nat)) ∧ ¬((↑l.length : Int) = (↑l.length : Int) ∧ (0 : Int) ≤ (0 : Int) ∧ (0 : Int) ≤ (↑l.length : Int) ∧ l.length ≤ (9223372036854775807 : Nat) ∧ okTab t ∧ okR l ∧ okR l ∧ okU (0 : Int) ∧ ofI [(0 : Int)] (0 : Int) = endS) → False) ∧ (((ofF.q0 t l) ∧ ofLs t l (List.drop (Int.toNat (0 : Int)) l) = false) ∧ ¬(okU (ofLo t l (List.drop (Int.toNat (0 : Int)) l) (0 : Int)) ∧ okU (ofI [(0 : Int)] (0 : Int))) → False) ∧ (((ofF.q0 t l) ∧ ofLs t l (List.drop (Int.toNat (0 : Int)) l) = false) ∧ okU (ofLo t l (List.drop (Int.toNat (0 : Int)) l) (0 : Int)) ∧ okU (ofI [(0 : Int)] (0 : Int)) → True ∧ jI (ofLo t l (List.drop (Int.toNat (0 : Int)) l) (0 : Int)) (ofI [(0 : Int)] (0 : Int)) = ofS t l) ∧ ((ofF.q0 t l) ∧ ofLs t l (List.drop (Int.toNat (0 : Int)) l) = true → True ∧ ofL t l (List.drop (Int.toNat (0 : Int)) l) (0 : Int) = ofS t l) ∧ (True)
theorem ofF.eq  (t : List Int × Int) (l : List Int) : ofF.g  t l = ofF.T  t l := by kernel_rfl
theorem ofF.ok  (t : List Int × Int) (l : List Int) (hx : okTab t ∧ okR l) : ofF.T  t l := by
  obtain ⟨h3, h4⟩ := hx
  have h6 := okU_0
  have he := okU_end
  delta ofF.T ofF.q0
  simp only [show Int.toNat 0 = 0 from rfl, List.drop_zero, show ofI [0] 0 = endS from rfl]
  have hl := ofL_o t l l 0
  have ho := okU_ofLo h3 l l h6
  unfold ofS
  ((repeat' (first | exact trivial | apply And.intro)) <;> (intro hw; (try (simp only [zP, reduceCtorEq] at hw)); (try first | (exfalso; omega) | exact ⟨trivial, rfl⟩ | exact (hw hx).elim | exact (hw.2 hx).elim)))
  all_goals first
    | (exfalso; omega)
    | exact (hw.2 ⟨by omega, by omega, by omega, h3, h4, h4, h6⟩).elim
    | exact (hw.2 ⟨by omega, by omega, by omega, h3, h4, h4, h6, rfl⟩).elim
    | exact (hw.2 ⟨ho, he⟩).elim
    | (refine ⟨trivial, ?_⟩; first | rfl | (rw [hl (by first | exact hw.2 | exact hw.1.2 | exact hw.1.1.2)]; done))
    | trace_state
theorem ofF.fn   : FnOk Tryd.prog ofF := fn_evalH (l := [(0, ofLp)]) (lf := 1000) (fun _ => cfOf_ok (fns_cons setOf.fn (fns_cons setJoin.fn (fns_nil _)))) _ (lps_cons (ofLp.lp) (lps_nil _ _)) (by kernel_rfl) (fun ⟨t, l⟩ hx => Hid.of (ofF.eq  t l) (ofF.ok  t l hx))
end Go.Proofs.YtajnboigikdefaaDoor.D

namespace Go.Proofs.YtajnboigikdefaaDoor.D
open Go Go.EV Go.Proofs
set_option linter.unusedVariables false
set_option linter.unusedSimpArgs false
set_option maxRecDepth 100000
def aheadS (t : Tab) (l : List Int) (a : Int) : Int := if hI (ofS t l) 0 = true then (if 0 ≤ a ∧ a ≤ t.2 then wI (lI (ofS t l) endS) a else lI (ofS t l) endS) else ofS t l
noncomputable def aheadF  : Face := ⟨41, [.p TAB, .v (.sl (.int .i64)), .v (.int .i64)], fun (t, l, a) => some (okTab t ∧ okR l),
  [⟨false, [.v (.int .u64)], fun (t, l, a) => aheadS t l a, fun (t, l, a) => none⟩]⟩
noncomputable def aheadF.q0 (t : List Int × Int) (l : List Int) : Prop := (((True ∧ okTab t ∧ okR l) ∧ okU (ofS t l)) ∧ (!hI (ofS t l) (0 : Int)) = false) ∧ okU (ofS t l) ∧ okU (ofI [(0 : Int)] (0 : Int))
noncomputable def aheadF.T (t : List Int × Int) (l : List Int) (a : Int) : Prop := (True ∧ ¬(okTab t ∧ okR l) → False) ∧ ((True ∧ okTab t ∧ okR l) ∧ ¬okU (ofS t l) → False) ∧ (((True ∧ okTab t ∧ okR l) ∧ okU (ofS t l)) ∧ (!hI (ofS t l) (0 : Int)) = true → True ∧ ofS t l = aheadS t l a) ∧ ((((True ∧ okTab t ∧ okR l) ∧ okU (ofS t l)) ∧ (!hI (ofS t l) (0 : Int)) = false) ∧ ¬(okU (ofS t l) ∧ okU (ofI [(0 : Int)] (0 : Int))) → False) ∧ ((((aheadF.q0 t l) ∧ decide (a ≥ (0 : Int)) = true) ∧ decide (a ≤ t.2) = true) ∧ ¬okU (lI (ofS t l) (ofI [(0 : Int)] (0 : Int))) → False) ∧ ((((aheadF.q0 t l) ∧ decide (a ≥ (0 : Int)) = true) ∧ decide (a ≤ t.2) = true) ∧ okU (lI (ofS t l) (ofI [(0 : Int)] (0 : Int))) → True ∧ wI (lI (ofS t l) (ofI [(0 : Int)] (0 : Int))) a = aheadS t l a) ∧ (((aheadF.q0 t l) ∧ decide (a ≥ (0 : Int)) = true) ∧ decide (a ≤ t.2) = false → True ∧ lI (ofS t l) (ofI [(0 : Int)] (0 : Int)) = aheadS t l a) ∧ ((aheadF.q0 t l) ∧ decide (a ≥ (0 : Int)) = false → True ∧ lI (ofS t l) (ofI [(0 : Int)] (0 : Int)) = aheadS t l a) ∧ (True)
theorem aheadF.ok  (t : List Int × Int) (l : List Int) (a : Int) (hx : okTab t ∧ okR l) : aheadF.T  t l a := by
  obtain ⟨h3, h4⟩ := hx
  have he := okU_end
  have hs := okU_ofS h3 l
  have hl := okU_l (t := endS) hs
  delta aheadF.T aheadF.q0
  simp only [show ofI [0] 0 = endS from rfl]
  unfold aheadS
  generalize ofS t l = s at *
  cases hI s 0 with
  | false =>
    rw [if_neg Bool.false_ne_true]
    ((repeat' (first | exact trivial | apply And.intro)) <;> (intro hw; (try (simp only [zP, reduceCtorEq] at hw)); (try first | (exfalso; omega) | exact ⟨trivial, rfl⟩ | exact (hw hx).elim | exact (hw.2 hx).elim)))
    all_goals first
      | (exfalso; omega)
      | exact (hw.2 ⟨h3, h4⟩).elim
      | exact (hw ⟨h3, h4⟩).elim
      | exact (hw.2 hs).elim
      | exact ⟨trivial, rfl⟩
      | (exfalso; simp at hw; done)
      | trace_state
  | true =>
    rw [if_pos rfl]
    by_cases ha : 0 ≤ a ∧ a ≤ t.2
    · rw [if_pos ha]
      ((repeat' (first | exact trivial | apply And.intro)) <;> (intro hw; (try (simp only [zP, reduceCtorEq] at hw)); (try first | (exfalso; omega) | exact ⟨trivial, rfl⟩ | exact (hw hx).elim | exact (hw.2 hx).elim)))
      all_goals first
        | (exfalso; omega)
        | exact (hw.2 ⟨h3, h4⟩).elim
        | exact (hw ⟨h3, h4⟩).elim
        | exact (hw.2 hs).elim
        | exact (hw.2 ⟨hs, he⟩).elim
        | exact (hw.2 hl).elim
        | exact ⟨trivial, rfl⟩
        | (exfalso; simp at hw; done)
        | trace_state
    · rw [if_neg ha]
      ((repeat' (first | exact trivial | apply And.intro)) <;> (intro hw; (try (simp only [zP, reduceCtorEq] at hw)); (try first | (exfalso; omega) | exact ⟨trivial, rfl⟩ | exact (hw hx).elim | exact (hw.2 hx).elim)))
      all_goals first
        | (exfalso; omega)
        | exact (hw.2 ⟨h3, h4⟩).elim
        | exact (hw ⟨h3, h4⟩).elim
        | exact (hw.2 hs).elim
        | exact (hw.2 ⟨hs, he⟩).elim
        | exact (hw.2 hl).elim
        | exact ⟨trivial, rfl⟩
        | (exfalso; simp at hw; done)
        | trace_state
def sumM (l : List Int) : Nat := (l.map missing).sum
theorem sumM_set : ∀ (l : List Int) (i : Nat) (s : Int), i < l.length → sumM (l.set i s) + missing (l.getD i 0) = sumM l + missing s
  | [], i, s, h => by simp at h
  | a :: r, 0, s, _ => by simp only [List.set_cons_zero, sumM, List.map_cons, List.sum_cons, List.getD_cons_zero]; omega
  | a :: r, i + 1, s, h => by
    have ih := sumM_set r i s (by simpa using h)
    simp only [List.set_cons_succ, sumM, List.map_cons, List.sum_cons, List.getD_cons_succ] at *
    omega
def newAt (g : Gr) (k : Int) : Nat := ((g.2.2.getD k.toNat (0, [])).1 - 100).toNat
def newV (g : Gr) (tm : Int) (l : List Int) (k : Int) : Int := jI (l.getD (newAt g k) 0) (ofS (l, tm) (g.2.2.getD k.toNat (0, [])).2)
def newR (g : Gr) (tm : Int) : List Int → List Int → List Int
  | [], l => l
  | k :: r, l => newR g tm r (l.set (newAt g k) (newV g tm l k))
def newC (g : Gr) (tm : Int) : List Int → List Int → Bool
  | [], _ => false
  | k :: r, l => decide (newV g tm l k ≠ l.getD (newAt g k) 0) || newC g tm r (l.set (newAt g k) (newV g tm l k))
def okPl (g : Gr) (n : Nat) (ks : List Int) : Prop := ∀ k ∈ ks, 0 ≤ k ∧ k < g.2.2.length ∧ 100 ≤ (g.2.2.getD k.toNat (0, [])).1 ∧ (g.2.2.getD k.toNat (0, [])).1 - 100 < (n : Int) ∧ okR (g.2.2.getD k.toNat (0, [])).2
theorem okUs_set {l : List Int} {s : Int} (h : okUs l) (hs : okU s) (i : Nat) : okUs (l.set i s) := fun a ha => by
  rcases List.mem_or_eq_of_mem_set ha with h1 | h1
  · exact h a h1
  · rw [h1]; exact hs
theorem okU_newV {g : Gr} {tm : Int} {l : List Int} (h : okTab (l, tm)) {k : Int} (hk : newAt g k < l.length) : okU (newV g tm l k) := okU_j (h.1 _ (getD_mem hk)) (okU_ofS h _)
theorem okTab_set {l : List Int} {tm s : Int} (h : okTab (l, tm)) (hs : okU s) (i : Nat) : okTab (l.set i s, tm) := ⟨okUs_set h.1 hs i, by show (l.set i s).length ≤ 99; rw [List.length_set]; exact h.2.1, h.2.2⟩
theorem newR_ok {g : Gr} {tm : Int} : ∀ (ks l : List Int), okPl g l.length ks → okTab (l, tm) → okTab (newR g tm ks l, tm) ∧ (newR g tm ks l).length = l.length
  | [], l, _, h => ⟨h, rfl⟩
  | k :: r, l, hp, h => by
    obtain ⟨a1, a2, a3, a4, a5⟩ := hp k (List.mem_cons_self ..)
    have hk : newAt g k < l.length := by unfold newAt; omega
    have := newR_ok (g := g) (tm := tm) r (l.set (newAt g k) (newV g tm l k)) (by rw [List.length_set]; exact fun q hq => hp q (List.mem_cons_of_mem _ hq)) (okTab_set h (okU_newV h hk) _)
    rw [List.length_set] at this
    exact this
theorem newR_le {g : Gr} {tm : Int} : ∀ (ks l : List Int), okPl g l.length ks → okTab (l, tm) → sumM (newR g tm ks l) ≤ sumM l ∧ (newC g tm ks l = true → sumM (newR g tm ks l) < sumM l) ∧ (newC g tm ks l = false → newR g tm ks l = l)
  | [], l, _, _ => ⟨Nat.le_refl _, fun h => (by cases h), fun _ => rfl⟩
  | k :: r, l, hp, h => by
    obtain ⟨a1, a2, a3, a4, a5⟩ := hp k (List.mem_cons_self ..)
    have hk : newAt g k < l.length := by unfold newAt; omega
    obtain ⟨h1, h2, h3⟩ := newR_le (g := g) (tm := tm) r (l.set (newAt g k) (newV g tm l k)) (by rw [List.length_set]; exact fun q hq => hp q (List.mem_cons_of_mem _ hq)) (okTab_set h (okU_newV h hk) _)
    have hs := sumM_set l (newAt g k) (newV g tm l k) hk
    have hsub : subS (l.getD (newAt g k) 0) (newV g tm l k) := fun n hn => by unfold newV; rw [hI_jI, hn]; rfl
    have hm := missing_le hsub
    have hu : okU (l.getD (newAt g k) 0) := h.1 _ (getD_mem (x := 0) hk)
    rw [newR, newC]
    by_cases hc : newV g tm l k = l.getD (newAt g k) 0
    · have hset : l.set (newAt g k) (newV g tm l k) = l := by
        rw [hc, List.getD_eq_getElem?_getD, List.getElem?_eq_getElem hk, Option.getD_some, List.set_getElem_self]
      rw [decide_eq_false (fun h => h hc), Bool.false_or]
      refine ⟨by omega, fun h => ?_, fun h => ?_⟩
      · have := h2 h; omega
      · rw [h3 h, hset]
    · have := missing_lt hu (okU_newV h hk) hsub (fun e => hc e.symm)
      rw [decide_eq_true hc, Bool.true_or]
      exact ⟨by omega, fun _ => (by omega), fun h => (by cases h)⟩
def newN (g : Gr) (tm : Int) (ks : List Int) : Nat → List Int → List Int
  | 0, l => l
  | k + 1, l => if newC g tm ks l = true then newN g tm ks k (newR g tm ks l) else l
def newF (g : Gr) (tm : Int) (ks l : List Int) : List Int := newN g tm ks (sumM l + 1) l
theorem newN_fuel {g : Gr} {tm : Int} {ks : List Int} : ∀ (k m : Nat) (l : List Int), okPl g l.length ks → okTab (l, tm) → sumM l < k → sumM l < m → newN g tm ks k l = newN g tm ks m l
  | 0, _, _, _, _, h, _ => by omega
  | _, 0, _, _, _, _, h => by omega
  | k + 1, m + 1, l, hp, ht, h1, h2 => by
    rw [newN, newN]
    split
    · rename_i h
      have := (newR_le ks l hp ht).2.1 h
      obtain ⟨q1, q2⟩ := newR_ok ks l hp ht
      exact newN_fuel k m _ (by rw [q2]; exact hp) q1 (by omega) (by omega)
    · rfl
theorem newF_eq {g : Gr} {tm : Int} {ks l : List Int} (hp : okPl g l.length ks) (ht : okTab (l, tm)) : newF g tm ks l = if newC g tm ks l = true then newF g tm ks (newR g tm ks l) else l := by
  unfold newF
  rw [newN]
  split
  · rename_i h
    have := (newR_le ks l hp ht).2.1 h
    obtain ⟨q1, q2⟩ := newR_ok ks l hp ht
    exact newN_fuel _ _ _ (by rw [q2]; exact hp) q1 (by omega) (by omega)
  · rfl
theorem newN_ok {g : Gr} {tm : Int} {ks : List Int} : ∀ (k : Nat) (l : List Int), okPl g l.length ks → okTab (l, tm) → okTab (newN g tm ks k l, tm) ∧ (newN g tm ks k l).length = l.length
  | 0, l, _, h => ⟨h, rfl⟩
  | k + 1, l, hp, h => by
    rw [newN]; split
    · obtain ⟨q1, q2⟩ := newR_ok ks l hp h
      obtain ⟨q3, q4⟩ := newN_ok k (newR g tm ks l) (by rw [q2]; exact hp) q1
      exact ⟨q3, q4.trans q2⟩
    · exact ⟨h, rfl⟩
noncomputable def nwL2  : LFace := ⟨[1, 4, 6, 7, 31, 32, 33], [.p GR, .v (.sl (.int .i64)), .box 95 [.row (.int .u64) 31, .v (.int .i64)], .v .bool, .v (.sl (.int .i64)), .v (.int .i64), .v (.int .i64)], fun (g, ks, t, more, l, n, i) => some (n = l.length ∧ 0 ≤ i ∧ i ≤ n ∧ l.length ≤ 99 ∧ okTab t ∧ okPl g t.1.length l),
  [⟨.normal, [1, 4, 6, 7], [.p GR, .v (.sl (.int .i64)), .box 95 [.row (.int .u64) 31, .v (.int .i64)], .v .bool], fun (g, ks, t, more, l, n, i) => (g, ks, (newR g t.2 (l.drop i.toNat) t.1, t.2), more || newC g t.2 (l.drop i.toNat) t.1), fun (g, ks, t, more, l, n, i) => none⟩]⟩
noncomputable def nwL2.mu  : dens nwL2.sh → Nat := fun (g, ks, t, more, l, n, i) => (n - i).toNat
noncomputable def nwL2.g  (g : List ByteArray × List ByteArray × List (Int × List Int)) (ks : List Int) (t : List Int × Int) (more : Bool) (l : List Int) (n : Int) (i : Int) : Prop := GoodLA Tryd.prog (cfB [ofF] (cfOf [setJoin])) [] 1000 36 2 nwL2 nwL2.mu (g, ks, t, more, l, n, i)
noncomputable def nwL2.q0 (g : List ByteArray × List ByteArray × List (Int × List Int)) (t : List Int × Int) (l : List Int) (n : Int) (i : Int) : Prop := (((True ∧ decide (i < n) = true) ∧ (0 : Int) ≤ i ∧ i < (↑l.length : Int)) ∧ (0 : Int) ≤ l.getD i.toNat (0 : Int) ∧ l.getD i.toNat (0 : Int) < (↑(List.length g.2.2) : Int)) ∧ (0 : Int) ≤ IntKind.i64.wrap ((List.getD g.2.2 (l.getD i.toNat (0 : Int)).toNat ((0 : Int), [])).1 - (100 : Int)) ∧ IntKind.i64.wrap ((List.getD g.2.2 (l.getD i.toNat (0 : Int)).toNat ((0 : Int), [])).1 - (100 : Int)) < (↑(List.length t.1) : Int)
noncomputable def nwL2.q9 (g : List ByteArray × List ByteArray × List (Int × List Int)) (t : List Int × Int) (l : List Int) (i : Int) : Int := ofS t (List.getD g.2.2 (l.getD i.toNat (0 : Int)).toNat ((0 : Int), [])).2
noncomputable def nwL2.q14 (g : List ByteArray × List ByteArray × List (Int × List Int)) (t : List Int × Int) (l : List Int) (n : Int) (i : Int) : Prop := (nwL2.q0 g t l n i) ∧ (IntKind.i64.wrap ((List.getD g.2.2 (l.getD i.toNat (0 : Int)).toNat ((0 : Int), [])).1 - (100 : Int))).toNat < List.length t.1
noncomputable def nwL2.q1 (g : List ByteArray × List ByteArray × List (Int × List Int)) (t : List Int × Int) (l : List Int) (n : Int) (i : Int) : Prop := ((nwL2.q14 g t l n i) ∧ okTab t ∧ okR (List.getD g.2.2 (l.getD i.toNat (0 : Int)).toNat ((0 : Int), [])).2) ∧ okU (List.getD t.1 (IntKind.i64.wrap ((List.getD g.2.2 (l.getD i.toNat (0 : Int)).toNat ((0 : Int), [])).1 - (100 : Int))).toNat (0 : Int)) ∧ okU (nwL2.q9 g t l i)
noncomputable def nwL2.q16 (g : List ByteArray × List ByteArray × List (Int × List Int)) (t : List Int × Int) (l : List Int) (n : Int) (i : Int) : Prop := ((nwL2.q0 g t l n i) ∧ okTab t ∧ okR (List.getD g.2.2 (l.getD i.toNat (0 : Int)).toNat ((0 : Int), [])).2) ∧ (IntKind.i64.wrap ((List.getD g.2.2 (l.getD i.toNat (0 : Int)).toNat ((0 : Int), [])).1 - (100 : Int))).toNat < List.length t.1
noncomputable def nwL2.q2 (g : List ByteArray × List ByteArray × List (Int × List Int)) (t : List Int × Int) (l : List Int) (n : Int) (i : Int) : Prop := (nwL2.q16 g t l n i) ∧ okU (List.getD t.1 (IntKind.i64.wrap ((List.getD g.2.2 (l.getD i.toNat (0 : Int)).toNat ((0 : Int), [])).1 - (100 : Int))).toNat (0 : Int)) ∧ okU (nwL2.q9 g t l i)
noncomputable def nwL2.q3 (g : List ByteArray × List ByteArray × List (Int × List Int)) (t : List Int × Int) (l : List Int) (n : Int) (i : Int) : Prop := n = (↑l.length : Int) ∧ (0 : Int) ≤ IntKind.i64.wrap (i + (1 : Int)) ∧ IntKind.i64.wrap (i + (1 : Int)) ≤ n ∧ l.length ≤ (99 : Nat) ∧ okTab (List.set t.1 (IntKind.i64.wrap ((List.getD g.2.2 (l.getD i.toNat (0 : Int)).toNat ((0 : Int), [])).1 - (100 : Int))).toNat (jI (List.getD t.1 (IntKind.i64.wrap ((List.getD g.2.2 (l.getD i.toNat (0 : Int)).toNat ((0 : Int), [])).1 - (100 : Int))).toNat (0 : Int)) (nwL2.q9 g t l i)), t.2) ∧ okPl g (List.set t.1 (IntKind.i64.wrap ((List.getD g.2.2 (l.getD i.toNat (0 : Int)).toNat ((0 : Int), [])).1 - (100 : Int))).toNat (jI (List.getD t.1 (IntKind.i64.wrap ((List.getD g.2.2 (l.getD i.toNat (0 : Int)).toNat ((0 : Int), [])).1 - (100 : Int))).toNat (0 : Int)) (nwL2.q9 g t l i))).length l
noncomputable def nwL2.q15 (g : List ByteArray × List ByteArray × List (Int × List Int)) (t : List Int × Int) (l : List Int) (i : Int) : Int := ofS t (List.getD g.2.2 (l.getD i.toNat (0 : Int)).toNat ((0 : Int), ([] : List Int))).2
noncomputable def nwL2.q4 (g : List ByteArray × List ByteArray × List (Int × List Int)) (ks : List Int) (t : List Int × Int) (more : Bool) (l : List Int) (i : Int) : Prop := True → True ∧ (g, ks, (newR g t.2 (List.drop (IntKind.i64.wrap (i + (1 : Int))).toNat l) (List.set t.1 (IntKind.i64.wrap ((List.getD g.2.2 (l.getD i.toNat (0 : Int)).toNat ((0 : Int), ([] : List Int))).1 - (100 : Int))).toNat (jI (List.getD t.1 (IntKind.i64.wrap ((List.getD g.2.2 (l.getD i.toNat (0 : Int)).toNat ((0 : Int), ([] : List Int))).1 - (100 : Int))).toNat (0 : Int)) (nwL2.q15 g t l i))), t.2), jI (List.getD t.1 (IntKind.i64.wrap ((List.getD g.2.2 (l.getD i.toNat (0 : Int)).toNat ((0 : Int), ([] : List Int))).1 - (100 : Int))).toNat (0 : Int)) (nwL2.q15 g t l i) != List.getD t.1 (IntKind.i64.wrap ((List.getD g.2.2 (l.getD i.toNat (0 : Int)).toNat ((0 : Int), ([] : List Int))).1 - (100 : Int))).toNat (0 : Int) || newC g t.2 (List.drop (IntKind.i64.wrap (i + (1 : Int))).toNat l) (List.set t.1 (IntKind.i64.wrap ((List.getD g.2.2 (l.getD i.toNat (0 : Int)).toNat ((0 : Int), ([] : List Int))).1 - (100 : Int))).toNat (jI (List.getD t.1 (IntKind.i64.wrap ((List.getD g.2.2 (l.getD i.toNat (0 : Int)).toNat ((0 : Int), ([] : List Int))).1 - (100 : Int))).toNat (0 : Int)) (nwL2.q15 g t l i)))) = (g, ks, (newR g t.2 (List.drop i.toNat l) t.1, t.2), more || newC g t.2 (List.drop i.toNat l) t.1)
noncomputable def nwL2.q5 (g : List ByteArray × List ByteArray × List (Int × List Int)) (t : List Int × Int) (l : List Int) (i : Int) : Prop := (0 : Int) ≤ IntKind.i64.wrap ((List.getD g.2.2 (l.getD i.toNat (0 : Int)).toNat ((0 : Int), [])).1 - (100 : Int)) ∧ IntKind.i64.wrap ((List.getD g.2.2 (l.getD i.toNat (0 : Int)).toNat ((0 : Int), [])).1 - (100 : Int)) < (↑(List.length t.1) : Int)
noncomputable def nwL2.q6 (g : List ByteArray × List ByteArray × List (Int × List Int)) (ks : List Int) (t : List Int × Int) (more : Bool) (l : List Int) (i : Int) : Prop := True → True ∧ (g, ks, (newR g t.2 (List.drop (IntKind.i64.wrap (i + (1 : Int))).toNat l) (List.set t.1 (IntKind.i64.wrap ((List.getD g.2.2 (l.getD i.toNat (0 : Int)).toNat ((0 : Int), ([] : List Int))).1 - (100 : Int))).toNat (jI (List.getD t.1 (IntKind.i64.wrap ((List.getD g.2.2 (l.getD i.toNat (0 : Int)).toNat ((0 : Int), ([] : List Int))).1 - (100 : Int))).toNat (0 : Int)) (nwL2.q15 g t l i))), t.2), true || newC g t.2 (List.drop (IntKind.i64.wrap (i + (1 : Int))).toNat l) (List.set t.1 (IntKind.i64.wrap ((List.getD g.2.2 (l.getD i.toNat (0 : Int)).toNat ((0 : Int), ([] : List Int))).1 - (100 : Int))).toNat (jI (List.getD t.1 (IntKind.i64.wrap ((List.getD g.2.2 (l.getD i.toNat (0 : Int)).toNat ((0 : Int), ([] : List Int))).1 - (100 : Int))).toNat (0 : Int)) (nwL2.q15 g t l i)))) = (g, ks, (newR g t.2 (List.drop i.toNat l) t.1, t.2), more || newC g t.2 (List.drop i.toNat l) t.1)
noncomputable def nwL2.q7 (g : List ByteArray × List ByteArray × List (Int × List Int)) (t : List Int × Int) (more : Bool) (l : List Int) (n : Int) (i : Int) : Prop := ((nwL2.q1 g t l n i) ∧ more = false) ∧ (0 : Int) ≤ IntKind.i64.wrap ((List.getD g.2.2 (l.getD i.toNat (0 : Int)).toNat ((0 : Int), [])).1 - (100 : Int)) ∧ IntKind.i64.wrap ((List.getD g.2.2 (l.getD i.toNat (0 : Int)).toNat ((0 : Int), [])).1 - (100 : Int)) < (↑(List.length t.1) : Int)
noncomputable def nwL2.q8 (g : List ByteArray × List ByteArray × List (Int × List Int)) (t : List Int × Int) (more : Bool) (l : List Int) (n : Int) (i : Int) : Prop := ((nwL2.q2 g t l n i) ∧ more = false) ∧ (0 : Int) ≤ IntKind.i64.wrap ((List.getD g.2.2 (l.getD i.toNat (0 : Int)).toNat ((0 : Int), [])).1 - (100 : Int)) ∧ IntKind.i64.wrap ((List.getD g.2.2 (l.getD i.toNat (0 : Int)).toNat ((0 : Int), [])).1 - (100 : Int)) < (↑(List.length t.1) : Int)
noncomputable def nwL2.q10 (g : List ByteArray × List ByteArray × List (Int × List Int)) (t : List Int × Int) (more : Bool) (l : List Int) (n : Int) (i : Int) : Prop := ((nwL2.q7 g t more l n i) ∧ (IntKind.i64.wrap ((List.getD g.2.2 (l.getD i.toNat (0 : Int)).toNat ((0 : Int), [])).1 - (100 : Int))).toNat < List.length t.1) ∧ (0 : Int) ≤ IntKind.i64.wrap ((List.getD g.2.2 (l.getD i.toNat (0 : Int)).toNat ((0 : Int), [])).1 - (100 : Int)) ∧ IntKind.i64.wrap ((List.getD g.2.2 (l.getD i.toNat (0 : Int)).toNat ((0 : Int), [])).1 - (100 : Int)) < (↑(List.length t.1) : Int)
noncomputable def nwL2.q11 (g : List ByteArray × List ByteArray × List (Int × List Int)) (t : List Int × Int) (more : Bool) (l : List Int) (n : Int) (i : Int) : Prop := ((nwL2.q8 g t more l n i) ∧ (IntKind.i64.wrap ((List.getD g.2.2 (l.getD i.toNat (0 : Int)).toNat ((0 : Int), [])).1 - (100 : Int))).toNat < List.length t.1) ∧ (0 : Int) ≤ IntKind.i64.wrap ((List.getD g.2.2 (l.getD i.toNat (0 : Int)).toNat ((0 : Int), [])).1 - (100 : Int)) ∧ IntKind.i64.wrap ((List.getD g.2.2 (l.getD i.toNat (0 : Int)).toNat ((0 : Int), [])).1 - (100 : Int)) < (↑(List.length t.1) : Int)
noncomputable def nwL2.q12 (g : List ByteArray × List ByteArray × List (Int × List Int)) (t : List Int × Int) (more : Bool) (l : List Int) (n : Int) (i : Int) : Prop := ((nwL2.q1 g t l n i) ∧ more = true) ∧ (0 : Int) ≤ IntKind.i64.wrap ((List.getD g.2.2 (l.getD i.toNat (0 : Int)).toNat ((0 : Int), [])).1 - (100 : Int)) ∧ IntKind.i64.wrap ((List.getD g.2.2 (l.getD i.toNat (0 : Int)).toNat ((0 : Int), [])).1 - (100 : Int)) < (↑(List.length t.1) : Int)
noncomputable def nwL2.q13 (g : List ByteArray × List ByteArray × List (Int × List Int)) (t : List Int × Int) (more : Bool) (l : List Int) (n : Int) (i : Int) : Prop := ((nwL2.q2 g t l n i) ∧ more = true) ∧ (0 : Int) ≤ IntKind.i64.wrap ((List.getD g.2.2 (l.getD i.toNat (0 : Int)).toNat ((0 : Int), [])).1 - (100 : Int)) ∧ IntKind.i64.wrap ((List.getD g.2.2 (l.getD i.toNat (0 : Int)).toNat ((0 : Int), [])).1 - (100 : Int)) < (↑(List.length t.1) : Int)
noncomputable def nwL2.T (g : List ByteArray × List ByteArray × List (Int × List Int)) (ks : List Int) (t : List Int × Int) (more : Bool) (l : List Int) (n : Int) (i : Int) : Prop := ((((True ∧ decide (i < n) = true) ∧ (0 : Int) ≤ i ∧ i < (↑l.length : Int)) ∧ (0 : Int) ≤ l.getD i.toNat (0 : Int) ∧ l.getD i.toNat (0 : Int) < (↑(List.length g.2.2) : Int)) ∧ ¬(nwL2.q5 g t l i) → False) ∧ ((nwL2.q14 g t l n i) ∧ ¬(okTab t ∧ okR (List.getD g.2.2 (l.getD i.toNat (0 : Int)).toNat ((0 : Int), [])).2) → False) ∧ (((nwL2.q14 g t l n i) ∧ okTab t ∧ okR (List.getD g.2.2 (l.getD i.toNat (0 : Int)).toNat ((0 : Int), [])).2) ∧ ¬(okU (List.getD t.1 (IntKind.i64.wrap ((List.getD g.2.2 (l.getD i.toNat (0 : Int)).toNat ((0 : Int), [])).1 - (100 : Int))).toNat (0 : Int)) ∧ okU (nwL2.q9 g t l i)) → False) ∧ ((nwL2.q12 g t more l n i) ∧ (IntKind.i64.wrap ((List.getD g.2.2 (l.getD i.toNat (0 : Int)).toNat ((0 : Int), [])).1 - (100 : Int))).toNat < List.length t.1 → (nwL2.q3 g t l n i) ∧ nwL2.mu (g, ks, (List.set t.1 (IntKind.i64.wrap ((List.getD g.2.2 (l.getD i.toNat (0 : Int)).toNat ((0 : Int), [])).1 - (100 : Int))).toNat (jI (List.getD t.1 (IntKind.i64.wrap ((List.getD g.2.2 (l.getD i.toNat (0 : Int)).toNat ((0 : Int), [])).1 - (100 : Int))).toNat (0 : Int)) (nwL2.q9 g t l i)), t.2), true, l, n, IntKind.i64.wrap (i + (1 : Int))) < nwL2.mu (g, ks, t, more, l, n, i) ∧ (nwL2.q6 g ks t more l i) ∧ True) ∧ ((nwL2.q12 g t more l n i) ∧ ¬(IntKind.i64.wrap ((List.getD g.2.2 (l.getD i.toNat (0 : Int)).toNat ((0 : Int), [])).1 - (100 : Int))).toNat < List.length t.1 → False) ∧ (((nwL2.q1 g t l n i) ∧ more = true) ∧ ¬(nwL2.q5 g t l i) → False) ∧ ((nwL2.q10 g t more l n i) ∧ (IntKind.i64.wrap ((List.getD g.2.2 (l.getD i.toNat (0 : Int)).toNat ((0 : Int), [])).1 - (100 : Int))).toNat < List.length t.1 → (nwL2.q3 g t l n i) ∧ nwL2.mu (g, ks, (List.set t.1 (IntKind.i64.wrap ((List.getD g.2.2 (l.getD i.toNat (0 : Int)).toNat ((0 : Int), [])).1 - (100 : Int))).toNat (jI (List.getD t.1 (IntKind.i64.wrap ((List.getD g.2.2 (l.getD i.toNat (0 : Int)).toNat ((0 : Int), [])).1 - (100 : Int))).toNat (0 : Int)) (nwL2.q9 g t l i)), t.2), jI (List.getD t.1 (IntKind.i64.wrap ((List.getD g.2.2 (l.getD i.toNat (0 : Int)).toNat ((0 : Int), [])).1 - (100 : Int))).toNat (0 : Int)) (nwL2.q9 g t l i) != List.getD t.1 (IntKind.i64.wrap ((List.getD g.2.2 (l.getD i.toNat (0 : Int)).toNat ((0 : Int), [])).1 - (100 : Int))).toNat (0 : Int), l, n, IntKind.i64.wrap (i + (1 : Int))) < nwL2.mu (g, ks, t, more, l, n, i) ∧ (nwL2.q4 g ks t more l i) ∧ True) ∧ ((nwL2.q10 g t more l n i) ∧ ¬(IntKind.i64.wrap ((List.getD g.2.2 (l.getD i.toNat (0 : Int)).toNat ((0 : Int), [])).1 - (100 : Int))).toNat < List.length t.1 → False) ∧ (((nwL2.q7 g t more l n i) ∧ (IntKind.i64.wrap ((List.getD g.2.2 (l.getD i.toNat (0 : Int)).toNat ((0 : Int), [])).1 - (100 : Int))).toNat < List.length t.1) ∧ ¬(nwL2.q5 g t l i) → False) ∧ ((nwL2.q7 g t more l n i) ∧ ¬(IntKind.i64.wrap ((List.getD g.2.2 (l.getD i.toNat (0 : Int)).toNat ((0 : Int), [])).1 - (100 : Int))).toNat < List.length t.1 → False) ∧ (((nwL2.q1 g t l n i) ∧ more = false) ∧ ¬(nwL2.q5 g t l i) → False) ∧ ((nwL2.q0 g t l n i) ∧ ¬(IntKind.i64.wrap ((List.getD g.2.2 (l.getD i.toNat (0 : Int)).toNat ((0 : Int), [])).1 - (100 : Int))).toNat < List.length t.1 → False) ∧ ((nwL2.q0 g t l n i) ∧ ¬(okTab t ∧ okR (List.getD g.2.2 (l.getD i.toNat (0 : Int)).toNat ((0 : Int), [])).2) → False) ∧ ((nwL2.q16 g t l n i) ∧ ¬(okU (List.getD t.1 (IntKind.i64.wrap ((List.getD g.2.2 (l.getD i.toNat (0 : Int)).toNat ((0 : Int), [])).1 - (100 : Int))).toNat (0 : Int)) ∧ okU (nwL2.q9 g t l i)) → False) ∧ ((nwL2.q13 g t more l n i) ∧ (IntKind.i64.wrap ((List.getD g.2.2 (l.getD i.toNat (0 : Int)).toNat ((0 : Int), [])).1 - (100 : Int))).toNat < List.length t.1 → (nwL2.q3 g t l n i) ∧ nwL2.mu (g, ks, (List.set t.1 (IntKind.i64.wrap ((List.getD g.2.2 (l.getD i.toNat (0 : Int)).toNat ((0 : Int), [])).1 - (100 : Int))).toNat (jI (List.getD t.1 (IntKind.i64.wrap ((List.getD g.2.2 (l.getD i.toNat (0 : Int)).toNat ((0 : Int), [])).1 - (100 : Int))).toNat (0 : Int)) (nwL2.q9 g t l i)), t.2), true, l, n, IntKind.i64.wrap (i + (1 : Int))) < nwL2.mu (g, ks, t, more, l, n, i) ∧ (nwL2.q6 g ks t more l i) ∧ True) ∧ ((nwL2.q13 g t more l n i) ∧ ¬(IntKind.i64.wrap ((List.getD g.2.2 (l.getD i.toNat (0 : Int)).toNat ((0 : Int), [])).1 - (100 : Int))).toNat < List.length t.1 → False) ∧ (((nwL2.q2 g t l n i) ∧ more = true) ∧ ¬(nwL2.q5 g t l i) → False) ∧ ((nwL2.q11 g t more l n i) ∧ (IntKind.i64.wrap ((List.getD g.2.2 (l.getD i.toNat (0 : Int)).toNat ((0 : Int), [])).1 - (100 : Int))).toNat < List.length t.1 → (nwL2.q3 g t l n i) ∧ nwL2.mu (g, ks, (List.set t.1 (IntKind.i64.wrap ((List.getD g.2.2 (l.getD i.toNat (0 : Int)).toNat ((0 : Int), [])).1 - (100 : Int))).toNat (jI (List.getD t.1 (IntKind.i64.wrap ((List.getD g.2.2 (l.getD i.toNat (0 : Int)).toNat ((0 : Int), [])).1 - (100 : Int))).toNat (0 : Int)) (nwL2.q9 g t l i)), t.2), jI (List.getD t.1 (IntKind.i64.wrap ((List.getD g.2.2 (l.getD i.toNat (0 : Int)).toNat ((0 : Int), [])).1 - (100 : Int))).toNat (0 : Int)) (nwL2.q9 g t l i) != List.getD t.1 (IntKind.i64.wrap ((List.getD g.2.2 (l.getD i.toNat (0 : Int)).toNat ((0 : Int), [])).1 - (100 : Int))).toNat (0 : Int), l, n, IntKind.i64.wrap (i + (1 : Int))) < nwL2.mu (g, ks, t, more, l, n, i) ∧ (nwL2.q4 g ks t more l i) ∧ True) ∧ ((nwL2.q11 g t more l n i) ∧ ¬(IntKind.i64.wrap ((List.getD g.2.2 (l.getD i.toNat (0 : Int)).toNat ((0 : Int), [])).1 - (100 : Int))).toNat < List.length t.1 → False) ∧ (((nwL2.q8 g t more l n i) ∧ (IntKind.i64.wrap ((List.getD g.2.2 (l.getD i.toNat (0 : Int)).toNat ((0 : Int), [])).1 - (100 : Int))).toNat < List.length t.1) ∧ ¬(nwL2.q5 g t l i) → False) ∧ ((nwL2.q8 g t more l n i) ∧ ¬(IntKind.i64.wrap ((List.getD g.2.2 (l.getD i.toNat (0 : Int)).toNat ((0 : Int), [])).1 - (100 : Int))).toNat < List.length t.1 → False) ∧ (((nwL2.q2 g t l n i) ∧ more = false) ∧ ¬(nwL2.q5 g t l i) → False) ∧ (((nwL2.q0 g t l n i) ∧ okTab t ∧ okR (List.getD g.2.2 (l.getD i.toNat (0 : Int)).toNat ((0 : Int), [])).2) ∧ ¬(IntKind.i64.wrap ((List.getD g.2.2 (l.getD i.toNat (0 : Int)).toNat ((0 : Int), [])).1 - (100 : Int))).toNat < List.length t.1 → False) ∧ (((True ∧ decide (i < n) = true) ∧ (0 : Int) ≤ i ∧ i < (↑l.length : Int)) ∧ ¬((0 : Int) ≤ l.getD i.toNat (0 : Int) ∧ l.getD i.toNat (0 : Int) < (↑(List.length g.2.2) : Int)) → False) ∧ ((True ∧ decide (i < n) = true) ∧ ¬((0 : Int) ≤ i ∧ i < (↑l.length : Int)) → False) ∧ (True ∧ decide (i < n) = false → True ∧ (g, ks, t, more) = (g, ks, (newR g t.2 (List.drop i.toNat l) t.1, t.2), more || newC g t.2 (List.drop i.toNat l) t.1)) ∧ (True)
theorem nwL2.eq  (g : List ByteArray × List ByteArray × List (Int × List Int)) (ks : List Int) (t : List Int × Int) (more : Bool) (l : List Int) (n : Int) (i : Int) : nwL2.g  g ks t more l n i = nwL2.T  g ks t more l n i := by kernel_rfl
theorem nwL2.ok  (g : List ByteArray × List ByteArray × List (Int × List Int)) (ks : List Int) (t : List Int × Int) (more : Bool) (l : List Int) (n : Int) (i : Int) (hx : n = l.length ∧ 0 ≤ i ∧ i ≤ n ∧ l.length ≤ 99 ∧ okTab t ∧ okPl g t.1.length l) : nwL2.T  g ks t more l n i := by
  obtain ⟨rfl, h0, h1, h2, h3, h4⟩ := hx
  delta nwL2.T nwL2.q0 nwL2.q9 nwL2.q14 nwL2.q1 nwL2.q16 nwL2.q2 nwL2.q3 nwL2.q15 nwL2.q4 nwL2.q5 nwL2.q6 nwL2.q7 nwL2.q8 nwL2.q10 nwL2.q11 nwL2.q12 nwL2.q13
  by_cases hi : i < (l.length : Int)
  · obtain ⟨a1, a2, a3, a4, a5⟩ := h4 _ (getD_mem (x := 0) (show i.toNat < l.length by omega))
    have hlen : t.1.length ≤ 99 := h3.2.1
    have hat : newAt g (l.getD i.toNat 0) < t.1.length := by unfold newAt; omega
    have hv := okU_newV (g := g) (tm := t.2) (l := t.1) h3 hat
    have hset := okTab_set (l := t.1) (tm := t.2) h3 hv (newAt g (l.getD i.toNat 0))
    have ho := okU_ofS h3 (g.2.2.getD (l.getD i.toNat 0).toNat (0, [])).2
    have hu := h3.1 _ (getD_mem (x := 0) hat)
    rw [drop_int 0 h0 hi, newR, newC]
    rw [wrapI64 (x := i + 1) (by omega) (by omega)]
    generalize l.getD i.toNat 0 = a at *
    rw [wrapI64 (x := (g.2.2.getD a.toNat (0, [])).1 - 100) (by omega) (by omega)]
    have e1 : ((g.2.2.getD a.toNat (0, [])).1 - 100).toNat = newAt g a := rfl
    have e2 : jI (t.1.getD (newAt g a) 0) (ofS t (g.2.2.getD a.toNat (0, [])).2) = newV g t.2 t.1 a := rfl
    simp only [e1, e2]
    have e3 : 0 ≤ (g.2.2.getD a.toNat (0, [])).1 - 100 ∧ (g.2.2.getD a.toNat (0, [])).1 - 100 < (t.1.length : Int) := ⟨by omega, by omega⟩
    have h4' : okPl g (t.1.set (newAt g a) (newV g t.2 t.1 a)).length l := by rw [List.length_set]; exact h4
    have hne : (newV g t.2 t.1 a != t.1.getD (newAt g a) 0) = decide (newV g t.2 t.1 a ≠ t.1.getD (newAt g a) 0) := by
      rw [Bool.eq_iff_iff, bne_iff_ne, decide_eq_true_eq]
    rw [hne]
    generalize newC g t.2 (l.drop (i + 1).toNat) (t.1.set (newAt g a) (newV g t.2 t.1 a)) = cc at *
    generalize decide (newV g t.2 t.1 a ≠ t.1.getD (newAt g a) 0) = dd at *
    ((repeat' (first | exact trivial | apply And.intro)) <;> (intro hw; (try (simp only [zP, reduceCtorEq] at hw)); (try first | (exfalso; omega) | exact ⟨trivial, rfl⟩ | exact (hw hx).elim | exact (hw.2 hx).elim)))
    all_goals first
      | (exfalso; omega)
      | exact (hw.2 ⟨h3, a5⟩).elim
      | exact (hw.2 ⟨hu, ho⟩).elim
      | (refine ⟨⟨by first | rfl | trivial, by omega, by omega, h2, hset, h4'⟩, by simp only [nwL2.mu]; omega, fun _ => ⟨trivial, ?_⟩, trivial⟩; cases more <;> cases dd <;> simp_all; done)
      | trace_state
  · rw [drop_int_end hi, newR, newC, Bool.or_false]
    ((repeat' (first | exact trivial | apply And.intro)) <;> (intro hw; (try (simp only [zP, reduceCtorEq] at hw)); (try first | (exfalso; omega) | exact ⟨trivial, rfl⟩ | exact (hw hx).elim | exact (hw.2 hx).elim)))
    all_goals first
      | (exfalso; omega)
      | exact ⟨trivial, rfl⟩
      | trace_state
theorem nwL2.lp   : LpAt Tryd.prog 36 2 nwL2 := lp_evalH (l := []) (lf := 1000) (cfB_ok (fun _ => cfOf_ok (fns_cons setJoin.fn (fns_nil _))) (fns_cons ofF.fn (fns_nil _))) (lps_nil _ _) (by kernel_rfl) _ (nwL2.mu ) (fun ⟨g, ks, t, more, l, n, i⟩ hx => Hid.of (nwL2.eq  g ks t more l n i) (nwL2.ok  g ks t more l n i hx))
def newM (g : Gr) (tm : Int) (ks : List Int) (more : Bool) (l : List Int) : List Int := if more = true then newF g tm ks l else l
noncomputable def nwL0  : LFace := ⟨[1, 4, 6, 7], [.p GR, .v (.sl (.int .i64)), .box 95 [.row (.int .u64) 31, .v (.int .i64)], .v .bool], fun (g, ks, t, more) => some (ks.length ≤ 99 ∧ okTab t ∧ okPl g t.1.length ks),
  [⟨.normal, [6], [.box 95 [.row (.int .u64) 31, .v (.int .i64)]], fun (g, ks, t, more) => (newM g t.2 ks more t.1, t.2), fun (g, ks, t, more) => none⟩]⟩
noncomputable def nwL0.mu  : dens nwL0.sh → Nat := fun (g, ks, t, more) => if more = true then sumM t.1 + 1 else 0
noncomputable def nwL0.g  (g : List ByteArray × List ByteArray × List (Int × List Int)) (ks : List Int) (t : List Int × Int) (more : Bool) : Prop := GoodLA Tryd.prog (cfOf []) [(2, nwL2)] 1000 36 0 nwL0 nwL0.mu (g, ks, t, more)
noncomputable def nwL0.T (g : List ByteArray × List ByteArray × List (Int × List Int)) (ks : List Int) (t : List Int × Int) (more : Bool) : Prop := (((True ∧ more = true) ∧ ks.length ≤ (9223372036854775807 : Nat)) ∧ ¬((↑ks.length : Int) = (↑ks.length : Int) ∧ (0 : Int) ≤ (0 : Int) ∧ (0 : Int) ≤ (↑ks.length : Int) ∧ ks.length ≤ (99 : Nat) ∧ okTab t ∧ okPl g (List.length t.1) ks) → False) ∧ (((True ∧ more = true) ∧ ks.length ≤ (9223372036854775807 : Nat)) ∧ (↑ks.length : Int) = (↑ks.length : Int) ∧ (0 : Int) ≤ (0 : Int) ∧ (0 : Int) ≤ (↑ks.length : Int) ∧ ks.length ≤ (99 : Nat) ∧ okTab t ∧ okPl g (List.length t.1) ks →
  (ks.length ≤ (99 : Nat) ∧ okTab (newR g t.2 (List.drop (Int.toNat (0 : Int)) ks) t.1, t.2) ∧ okPl g (newR g t.2 (List.drop (Int.toNat (0 : Int)) ks) t.1).length ks) ∧ nwL0.mu (g, ks, (newR g t.2 (List.drop (Int.toNat (0 : Int)) ks) t.1, t.2), false || newC g t.2 (List.drop (Int.toNat (0 : Int)) ks) t.1) < nwL0.mu (g, ks, t, more) ∧ (True → True ∧ (newM g t.2 ks (false || newC g t.2 (List.drop (Int.toNat (0 : Int)) ks) t.1) (newR g t.2 (List.drop (Int.toNat (0 : Int)) ks) t.1), t.2) = (newM g t.2 ks more t.1, t.2)) ∧ True) ∧ (True ∧ more = false → True ∧ t = (newM g t.2 ks more t.1, t.2)) ∧ (True)
theorem nwL0.eq  (g : List ByteArray × List ByteArray × List (Int × List Int)) (ks : List Int) (t : List Int × Int) (more : Bool) : nwL0.g  g ks t more = nwL0.T  g ks t more := by kernel_rfl
theorem nwL0.ok  (g : List ByteArray × List ByteArray × List (Int × List Int)) (ks : List Int) (t : List Int × Int) (more : Bool) (hx : ks.length ≤ 99 ∧ okTab t ∧ okPl g t.1.length ks) : nwL0.T  g ks t more := by
  obtain ⟨h2, h3, h4⟩ := hx
  obtain ⟨q1, q2⟩ := newR_ok (g := g) (tm := t.2) ks t.1 h4 h3
  obtain ⟨q3, q4, q5⟩ := newR_le (g := g) (tm := t.2) ks t.1 h4 h3
  have q6 := newF_eq (g := g) (tm := t.2) h4 h3
  have q7 : okPl g (newR g t.2 ks t.1).length ks := by rw [q2]; exact h4
  rw [nwL0.T]
  unfold newM
  simp only [show Int.toNat 0 = 0 from rfl, List.drop_zero, Bool.false_or]
  cases more with
  | false =>
    ((repeat' (first | exact trivial | apply And.intro)) <;> (intro hw; (try (simp only [zP, reduceCtorEq] at hw)); (try first | (exfalso; omega) | exact ⟨trivial, rfl⟩ | exact (hw hx).elim | exact (hw.2 hx).elim)))
    all_goals first
      | (exfalso; simp_all; done)
      | exact ⟨trivial, rfl⟩
      | trace_state
  | true =>
    ((repeat' (first | exact trivial | apply And.intro)) <;> (intro hw; (try (simp only [zP, reduceCtorEq] at hw)); (try first | (exfalso; omega) | exact ⟨trivial, rfl⟩ | exact (hw hx).elim | exact (hw.2 hx).elim)))
    all_goals first
      | (exfalso; omega)
      | exact (hw.2 ⟨by omega, by omega, by omega, h3, h4⟩).elim
      | (refine ⟨⟨h2, q1, q7⟩, ?_, fun _ => ⟨trivial, ?_⟩, trivial⟩
         · simp only [nwL0.mu, if_pos]
           split
           · rename_i h; have := q4 h; omega
           · omega
         · rw [if_pos rfl, q6]
           split
           · rfl
           · rename_i h; rw [q5 (by simpa using h)])
      | trace_state
theorem nwL0.lp   : LpAt Tryd.prog 36 0 nwL0 := lp_evalH (l := [(2, nwL2)]) (lf := 1000) (fun _ => cfOf_ok (fns_nil _)) (lps_cons (nwL2.lp) (lps_nil _ _)) (by kernel_rfl) _ (nwL0.mu ) (fun ⟨g, ks, t, more⟩ hx => Hid.of (nwL0.eq  g ks t more) (nwL0.ok  g ks t more hx))
def newS (g : Gr) : Tab := (newF g (g.1.length : Int) (trimS g).1 (List.replicate g.2.1.length 0), (g.1.length : Int))
theorem okTab_0 {g : Gr} (h1 : g.1.length ≤ 99) (h2 : g.2.1.length ≤ 99) : okTab (List.replicate g.2.1.length 0, (g.1.length : Int)) := ⟨fun s hs => by rw [(List.mem_replicate.1 hs).2]; exact okU_0, by show (List.replicate _ _).length ≤ 99; rw [List.length_replicate]; exact h2, by show (0 : Int) ≤ _; omega, by show ((g.1.length : Int)) ≤ 99; omega⟩
theorem trimL_len (s : Int) : ∀ (l : List (Int × List Int)) (k : Int), (trimL s k l).length ≤ l.length
  | [], _ => Nat.le_refl _
  | p :: r, k => by
    have ih := trimL_len s r (k + 1)
    rw [trimL]; split
    · rw [List.length_cons, List.length_cons]; omega
    · rw [List.length_cons]; omega
theorem trim_pl {g : Gr} (hc : checkB g = true) (ho : okG g) : okPl g g.2.1.length (trimS g).1 ∧ (trimS g).1.length ≤ 99 := by
  have hk := chk_of hc
  have key : ∀ k ∈ trimL (growS true g) 0 g.2.2, 0 ≤ k ∧ k < g.2.2.length := fun k hm => by
    rw [trimL_mem] at hm; exact ⟨hm.1, by omega⟩
  have hlen : (trimL (growS true g) 0 g.2.2).length ≤ g.2.2.length := trimL_len _ _ _
  have hp2 := hk.p2
  rw [trimS, if_pos hc]
  split
  · refine ⟨fun k hm => ?_, Nat.le_trans hlen (by omega)⟩
    obtain ⟨h1, h2⟩ := key k hm
    have hm2 := getD_mem (x := ((0 : Int), ([] : List Int))) (show k.toNat < g.2.2.length by omega)
    have h3 := nonS_iff.1 (hk.ps _ hm2).1
    exact ⟨h1, h2, h3.1, by omega, (ho.2.2.2 _ hm2).2⟩
  · exact ⟨fun k hm => by simp at hm, Nat.zero_le _⟩
theorem trim_chk {g : Gr} (h : (trimS g).2 = 0) : checkB g = true := by
  cases hc : checkB g with
  | true => rfl
  | false => rw [trimS, hc, if_neg Bool.false_ne_true] at h; exact absurd h (by decide)
noncomputable def newFc  : Face := ⟨36, [.v GR], fun g => some (okG g),
  [⟨false, [.np, .v (.int .i64)], fun g => ((), (trimS g).2), fun g => some (¬ (trimS g).2 = 0)⟩,
   ⟨false, [.box 95 [.row (.int .u64) 31, .v (.int .i64)], .v (.int .i64)], fun g => (newS g, 0), fun g => some ((trimS g).2 = 0)⟩]⟩
noncomputable def newFc.g  (g : List ByteArray × List ByteArray × List (Int × List Int)) : Prop := GoodFA Tryd.prog (cfOf [trimF]) [(0, nwL0)] 1000 newFc g
noncomputable def newFc.q1 (g : List ByteArray × List ByteArray × List (Int × List Int)) : Prop := (((True ∧ okG g) ∧ ((trimS g).2 != (0 : Int)) = false) ∧ List.length g.2.1 ≤ (9223372036854775807 : Nat)) ∧ List.length g.1 ≤ (9223372036854775807 : Nat)
noncomputable def newFc.q0 (g : List ByteArray × List ByteArray × List (Int × List Int)) : Prop := (newFc.q1 g) ∧ (0 : Int) ≤ (↑(List.length g.2.1) : Int) ∧ (↑(List.length g.2.1) : Int) ≤ (↑(List.length g.2.1) : Int) ∧ (↑(List.length g.2.1) : Int) * (↑(8 : Nat) : Int) ≤ (140737488355328 : Int)
noncomputable def newFc.T (g : List ByteArray × List ByteArray × List (Int × List Int)) : Prop := (True ∧ ¬okG g → False) ∧ ((True ∧ okG g) ∧ ((trimS g).2 != (0 : Int)) = true → ¬(trimS g).2 = (0 : Int) ∧ ((), (trimS g).2) = ((), (trimS g).2) ∨ False) ∧ ((newFc.q0 g) ∧ ¬(List.length (trimS g).1 ≤ (99 : Nat) ∧ okTab (List.replicate (↑(List.length g.2.1) : Int).toNat (0 : Int), (↑(List.length g.1) : Int)) ∧ okPl g (List.replicate (↑(List.length g.2.1) : Int).toNat (0 : Int)).length (trimS g).1) → False) ∧ ((newFc.q0 g) ∧ List.length (trimS g).1 ≤ (99 : Nat) ∧ okTab (List.replicate (↑(List.length g.2.1) : Int).toNat (0 : Int), (↑(List.length g.1) : Int)) ∧ okPl g (List.replicate (↑(List.length g.2.1) : Int).toNat (0 : Int)).length (trimS g).1 → False ∨ (trimS g).2 = (0 : Int) ∧ ((newM g (↑(List.length g.1) : Int) (trimS g).1 true (List.replicate (↑(List.length g.2.1) : Int).toNat (0 : Int)), (↑(List.length g.1) : Int)), (0 : Int)) = (newS g, (0 : Int))) ∧ ((newFc.q1 g) ∧ ¬((0 : Int) ≤ (↑(List.length g.2.1) : Int) ∧ (↑(List.length g.2.1) : Int) ≤ (↑(List.length g.2.1) : Int) ∧ (↑(List.length g.2.1) : Int) * (↑(8 : Nat) : Int) ≤ (140737488355328 : Int)) → False) ∧ (True)
theorem newFc.eq  (g : List ByteArray × List ByteArray × List (Int × List Int)) : newFc.g  g = newFc.T  g := by kernel_rfl
theorem newFc.ok  (g : List ByteArray × List ByteArray × List (Int × List Int)) (hx : okG g) : newFc.T  g := by
  have hg := hx.1
  have hg1 := hg.1
  have hg2 := hg.2
  delta newFc.T newFc.q1 newFc.q0
  simp only [Int.toNat_natCast]
  by_cases h0 : (trimS g).2 = 0
  · have hc := trim_chk h0
    obtain ⟨p1, p2⟩ := trim_pl hc hx
    have ht := okTab_0 hg1 hg2
    have hpl : okPl g (List.replicate g.2.1.length (0 : Int)).length (trimS g).1 := by rw [List.length_replicate]; exact p1
    have hS : newM g (g.1.length : Int) (trimS g).1 true (List.replicate g.2.1.length 0) = (newS g).1 := by rw [newM, if_pos rfl]; rfl
    rw [hS, h0]
    ((repeat' (first | exact trivial | apply And.intro)) <;> (intro hw; (try (simp only [zP, reduceCtorEq] at hw)); (try first | (exfalso; omega) | exact ⟨trivial, rfl⟩ | exact (hw hx).elim | exact (hw.2 hx).elim)))
    all_goals first
      | (exfalso; omega)
      | exact (hw hx).elim
      | exact (hw.2 ⟨p2, ht, hpl⟩).elim
      | exact .inr ⟨trivial, rfl⟩
      | exact .inr ⟨rfl, rfl⟩
      | (exfalso; simp at hw; done)
      | trace_state
  · ((repeat' (first | exact trivial | apply And.intro)) <;> (intro hw; (try (simp only [zP, reduceCtorEq] at hw)); (try first | (exfalso; omega) | exact ⟨trivial, rfl⟩ | exact (hw hx).elim | exact (hw.2 hx).elim)))
    all_goals first
      | (exfalso; omega)
      | exact (hw hx).elim
      | exact .inl ⟨h0, trivial⟩
      | exact .inl ⟨h0, rfl⟩
      | (exfalso; simp_all; done)
      | trace_state
theorem newFc.fn   : FnOk Tryd.prog newFc := fn_evalH (l := [(0, nwL0)]) (lf := 1000) (fun _ => cfOf_ok (fns_cons trimF.fn (fns_nil _))) _ (lps_cons (nwL0.lp) (lps_nil _ _)) (by kernel_rfl) (fun g hx => Hid.of (newFc.eq  g) (newFc.ok  g hx))
end Go.Proofs.YtajnboigikdefaaDoor.D

namespace Go.Proofs.YtajnboigikdefaaDoor.D
open Go Go.EV Go.Proofs
set_option linter.unusedVariables false
set_option linter.unusedSimpArgs false
set_option maxRecDepth 100000
def memD (s : ByteArray) (l : List ByteArray) : Bool := l.any fun a => decide (s.data.toList = a.data.toList)
theorem memB_D (s : ByteArray) : ∀ l : List ByteArray, memB s l = memD s l
  | [] => rfl
  | a :: r => by
    rw [memB_cons, memB_D s r, memD, memD, List.any_cons]
    congr 1
    rw [toList_data, toList_data, Bool.eq_iff_iff, beq_iff_eq, decide_eq_true_eq]
def namesD (nt : Int) (all : List ByteArray) : Int → List ByteArray → Bool
  | _, [] => true
  | i, s :: r => nameL (bI s) && ((grB1 s == decide (nt ≤ i)) && (!(memD s (all.take i.toNat)) && namesD nt all (i + 1) r))
theorem namesL_D (nt : Int) (all : List ByteArray) : ∀ (l : List ByteArray) (i : Int), namesL nt all i l = namesD nt all i l
  | [], _ => rfl
  | s :: r, i => by rw [namesL, namesD, memB_D, namesL_D nt all r]
def tms (t : Nat) : List ByteArray := [bA, bB, bC].take t
def nns (n : Nat) : List ByteArray := [bS, bUA, bUB].take n
theorem names_any : ∀ t < 4, ∀ n < 4, namesD ((tms t).length : Int) (tms t ++ nns n) 0 (tms t ++ nns n) = true := by decide
theorem len_any : ∀ t < 4, (tms t).length = t ∧ (nns t).length = t := by decide
theorem size_any : ∀ t < 4, (∀ s ∈ tms t, s.size ≤ 4000000) ∧ (∀ s ∈ nns t, s.size ≤ 4000000) := by
  intro t ht
  refine ⟨fun s hs => ?_, fun s hs => ?_⟩
  · have := List.mem_of_mem_take hs
    simp only [List.mem_cons, List.not_mem_nil, or_false] at this
    rcases this with rfl | rfl | rfl <;> decide
  · have := List.mem_of_mem_take hs
    simp only [List.mem_cons, List.not_mem_nil, or_false] at this
    rcases this with rfl | rfl | rfl <;> decide
theorem alkS_iff {p q : Int × List Int} : alkS p q = true ↔ q = p := by
  unfold alkS
  rw [Bool.and_eq_true, decide_eq_true_eq, sameS_iff]
  exact ⟨fun h => Prod.ext h.1 h.2, fun h => by rw [h]; exact ⟨rfl, rfl⟩⟩
theorem prodL_iff (g : Gr) : ∀ (l pre : List (Int × List Int)), prodL g (pre ++ l) (pre.length : Int) l = true ↔ (∀ p ∈ l, nonS g p.1 = true ∧ p.2.length ≤ 6 ∧ ∀ s ∈ p.2, termS g s = true ∨ nonS g s = true) ∧ l.Nodup ∧ ∀ p ∈ l, p ∉ pre
  | [], pre => by simp [prodL]
  | q :: r, pre => by
    have ih := prodL_iff g r (pre ++ [q])
    rw [List.append_assoc, List.singleton_append, List.length_append, List.length_singleton] at ih
    rw [prodL, show ((pre.length : Int) + 1) = ((pre.length + 1 : Nat) : Int) by omega, Int.toNat_natCast, List.take_left]
    simp only [Bool.and_eq_true, decide_eq_true_eq, Bool.not_eq_true', ih]
    have h1 : (q.2.any (strange g) = false) ↔ ∀ s ∈ q.2, termS g s = true ∨ nonS g s = true := by
      rw [List.any_eq_false]
      constructor
      · intro h s hs
        have := h s hs
        unfold strange at this
        cases ht : termS g s with
        | true => exact .inl rfl
        | false => cases hn : nonS g s with
          | true => exact .inr rfl
          | false => rw [ht, hn] at this; exact absurd rfl this
      · intro h s hs hb
        unfold strange at hb
        rcases h s hs with e | e <;> rw [e] at hb <;> simp at hb
    have h2 : (pre.any (alkS q) = false) ↔ q ∉ pre := by
      rw [List.any_eq_false]
      constructor
      · intro h hm; exact h q hm (alkS_iff.2 rfl)
      · intro h x hx hb; rw [alkS_iff] at hb; exact h (hb ▸ hx)
    rw [h1, h2, List.nodup_cons]
    constructor
    · rintro ⟨a1, a2, a3, a4, b1, b2, b3⟩
      refine ⟨fun p hp => ?_, ⟨fun hm => ?_, b2⟩, fun p hp => ?_⟩
      · rcases List.mem_cons.1 hp with e | hp
        · rw [e]; exact ⟨a1, a2, a3⟩
        · exact b1 p hp
      · exact b3 q hm (List.mem_append_right _ (List.mem_singleton_self _))
      · rcases List.mem_cons.1 hp with e | hp
        · rw [e]; exact a4
        · exact fun hm => b3 p hp (List.mem_append_left _ hm)
    · rintro ⟨c1, ⟨c2, c3⟩, c4⟩
      have d := c1 q (List.mem_cons_self ..)
      refine ⟨d.1, d.2.1, d.2.2, c4 q (List.mem_cons_self ..), fun p hp => c1 p (List.mem_cons_of_mem _ hp), c3, fun p hp hm => ?_⟩
      rcases List.mem_append.1 hm with hm | hm
      · exact c4 p (List.mem_cons_of_mem _ hp) hm
      · rw [List.mem_singleton] at hm; subst hm; exact c2 hp
theorem prodsS_iff (g : Gr) : prodsS g = true ↔ (∀ p ∈ g.2.2, nonS g p.1 = true ∧ p.2.length ≤ 6 ∧ ∀ s ∈ p.2, termS g s = true ∨ nonS g s = true) ∧ g.2.2.Nodup := by
  have := prodL_iff g g.2.2 []
  rw [List.nil_append] at this
  rw [prodsS, show (0 : Int) = (([] : List (Int × List Int)).length : Int) from rfl, this]
  constructor
  · rintro ⟨h1, h2, _⟩; exact ⟨h1, h2⟩
  · rintro ⟨h1, h2⟩; exact ⟨h1, h2, fun p _ hm => by simp at hm⟩
theorem leftsL_iff (ps : List (Int × List Int)) : ∀ (k : Nat) (i : Int), leftsL ps k i = true ↔ ∀ j : Nat, j < k → ∃ p ∈ ps, p.1 = 100 + (i + j)
  | 0, i => by simp [leftsL]
  | k + 1, i => by
    rw [leftsL, Bool.and_eq_true, leftsL_iff ps k (i + 1), List.any_eq_true]
    constructor
    · rintro ⟨⟨p, hp, h1⟩, h2⟩ j hj
      cases j with
      | zero => exact ⟨p, hp, by unfold leftIs at h1; rw [decide_eq_true_eq] at h1; rw [h1]; omega⟩
      | succ j => obtain ⟨q, hq, e⟩ := h2 j (by omega); exact ⟨q, hq, by rw [e]; omega⟩
    · intro h
      refine ⟨?_, fun j hj => ?_⟩
      · obtain ⟨p, hp, e⟩ := h 0 (by omega)
        exact ⟨p, hp, by unfold leftIs; rw [decide_eq_true_eq, e]; omega⟩
      · obtain ⟨p, hp, e⟩ := h (j + 1) (by omega)
        exact ⟨p, hp, by rw [e]; omega⟩
theorem hasS_iff (left : Int) (r : List Int) : ∀ l : List (Int × List Int), hasS left r l = true ↔ (left, r) ∈ l
  | [] => by simp [hasS]
  | q :: l => by
    rw [hasS, Bool.or_eq_true, Bool.and_eq_true, decide_eq_true_eq, sameS_iff, hasS_iff left r l, List.mem_cons]
    constructor
    · rintro (⟨h1, h2⟩ | h)
      · exact .inl (Prod.ext h1.symm h2.symm)
      · exact .inr h
    · rintro (h | h)
      · exact .inl (by rw [← h]; exact ⟨rfl, rfl⟩)
      · exact .inr h
structure Dr (t n m : Nat) (g : Gr) : Prop where
  tm : g.1 = tms t
  nn : g.2.1 = nns n
  ps : ∀ p ∈ g.2.2, nonS g p.1 = true ∧ p.2.length ≤ 3 ∧ ∀ s ∈ p.2, termS g s = true ∨ nonS g s = true
  nd : g.2.2.Nodup
  le : g.2.2.length ≤ m
theorem symS_ok {g : Gr} {t n : Nat} (h1 : g.1.length = t) (h2 : g.2.1.length = n) (ht : 1 ≤ t) (ht2 : t ≤ 9) (r : Int) : termS g (symS g.1.length g.2.1.length r) = true ∨ nonS g (symS g.1.length g.2.1.length r) = true := by
  have e1 := Int.emod_nonneg r (show (g.1.length : Int) + g.2.1.length ≠ 0 by omega)
  have e2 := Int.emod_lt_of_pos r (show 0 < (g.1.length : Int) + g.2.1.length by omega)
  rw [termS_iff, nonS_iff]
  unfold symS
  split <;> omega
theorem putS_dr {t n m : Nat} {g : Gr} (h : Dr t n m g) (ht : 1 ≤ t) (ht3 : t < 4) (hn3 : n < 4) {left : Int} (hl : 100 ≤ left) (hl2 : left < 100 + (n : Int)) (row : List Int) : Dr t n (m + 1) (putS g left row) ∧ (∀ p ∈ g.2.2, p ∈ (putS g left row).2.2) ∧ ∃ p ∈ (putS g left row).2.2, p.1 = left := by
  have l1 : g.1.length = t := by rw [h.tm]; exact (len_any t ht3).1
  have l2 : g.2.1.length = n := by rw [h.nn]; exact (len_any n hn3).2
  unfold putS
  split
  · rename_i hc
    exact ⟨⟨h.tm, h.nn, h.ps, h.nd, Nat.le_succ_of_le h.le⟩, fun p hp => hp, _, (hasS_iff _ _ _).1 hc, rfl⟩
  · rename_i hc
    rw [hasS_iff] at hc
    refine ⟨⟨h.tm, h.nn, fun p hp => ?_, ?_, by rw [List.length_append, List.length_singleton]; have := h.le; omega⟩, fun p hp => List.mem_append_left _ hp, _, List.mem_append_right _ (List.mem_singleton_self _), rfl⟩
    · rcases List.mem_append.1 hp with hp | hp
      · exact h.ps p hp
      · rw [List.mem_singleton.1 hp]
        refine ⟨nonS_iff.2 ⟨hl, by show left < 100 + (g.2.1.length : Int); rw [l2]; exact hl2⟩, by show (List.map _ _).length ≤ 3; rw [List.length_map]; exact List.length_take_le _ _, fun s hs => ?_⟩
        obtain ⟨r, _, e⟩ := List.mem_map.1 hs
        rw [← e]
        exact symS_ok l1 l2 ht (by omega) r
    · rw [List.nodup_append]
      refine ⟨h.nd, by simp, fun a ha b hb => ?_⟩
      rw [List.mem_singleton] at hb
      subst hb
      intro e; subst e; exact hc ha
theorem puts1_dr {t n : Nat} (ht : 1 ≤ t) (ht3 : t < 4) (hn3 : n < 4) : ∀ (k : Nat) (m : Nat) (i : Int) (g : Gr), 0 ≤ i → i + k ≤ n → Dr t n m g → Dr t n (m + k) (puts1 k i g) ∧ (∀ p ∈ g.2.2, p ∈ (puts1 k i g).2.2) ∧ ∀ j : Nat, j < k → ∃ p ∈ (puts1 k i g).2.2, p.1 = 100 + (i + j)
  | 0, m, i, g, _, _, h => ⟨h, fun p hp => hp, fun j hj => by omega⟩
  | k + 1, m, i, g, h0, h1, h => by
    obtain ⟨a1, a2, p, a3, a4⟩ := putS_dr h ht ht3 hn3 (left := 100 + i) (by omega) (by omega) [i]
    obtain ⟨b1, b2, b3⟩ := puts1_dr ht ht3 hn3 k (m + 1) (i + 1) (putS g (100 + i) [i]) (by omega) (by omega) a1
    rw [puts1]
    refine ⟨by rw [show m + (k + 1) = m + 1 + k by omega]; exact b1, fun p hp => b2 p (a2 p hp), fun j hj => ?_⟩
    cases j with
    | zero => exact ⟨p, b2 p a3, by rw [a4]; omega⟩
    | succ j => obtain ⟨q, hq, e⟩ := b3 j (by omega); exact ⟨q, hq, by rw [e]; omega⟩
theorem puts2_dr {t n : Nat} (ht : 1 ≤ t) (ht3 : t < 4) (hn : 1 ≤ n) (hn3 : n < 4) : ∀ (l : List (List Int)) (m : Nat) (i : Int) (g : Gr), Dr t n m g → Dr t n (m + l.length) (puts2 (n : Int) i g l) ∧ (∀ p ∈ g.2.2, p ∈ (puts2 (n : Int) i g l).2.2)
  | [], m, i, g, h => ⟨h, fun p hp => hp⟩
  | r :: l, m, i, g, h => by
    have e1 := Int.emod_nonneg (leftS i r) (show (n : Int) ≠ 0 by omega)
    have e2 := Int.emod_lt_of_pos (leftS i r) (show 0 < (n : Int) by omega)
    obtain ⟨a1, a2, _⟩ := putS_dr h ht ht3 hn3 (left := 100 + leftS i r % n) (by omega) (by omega) r
    obtain ⟨b1, b2⟩ := puts2_dr ht ht3 hn hn3 l (m + 1) (i + 1) _ a1
    rw [puts2, List.length_cons]
    exact ⟨by rw [show m + (l.length + 1) = m + 1 + l.length by omega]; exact b1, fun p hp => b2 p (a2 p hp)⟩
theorem anyS_dr (r : Raw) : ∃ t n : Nat, 1 ≤ t ∧ t < 4 ∧ 1 ≤ n ∧ n < 4 ∧ Dr t n 8 (anyS r) ∧ ∀ j : Nat, j < n → ∃ p ∈ (anyS r).2.2, p.1 = 100 + (0 + (j : Int)) := by
  have e1 := Int.emod_nonneg r.2.1 (show (3 : Int) ≠ 0 by omega)
  have e2 := Int.emod_lt_of_pos r.2.1 (show (0 : Int) < 3 by omega)
  have e3 := Int.emod_nonneg r.2.2.1 (show (3 : Int) ≠ 0 by omega)
  have e4 := Int.emod_lt_of_pos r.2.2.1 (show (0 : Int) < 3 by omega)
  refine ⟨(1 + r.2.1 % 3).toNat, (1 + r.2.2.1 % 3).toNat, by omega, by omega, by omega, by omega, ?_⟩
  have hn : 1 + r.2.2.1 % 3 = (((1 + r.2.2.1 % 3).toNat : Nat) : Int) := by omega
  have h0 : Dr (1 + r.2.1 % 3).toNat (1 + r.2.2.1 % 3).toNat 0 (tms (1 + r.2.1 % 3).toNat, nns (1 + r.2.2.1 % 3).toNat, []) := ⟨rfl, rfl, fun p hp => by simp at hp, by simp, Nat.le_refl _⟩
  obtain ⟨a1, a2, a3⟩ := puts1_dr (t := (1 + r.2.1 % 3).toNat) (n := (1 + r.2.2.1 % 3).toNat) (by omega) (by omega) (by omega) (1 + r.2.2.1 % 3).toNat 0 0 _ (Int.le_refl _) (by omega) h0
  obtain ⟨b1, b2⟩ := puts2_dr (t := (1 + r.2.1 % 3).toNat) (n := (1 + r.2.2.1 % 3).toNat) (by omega) (by omega) (by omega) (by omega) (r.2.2.2.2.1.take 5) _ 0 _ a1
  rw [← hn] at b1 b2
  have hl : (r.2.2.2.2.1.take 5).length ≤ 5 := List.length_take_le _ _
  refine ⟨⟨b1.tm, b1.nn, b1.ps, b1.nd, Nat.le_trans b1.le (by omega)⟩, fun j hj => ?_⟩
  obtain ⟨p, hp, e⟩ := a3 j hj
  exact ⟨p, b2 p hp, e⟩
theorem dr_chk {t n : Nat} {g : Gr} (ht : 1 ≤ t) (ht3 : t < 4) (hn : 1 ≤ n) (hn3 : n < 4) (h : Dr t n 24 g) (hl : ∀ j : Nat, j < n → ∃ p ∈ g.2.2, p.1 = 100 + (0 + (j : Int))) : checkB g = true ∧ okG g := by
  have l1 : g.1.length = t := by rw [h.tm]; exact (len_any t ht3).1
  have l2 : g.2.1.length = n := by rw [h.nn]; exact (len_any n hn3).2
  have hp : 1 ≤ g.2.2.length := by
    obtain ⟨p, hp, _⟩ := hl 0 (by omega)
    exact List.length_pos_iff.2 (List.ne_nil_of_mem hp)
  have hle := h.le
  refine ⟨?_, ⟨by omega, by omega⟩, by rw [h.tm]; exact (size_any t ht3).1, by rw [h.nn]; exact (size_any n hn3).2, fun p hp => ?_⟩
  · simp only [checkB, cntB, Bool.and_eq_true, decide_eq_true_eq]
    refine ⟨⟨by omega, by omega⟩, ⟨by omega, by omega⟩, ⟨by omega, by omega⟩, ?_, ?_, ?_⟩
    · rw [namesS, namesL_D, h.tm, h.nn]; exact names_any t ht3 n hn3
    · rw [prodsS_iff]
      exact ⟨fun p hp => ⟨(h.ps p hp).1, Nat.le_trans (h.ps p hp).2.1 (by decide), (h.ps p hp).2.2⟩, h.nd⟩
    · rw [leftsL_iff, l2]; exact hl
  · obtain ⟨h1, h2, h3⟩ := h.ps p hp
    rw [nonS_iff] at h1
    refine ⟨by omega, fun s hs => ?_⟩
    rcases h3 s hs with e | e
    · rw [termS_iff] at e; omega
    · rw [nonS_iff] at e; omega
theorem any_chk (r : Raw) : checkB (anyS r) = true ∧ okG (anyS r) := by
  obtain ⟨t, n, h1, h2, h3, h4, h5, h6⟩ := anyS_dr r
  exact dr_chk h1 h2 h3 h4 ⟨h5.tm, h5.nn, h5.ps, h5.nd, Nat.le_trans h5.le (by decide)⟩ h6
end Go.Proofs.YtajnboigikdefaaDoor.D
