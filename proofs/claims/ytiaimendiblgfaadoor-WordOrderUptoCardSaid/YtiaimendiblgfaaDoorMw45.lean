/- Texts that the proof of a law rests on, put together: part 45. -/
import Derived.Test.YtiaimendiblgfaaDoorMw44
import Derived.Test.YtiaimendiblgfaaDoorProg
namespace Go.Proofs.YtiaimendiblgfaaDoor.D
open Go Go.EV Go.Proofs
set_option linter.unusedVariables false
set_option linter.unusedSimpArgs false
set_option maxRecDepth 100000
noncomputable def wakes : Face := ⟨12, [], fun _ => none, [⟨false, [.v .bool], fun _ => true, fun _ => none⟩]⟩
theorem wakes.fn : FnOk Tryd.prog wakes := fn_at fun s _ => hok_at E.hWakes4_ok wakes () _ [⟨.bool, true⟩] (List.mem_singleton_self _) (by kernel_rfl) (by kernel_rfl) (by kernel_rfl) (by kernel_rfl) (by kernel_rfl) (by kernel_rfl) (by kernel_rfl) (by kernel_rfl) (outIs_of rfl rfl (dec_cons (by kernel_rfl) (dec_nil _))) (by kernel_rfl)
def cmpI (a b : Int) : Int := if a < b then -1 else if b < a then 1 else 0
theorem cmpI_0 (a b : Int) : cmpI a b = 0 ↔ a = b := by
  unfold cmpI
  split
  · omega
  · split <;> omega
theorem cmpI_neg (a b : Int) : cmpI b a = - cmpI a b := by
  unfold cmpI
  by_cases h1 : a < b
  · rw [if_pos h1, if_neg (by omega), if_pos h1]; rfl
  · by_cases h2 : b < a
    · rw [if_pos h2, if_neg h1, if_pos h2]
    · rw [if_neg h1, if_neg h2, if_neg h2, if_neg h1]; rfl
def lexS : List Int → List Int → Int
  | [], [] => 0
  | [], _ :: _ => -1
  | _ :: _, [] => 1
  | a :: r, b :: s => if cmpI a b = 0 then lexS r s else cmpI a b
theorem lexS_0 : ∀ a b : List Int, lexS a b = 0 ↔ a = b
  | [], [] => by simp [lexS]
  | [], _ :: _ => by simp [lexS]
  | _ :: _, [] => by simp [lexS]
  | a :: r, b :: s => by
    rw [lexS]
    split
    · rename_i h; rw [lexS_0 r s, (cmpI_0 a b).1 h]; simp
    · rename_i h
      constructor
      · intro e; exact absurd e h
      · intro e; rw [List.cons.injEq] at e; exact absurd ((cmpI_0 a b).2 e.1) h
theorem lexS_neg : ∀ a b : List Int, lexS b a = - lexS a b
  | [], [] => by simp [lexS]
  | [], _ :: _ => by simp [lexS]
  | _ :: _, [] => by simp [lexS]
  | a :: r, b :: s => by
    rw [lexS, lexS, cmpI_neg a b]
    by_cases h : cmpI a b = 0
    · rw [if_pos h, if_pos (by omega), lexS_neg r s]
    · rw [if_neg h, if_neg (by omega)]
theorem lexS_pre : ∀ c a b : List Int, lexS (c ++ a) (c ++ b) = lexS a b
  | [], _, _ => rfl
  | x :: c, a, b => by rw [List.cons_append, List.cons_append, lexS, if_pos ((cmpI_0 x x).2 rfl), lexS_pre c a b]
theorem lexS_suf : ∀ a b c : List Int, a.length = b.length → lexS (a ++ c) (b ++ c) = lexS a b
  | [], [], c, _ => by rw [List.nil_append]; simp only [lexS]; exact (lexS_0 c c).2 rfl
  | [], _ :: _, c, h => by simp at h
  | _ :: _, [], c, h => by simp at h
  | a :: r, b :: s, c, h => by
    rw [List.cons_append, List.cons_append, lexS, lexS, lexS_suf r s c (by simpa using h)]
theorem lexS_trans : ∀ a b c : List Int, lexS a b < 0 → lexS b c < 0 → lexS a c < 0
  | [], [], c, h, _ => by simp [lexS] at h
  | [], _ :: _, [], _, h => by simp [lexS] at h
  | [], _ :: _, _ :: _, _, _ => by simp [lexS]
  | _ :: _, [], c, h, _ => by simp [lexS] at h
  | _ :: _, _ :: _, [], _, h => by simp [lexS] at h
  | a :: r, b :: s, c :: t, h, k => by
    rw [lexS] at h k ⊢
    unfold cmpI at *
    by_cases h1 : a < b <;> by_cases h2 : b < a <;> by_cases k1 : b < c <;> by_cases k2 : c < b <;> simp only [h1, h2, k1, k2, if_true, if_false] at h k <;> try omega
    all_goals first
      | (rw [if_pos (show a < c by omega)]; decide)
      | (rw [if_neg (show ¬ a < c by omega), if_neg (show ¬ c < a by omega), if_pos rfl]
         exact lexS_trans r s t h k)
      | (rw [if_neg (show ¬ a < c by omega), if_neg (show ¬ c < a by omega), if_pos rfl]
         rw [if_pos trivial] at h k
         exact lexS_trans r s t h k)
      | trace_state
def lessS (a b : List Int) : Bool := if a.length = b.length then decide (lexS a b < 0) else decide (a.length < b.length)
theorem lessS_one (a b : List Int) : (if lessS a b = true then 1 else 0) + (if lessS b a = true then 1 else 0) + (if a = b then 1 else 0) = (1 : Int) := by
  have h0 := lexS_0 a b
  have hn := lexS_neg a b
  unfold lessS
  by_cases hl : a.length = b.length
  · rw [if_pos hl, if_pos hl.symm, hn]
    by_cases e : a = b
    · have := h0.2 e
      rw [this, if_pos e]; rfl
    · have h1 : lexS a b ≠ 0 := fun h => e (h0.1 h)
      by_cases h2 : lexS a b < 0
      · rw [decide_eq_true h2, decide_eq_false (show ¬ -lexS a b < 0 by omega), if_neg e]; rfl
      · rw [decide_eq_false h2, decide_eq_true (show -lexS a b < 0 by omega), if_neg e]; rfl
  · have e : a ≠ b := fun e => hl (by rw [e])
    rw [if_neg hl, if_neg (show ¬ b.length = a.length from fun h => hl h.symm), if_neg e]
    by_cases h2 : a.length < b.length
    · rw [decide_eq_true h2, decide_eq_false (show ¬ b.length < a.length by omega)]; rfl
    · rw [decide_eq_false h2, decide_eq_true (show b.length < a.length by omega)]; rfl
theorem lessS_pre (c a b : List Int) : lessS (c ++ a) (c ++ b) = lessS a b := by
  unfold lessS
  rw [lexS_pre]
  simp only [List.length_append, Nat.add_left_cancel_iff, Nat.add_lt_add_iff_left]
theorem lessS_suf (a b c : List Int) : lessS (a ++ c) (b ++ c) = lessS a b := by
  unfold lessS
  simp only [List.length_append, Nat.add_right_cancel_iff, Nat.add_lt_add_iff_right]
  split
  · rename_i h; rw [lexS_suf a b c h]
  · rfl
theorem lessS_trans (a b c : List Int) (h : lessS a b = true) (k : lessS b c = true) : lessS a c = true := by
  unfold lessS at *
  by_cases h1 : a.length = b.length
  · rw [if_pos h1, decide_eq_true_eq] at h
    by_cases k1 : b.length = c.length
    · rw [if_pos k1, decide_eq_true_eq] at k
      rw [if_pos (h1.trans k1), decide_eq_true_eq]; exact lexS_trans a b c h k
    · rw [if_neg k1, decide_eq_true_eq] at k
      rw [if_neg (by omega), decide_eq_true_eq]; omega
  · rw [if_neg h1, decide_eq_true_eq] at h
    by_cases k1 : b.length = c.length
    · rw [if_neg (by omega), decide_eq_true_eq]; omega
    · rw [if_neg k1, decide_eq_true_eq] at k
      rw [if_neg (by omega), decide_eq_true_eq]; omega
def sameS : List Int → List Int → Bool
  | [], [] => true
  | a :: r, b :: s => decide (a = b) && sameS r s
  | _, _ => false
theorem sameS_len : ∀ {a b : List Int}, sameS a b = true → a.length = b.length
  | [], [], _ => rfl
  | [], _ :: _, h => by simp [sameS] at h
  | _ :: _, [], h => by simp [sameS] at h
  | a :: r, b :: s, h => by
    simp only [sameS, Bool.and_eq_true] at h
    simp [sameS_len h.2]
theorem sameS_iff : ∀ {a b : List Int}, sameS a b = true ↔ a = b
  | [], [] => by simp [sameS]
  | [], _ :: _ => by simp [sameS]
  | _ :: _, [] => by simp [sameS]
  | a :: r, b :: s => by simp [sameS, sameS_iff (a := r) (b := s)]
noncomputable def sameInt.L0  : LFace := ⟨[0, 1, 5], [.v (.sl (.int .i64)), .v (.sl (.int .i64)), .v (.int .i64)], fun (a, b, i) => some (a.length = b.length ∧ 0 ≤ i ∧ i ≤ a.length ∧ a.length ≤ 9223372036854775807),
  [⟨.normal, [], [], fun (a, b, i) => (), fun (a, b, i) => some (sameS (a.drop i.toNat) (b.drop i.toNat) = true)⟩,
   ⟨.ret, [4], [.v .bool], fun (a, b, i) => false, fun (a, b, i) => some (sameS (a.drop i.toNat) (b.drop i.toNat) = false)⟩]⟩
noncomputable def sameInt.L0.mu  : dens sameInt.L0.sh → Nat := fun (a, b, i) => (a.length - i).toNat
noncomputable def sameInt.L0.g  (a : List Int) (b : List Int) (i : Int) : Prop := GoodLA Tryd.prog (cfOf []) [] 1000 10 0 sameInt.L0 sameInt.L0.mu (a, b, i)
noncomputable def sameInt.L0.q0 (a : List Int) (i : Int) : Prop := ((True ∧ a.length ≤ (9223372036854775807 : Nat)) ∧ decide (i < (↑a.length : Int)) = true) ∧ (0 : Int) ≤ i ∧ i < (↑a.length : Int)
noncomputable def sameInt.L0.T (a : List Int) (b : List Int) (i : Int) : Prop := (((True ∧ a.length ≤ (9223372036854775807 : Nat)) ∧ decide (i < (↑a.length : Int)) = true) ∧ ¬((0 : Int) ≤ i ∧ i < (↑a.length : Int)) → False) ∧ ((sameInt.L0.q0 a i) ∧ ¬((0 : Int) ≤ i ∧ i < (↑b.length : Int)) → False) ∧ (((sameInt.L0.q0 a i) ∧ (0 : Int) ≤ i ∧ i < (↑b.length : Int)) ∧ (a.getD i.toNat (0 : Int) != b.getD i.toNat (0 : Int)) = true → sameS (List.drop i.toNat a) (List.drop i.toNat b) = false ∧ false = false) ∧ (((sameInt.L0.q0 a i) ∧ (0 : Int) ≤ i ∧ i < (↑b.length : Int)) ∧ (a.getD i.toNat (0 : Int) != b.getD i.toNat (0 : Int)) = false → (a.length = b.length ∧ (0 : Int) ≤ IntKind.i64.wrap (i + (1 : Int)) ∧ IntKind.i64.wrap (i + (1 : Int)) ≤ (↑a.length : Int) ∧ a.length ≤ (9223372036854775807 : Nat)) ∧ sameInt.L0.mu (a, b, IntKind.i64.wrap (i + (1 : Int))) < sameInt.L0.mu (a, b, i) ∧ (sameS (List.drop (IntKind.i64.wrap (i + (1 : Int))).toNat a) (List.drop (IntKind.i64.wrap (i + (1 : Int))).toNat b) = true → sameS (List.drop i.toNat a) (List.drop i.toNat b) = true ∧ () = ()) ∧ (sameS (List.drop (IntKind.i64.wrap (i + (1 : Int))).toNat a) (List.drop (IntKind.i64.wrap (i + (1 : Int))).toNat b) = false → sameS (List.drop i.toNat a) (List.drop i.toNat b) = false ∧ false = false) ∧ True) ∧ ((True ∧ a.length ≤ (9223372036854775807 : Nat)) ∧ decide (i < (↑a.length : Int)) = false → sameS (List.drop i.toNat a) (List.drop i.toNat b) = true ∧ () = ()) ∧ (True)
theorem sameInt.L0.eq  (a : List Int) (b : List Int) (i : Int) : sameInt.L0.g  a b i = sameInt.L0.T  a b i := by kernel_rfl
theorem sameInt.L0.ok  (a : List Int) (b : List Int) (i : Int) (hx : a.length = b.length ∧ 0 ≤ i ∧ i ≤ a.length ∧ a.length ≤ 9223372036854775807) : sameInt.L0.T  a b i := by
  delta sameInt.L0.T sameInt.L0.q0
  obtain ⟨h1, h2, h3, h4⟩ := hx
  ((repeat' (first | exact trivial | apply And.intro)) <;> (intro hw; (try (simp only [true_and, and_true, decide_eq_true_eq, decide_eq_false_iff_not, beq_iff_eq, bne_iff_ne, beq_eq_false_iff_ne, bne_eq_false_iff_eq, ne_eq, Bool.not_eq_true, Bool.not_eq_false, not_true_eq_false, not_false_eq_true, Bool.not_eq_eq_eq_not, Bool.not_true, Bool.not_false, forall_const, imp_self, Bool.true_eq_false, Bool.false_eq_true, reduceCtorEq] at hw)); (try first | (exfalso; omega) | exact ⟨trivial, rfl⟩ | exact (hw hx).elim | exact (hw.2 hx).elim)))
  · obtain ⟨⟨⟨-, h5, h6⟩, -⟩, h7⟩ := hw
    rw [drop_int 0 h2 h6, drop_int 0 h2 (by omega), sameS]
    refine ⟨?_, rfl⟩
    rw [decide_eq_false h7]; rfl
  · obtain ⟨⟨⟨-, h5, h6⟩, -⟩, h7⟩ := hw
    rw [wrapI64 (x := i + 1) (by omega) (by omega), drop_int 0 h2 h6, drop_int 0 h2 (by omega), sameS]
    simp only [h7, decide_true, Bool.true_and, sameInt.L0.mu]
    refine ⟨⟨h1, by omega, by omega, h4⟩, by omega, fun h => ⟨h, trivial⟩, fun h => ⟨h, trivial⟩, trivial⟩
  · rw [drop_int_end hw.2, drop_int_end (by omega)]
    exact ⟨rfl, rfl⟩
theorem sameInt.L0.lp   : LpAt Tryd.prog 10 0 sameInt.L0 := lp_evalH (l := []) (lf := 1000) (fun _ => cfOf_ok (fns_nil _)) (lps_nil _ _) (by kernel_rfl) _ (sameInt.L0.mu ) (fun ⟨a, b, i⟩ hx => Hid.of (sameInt.L0.eq  a b i) (sameInt.L0.ok  a b i hx))
noncomputable def sameInt  : Face := ⟨10, [.v (.sl (.int .i64)), .v (.sl (.int .i64))], fun (a, b) => none,
  [⟨false, [.v .bool], fun (a, b) => sameS a b, fun (a, b) => none⟩]⟩
noncomputable def sameInt.g  (a : List Int) (b : List Int) : Prop := GoodFA Tryd.prog (cfOf []) [(0, sameInt.L0)] 1000 sameInt (a, b)
noncomputable def sameInt.q0 (a : List Int) (b : List Int) : Prop := ((True ∧ a.length ≤ (9223372036854775807 : Nat)) ∧ b.length ≤ (9223372036854775807 : Nat)) ∧ ((↑a.length : Int) != (↑b.length : Int)) = false
noncomputable def sameInt.q1 (a : List Int) (b : List Int) : Prop := (sameInt.q0 a b) ∧ a.length = b.length ∧ (0 : Int) ≤ (0 : Int) ∧ (0 : Int) ≤ (↑a.length : Int) ∧ a.length ≤ (9223372036854775807 : Nat)
noncomputable def sameInt.T (a : List Int) (b : List Int) : Prop := (((True ∧ a.length ≤ (9223372036854775807 : Nat)) ∧ b.length ≤ (9223372036854775807 : Nat)) ∧ ((↑a.length : Int) != (↑b.length : Int)) = true → True ∧ false = sameS a b) ∧ ((sameInt.q0 a b) ∧ ¬(a.length = b.length ∧ (0 : Int) ≤ (0 : Int) ∧ (0 : Int) ≤ (↑a.length : Int) ∧ a.length ≤ (9223372036854775807 : Nat)) → False) ∧ ((sameInt.q1 a b) ∧ sameS (List.drop (Int.toNat (0 : Int)) a) (List.drop (Int.toNat (0 : Int)) b) = true → True ∧ true = sameS a b) ∧ ((sameInt.q1 a b) ∧ sameS (List.drop (Int.toNat (0 : Int)) a) (List.drop (Int.toNat (0 : Int)) b) = false → True ∧ false = sameS a b) ∧ (True)
theorem sameInt.eq  (a : List Int) (b : List Int) : sameInt.g  a b = sameInt.T  a b := by kernel_rfl
theorem sameInt.ok  (a : List Int) (b : List Int) : sameInt.T  a b := by
  delta sameInt.T sameInt.q0 sameInt.q1
  ((repeat' (first | exact trivial | apply And.intro)) <;> (intro hw; (try (simp only [true_and, and_true, decide_eq_true_eq, decide_eq_false_iff_not, beq_iff_eq, bne_iff_ne, beq_eq_false_iff_ne, bne_eq_false_iff_eq, ne_eq, Bool.not_eq_true, Bool.not_eq_false, not_true_eq_false, not_false_eq_true, Bool.not_eq_eq_eq_not, Bool.not_true, Bool.not_false, forall_const, imp_self, Bool.true_eq_false, Bool.false_eq_true, reduceCtorEq] at hw)); (try first | (exfalso; omega) | exact ⟨trivial, rfl⟩ | exact (hw hx).elim | exact (hw.2 hx).elim)))
  · refine ⟨trivial, ?_⟩
    cases h : sameS a b with
    | false => rfl
    | true => have := sameS_len h; omega
  · exact ⟨trivial, hw.2.symm⟩
  · exact ⟨trivial, hw.2.symm⟩
theorem sameInt.fn   : FnOk Tryd.prog sameInt := fn_evalH (l := [(0, sameInt.L0)]) (lf := 1000) (fun _ => cfOf_ok (fns_nil _)) _ (lps_cons (sameInt.L0.lp) (lps_nil _ _)) (by kernel_rfl) (fun ⟨a, b⟩ hx => Hid.of (sameInt.eq  a b) (sameInt.ok  a b))
noncomputable def nanF  : Face := ⟨51, [.v (.int .i64)], fun a => none,
  [⟨false, [.v .bool], fun a => false, fun a => none⟩]⟩
noncomputable def nanF.g  (a : Int) : Prop := GoodFA Tryd.prog (cfOf []) [] 1000 nanF a
noncomputable def nanF.T (a : Int) : Prop := (True → True ∧ (a != a) = false) ∧ (True)
theorem nanF.eq  (a : Int) : nanF.g  a = nanF.T  a := by kernel_rfl
theorem nanF.ok  (a : Int) : nanF.T  a := by
  rw [nanF.T]
  ((repeat' (first | exact trivial | apply And.intro)) <;> (intro hw; (try (simp only [true_and, and_true, decide_eq_true_eq, decide_eq_false_iff_not, beq_iff_eq, bne_iff_ne, beq_eq_false_iff_ne, bne_eq_false_iff_eq, ne_eq, Bool.not_eq_true, Bool.not_eq_false, not_true_eq_false, not_false_eq_true, Bool.not_eq_eq_eq_not, Bool.not_true, Bool.not_false, forall_const, imp_self, Bool.true_eq_false, Bool.false_eq_true, reduceCtorEq] at hw)); (try first | (exfalso; omega) | exact ⟨trivial, rfl⟩ | exact (hw hx).elim | exact (hw.2 hx).elim)))
  exact ⟨trivial, by simp⟩
theorem nanF.fn   : FnOk Tryd.prog nanF := fn_evalH (l := []) (lf := 1000) (fun _ => cfOf_ok (fns_nil _)) _ (lps_nil _ _) (by kernel_rfl) (fun a hx => Hid.of (nanF.eq  a) (nanF.ok  a))
noncomputable def cmpF  : Face := ⟨40, [.v (.int .i64), .v (.int .i64)], fun (a, b) => none,
  [⟨false, [.v (.int .i64)], fun (a, b) => cmpI a b, fun (a, b) => none⟩]⟩
noncomputable def cmpF.g  (a : Int) (b : Int) : Prop := GoodFA Tryd.prog (cfOf [nanF]) [] 1000 cmpF (a, b)
noncomputable def cmpF.T (a : Int) (b : Int) : Prop := ((True ∧ false = true) ∧ false = true → True ∧ (0 : Int) = cmpI a b) ∧ ((True ∧ false = true) ∧ false = false → True ∧ (-1 : Int) = cmpI a b) ∧ ((True ∧ false = false) ∧ false = true → True ∧ (1 : Int) = cmpI a b) ∧ (((True ∧ false = false) ∧ false = false) ∧ decide (a < b) = true → True ∧ (-1 : Int) = cmpI a b) ∧ ((((True ∧ false = false) ∧ false = false) ∧ decide (a < b) = false) ∧ decide (a > b) = true → True ∧ (1 : Int) = cmpI a b) ∧ ((((True ∧ false = false) ∧ false = false) ∧ decide (a < b) = false) ∧ decide (a > b) = false → True ∧ (0 : Int) = cmpI a b) ∧ (True)
theorem cmpF.eq  (a : Int) (b : Int) : cmpF.g  a b = cmpF.T  a b := by kernel_rfl
theorem cmpF.ok  (a : Int) (b : Int) : cmpF.T  a b := by
  rw [cmpF.T, cmpI]
  ((repeat' (first | exact trivial | apply And.intro)) <;> (intro hw; (try (simp only [true_and, and_true, decide_eq_true_eq, decide_eq_false_iff_not, beq_iff_eq, bne_iff_ne, beq_eq_false_iff_ne, bne_eq_false_iff_eq, ne_eq, Bool.not_eq_true, Bool.not_eq_false, not_true_eq_false, not_false_eq_true, Bool.not_eq_eq_eq_not, Bool.not_true, Bool.not_false, forall_const, imp_self, Bool.true_eq_false, Bool.false_eq_true, reduceCtorEq] at hw)); (try first | (exfalso; omega) | exact ⟨trivial, rfl⟩ | exact (hw hx).elim | exact (hw.2 hx).elim)))
  all_goals first
    | exact hw.1.elim
    | exact hw.1.1.elim
    | exact hw.elim
    | exact hw.2.elim
    | exact ⟨trivial, by rw [if_pos (by omega)]⟩
    | exact ⟨trivial, by rw [if_neg (by omega), if_pos (by omega)]⟩
    | exact ⟨trivial, by rw [if_neg (by omega), if_neg (by omega)]⟩
    | trace_state
theorem cmpF.fn   : FnOk Tryd.prog cmpF := fn_evalH (l := []) (lf := 1000) (fun _ => cfOf_ok (fns_cons nanF.fn (fns_nil _))) _ (lps_nil _ _) (by kernel_rfl) (fun ⟨a, b⟩ hx => Hid.of (cmpF.eq  a b) (cmpF.ok  a b))
noncomputable def lexL  : LFace := ⟨[0, 1, 9, 10, 11], [.v (.sl (.int .i64)), .v (.sl (.int .i64)), .v (.sl (.int .i64)), .v (.int .i64), .v (.int .i64)], fun (a, b, c, n, i) => some (c = a ∧ n = a.length ∧ 0 ≤ i ∧ i ≤ n ∧ i ≤ b.length ∧ a.length ≤ 4000000 ∧ b.length ≤ 4000000),
  [⟨.normal, [0, 1], [.v (.sl (.int .i64)), .v (.sl (.int .i64))], fun (a, b, c, n, i) => (a, b), fun (a, b, c, n, i) => some (lexS (a.drop i.toNat) (b.drop i.toNat) = (if a.length < b.length then -1 else 0) ∧ a.length ≤ b.length)⟩,
   ⟨.ret, [4], [.v (.int .i64)], fun (a, b, c, n, i) => lexS (a.drop i.toNat) (b.drop i.toNat), fun (a, b, c, n, i) => none⟩]⟩
noncomputable def lexL.mu  : dens lexL.sh → Nat := fun (a, b, c, n, i) => (n - i).toNat
noncomputable def lexL.g  (a : List Int) (b : List Int) (c : List Int) (n : Int) (i : Int) : Prop := GoodLA Tryd.prog (cfOf [cmpF]) [] 1000 26 0 lexL lexL.mu (a, b, c, n, i)
noncomputable def lexL.q0 (b : List Int) (c : List Int) (n : Int) (i : Int) : Prop := ((True ∧ decide (i < n) = true) ∧ (0 : Int) ≤ i ∧ i < (↑c.length : Int)) ∧ b.length ≤ (9223372036854775807 : Nat)
noncomputable def lexL.T (a : List Int) (b : List Int) (c : List Int) (n : Int) (i : Int) : Prop := ((lexL.q0 b c n i) ∧ decide (i ≥ (↑b.length : Int)) = true → True ∧ (1 : Int) = lexS (List.drop i.toNat a) (List.drop i.toNat b)) ∧ ((((lexL.q0 b c n i) ∧ decide (i ≥ (↑b.length : Int)) = false) ∧ (0 : Int) ≤ i ∧ i < (↑b.length : Int)) ∧ (cmpI (c.getD i.toNat (0 : Int)) (b.getD i.toNat (0 : Int)) != (0 : Int)) = true → True ∧ cmpI (c.getD i.toNat (0 : Int)) (b.getD i.toNat (0 : Int)) = lexS (List.drop i.toNat a) (List.drop i.toNat b)) ∧ ((((lexL.q0 b c n i) ∧ decide (i ≥ (↑b.length : Int)) = false) ∧ (0 : Int) ≤ i ∧ i < (↑b.length : Int)) ∧ (cmpI (c.getD i.toNat (0 : Int)) (b.getD i.toNat (0 : Int)) != (0 : Int)) = false → (c = a ∧ n = (↑a.length : Int) ∧ (0 : Int) ≤ IntKind.i64.wrap (i + (1 : Int)) ∧ IntKind.i64.wrap (i + (1 : Int)) ≤ n ∧ IntKind.i64.wrap (i + (1 : Int)) ≤ (↑b.length : Int) ∧ a.length ≤ (4000000 : Nat) ∧ b.length ≤ (4000000 : Nat)) ∧ lexL.mu (a, b, c, n, IntKind.i64.wrap (i + (1 : Int))) < lexL.mu (a, b, c, n, i) ∧ ((lexS (List.drop (IntKind.i64.wrap (i + (1 : Int))).toNat a) (List.drop (IntKind.i64.wrap (i + (1 : Int))).toNat b) = if a.length < b.length then (-1 : Int) else (0 : Int)) ∧ a.length ≤ b.length → ((lexS (List.drop i.toNat a) (List.drop i.toNat b) = if a.length < b.length then (-1 : Int) else (0 : Int)) ∧ a.length ≤ b.length) ∧ (a, b) = (a, b)) ∧ (True → True ∧ lexS (List.drop (IntKind.i64.wrap (i + (1 : Int))).toNat a) (List.drop (IntKind.i64.wrap (i + (1 : Int))).toNat b) = lexS (List.drop i.toNat a) (List.drop i.toNat b)) ∧ True) ∧ (((lexL.q0 b c n i) ∧ decide (i ≥ (↑b.length : Int)) = false) ∧ ¬((0 : Int) ≤ i ∧ i < (↑b.length : Int)) → False) ∧ ((True ∧ decide (i < n) = true) ∧ ¬((0 : Int) ≤ i ∧ i < (↑c.length : Int)) → False) ∧ (True ∧ decide (i < n) = false → ((lexS (List.drop i.toNat a) (List.drop i.toNat b) = if a.length < b.length then (-1 : Int) else (0 : Int)) ∧ a.length ≤ b.length) ∧ (a, b) = (a, b)) ∧ (True)
theorem lexL.eq  (a : List Int) (b : List Int) (c : List Int) (n : Int) (i : Int) : lexL.g  a b c n i = lexL.T  a b c n i := by kernel_rfl
theorem lexL.ok  (a : List Int) (b : List Int) (c : List Int) (n : Int) (i : Int) (hx : c = a ∧ n = a.length ∧ 0 ≤ i ∧ i ≤ n ∧ i ≤ b.length ∧ a.length ≤ 4000000 ∧ b.length ≤ 4000000) : lexL.T  a b c n i := by
  obtain ⟨rfl, rfl, h1, h2, h3, h4, h5⟩ := hx
  delta lexL.T lexL.q0
  rw [wrapI64 (x := i + 1) (by omega) (by omega)]
  have hC : i < (c.length : Int) → c.drop i.toNat = c.getD i.toNat 0 :: c.drop (i + 1).toNat := fun h => drop_int 0 h1 h
  have hB : i < (b.length : Int) → b.drop i.toNat = b.getD i.toNat 0 :: b.drop (i + 1).toNat := fun h => drop_int 0 h1 h
  ((repeat' (first | exact trivial | apply And.intro)) <;> (intro hw; (try (simp only [true_and, and_true, decide_eq_true_eq, decide_eq_false_iff_not, beq_iff_eq, bne_iff_ne, beq_eq_false_iff_ne, bne_eq_false_iff_eq, ne_eq, Bool.not_eq_true, Bool.not_eq_false, not_true_eq_false, not_false_eq_true, Bool.not_eq_eq_eq_not, Bool.not_true, Bool.not_false, forall_const, imp_self, Bool.true_eq_false, Bool.false_eq_true, reduceCtorEq] at hw)); (try first | (exfalso; omega) | exact ⟨trivial, rfl⟩ | exact (hw hx).elim | exact (hw.2 hx).elim)))
  · rw [hC (by omega), show b.drop i.toNat = [] from List.drop_eq_nil_of_le (by omega), lexS]; exact ⟨trivial, rfl⟩
  · rw [hC (by omega), hB (by omega), lexS, if_neg hw.2]; exact ⟨trivial, rfl⟩
  · have e : lexS (c.drop i.toNat) (b.drop i.toNat) = lexS (c.drop (i + 1).toNat) (b.drop (i + 1).toNat) := by rw [hC (by omega), hB (by omega), lexS, if_pos hw.2]
    rw [e]
    exact ⟨⟨rfl, rfl, by omega, by omega, by omega, h4, h5⟩, by simp only [lexL.mu]; omega, fun h => ⟨h, rfl⟩, fun _ => ⟨trivial, rfl⟩, trivial⟩
  · refine ⟨⟨?_, by omega⟩, rfl⟩
    rw [show c.drop i.toNat = [] from List.drop_eq_nil_of_le (by omega)]
    by_cases hl : c.length < b.length
    · rw [if_pos hl, hB (by omega), lexS]
    · rw [if_neg hl, show b.drop i.toNat = [] from List.drop_eq_nil_of_le (by omega), lexS]
theorem lexL.lp   : LpAt Tryd.prog 26 0 lexL := lp_evalH (l := []) (lf := 1000) (fun _ => cfOf_ok (fns_cons cmpF.fn (fns_nil _))) (lps_nil _ _) (by kernel_rfl) _ (lexL.mu ) (fun ⟨a, b, c, n, i⟩ hx => Hid.of (lexL.eq  a b c n i) (lexL.ok  a b c n i hx))
noncomputable def lexF  : Face := ⟨26, [.v (.sl (.int .i64)), .v (.sl (.int .i64))], fun (a, b) => some (a.length ≤ 4000000 ∧ b.length ≤ 4000000),
  [⟨false, [.v (.int .i64)], fun (a, b) => lexS a b, fun (a, b) => none⟩]⟩
noncomputable def lexF.g  (a : List Int) (b : List Int) : Prop := GoodFA Tryd.prog (cfOf []) [(0, lexL)] 1000 lexF (a, b)
noncomputable def lexF.q0 (a : List Int) (b : List Int) : Prop := ((((True ∧ a.length ≤ (9223372036854775807 : Nat)) ∧ a = a ∧ (↑a.length : Int) = (↑a.length : Int) ∧ (0 : Int) ≤ (0 : Int) ∧ (0 : Int) ≤ (↑a.length : Int) ∧ (0 : Int) ≤ (↑b.length : Int) ∧ a.length ≤ (4000000 : Nat) ∧ b.length ≤ (4000000 : Nat)) ∧ (lexS (List.drop (Int.toNat (0 : Int)) a) (List.drop (Int.toNat (0 : Int)) b) = if a.length < b.length then (-1 : Int) else (0 : Int)) ∧ a.length ≤ b.length) ∧ a.length ≤ (9223372036854775807 : Nat)) ∧ b.length ≤ (9223372036854775807 : Nat)
noncomputable def lexF.T (a : List Int) (b : List Int) : Prop := ((True ∧ a.length ≤ (9223372036854775807 : Nat)) ∧ ¬(a = a ∧ (↑a.length : Int) = (↑a.length : Int) ∧ (0 : Int) ≤ (0 : Int) ∧ (0 : Int) ≤ (↑a.length : Int) ∧ (0 : Int) ≤ (↑b.length : Int) ∧ a.length ≤ (4000000 : Nat) ∧ b.length ≤ (4000000 : Nat)) → False) ∧ ((lexF.q0 a b) ∧ decide ((↑a.length : Int) < (↑b.length : Int)) = true → True ∧ (-1 : Int) = lexS a b) ∧ ((lexF.q0 a b) ∧ decide ((↑a.length : Int) < (↑b.length : Int)) = false → True ∧ (0 : Int) = lexS a b) ∧ ((True ∧ a.length ≤ (9223372036854775807 : Nat)) ∧ a = a ∧ (↑a.length : Int) = (↑a.length : Int) ∧ (0 : Int) ≤ (0 : Int) ∧ (0 : Int) ≤ (↑a.length : Int) ∧ (0 : Int) ≤ (↑b.length : Int) ∧ a.length ≤ (4000000 : Nat) ∧ b.length ≤ (4000000 : Nat) → True ∧ lexS (List.drop (Int.toNat (0 : Int)) a) (List.drop (Int.toNat (0 : Int)) b) = lexS a b) ∧ (True)
theorem lexF.eq  (a : List Int) (b : List Int) : lexF.g  a b = lexF.T  a b := by kernel_rfl
theorem lexF.ok  (a : List Int) (b : List Int) (hx : a.length ≤ 4000000 ∧ b.length ≤ 4000000) : lexF.T  a b := by
  obtain ⟨h1, h2⟩ := hx
  delta lexF.T lexF.q0
  simp only [show Int.toNat 0 = 0 from rfl, List.drop_zero]
  ((repeat' (first | exact trivial | apply And.intro)) <;> (intro hw; (try (simp only [true_and, and_true, decide_eq_true_eq, decide_eq_false_iff_not, beq_iff_eq, bne_iff_ne, beq_eq_false_iff_ne, bne_eq_false_iff_eq, ne_eq, Bool.not_eq_true, Bool.not_eq_false, not_true_eq_false, not_false_eq_true, Bool.not_eq_eq_eq_not, Bool.not_true, Bool.not_false, forall_const, imp_self, Bool.true_eq_false, Bool.false_eq_true, reduceCtorEq] at hw)); (try first | (exfalso; omega) | exact ⟨trivial, rfl⟩ | exact (hw hx).elim | exact (hw.2 hx).elim)))
  all_goals first
    | (exfalso; omega)
    | exact ⟨trivial, trivial⟩
    | (refine ⟨trivial, ?_⟩; rw [hw.1.1.1.2.1, if_pos (by omega)])
    | (refine ⟨trivial, ?_⟩; rw [hw.1.1.1.2.1, if_neg (by omega)])
    | trace_state
theorem lexF.fn   : FnOk Tryd.prog lexF := fn_evalH (l := [(0, lexL)]) (lf := 1000) (fun _ => cfOf_ok (fns_nil _)) _ (lps_cons (lexL.lp) (lps_nil _ _)) (by kernel_rfl) (fun ⟨a, b⟩ hx => Hid.of (lexF.eq  a b) (lexF.ok  a b hx))
noncomputable def lessF  : Face := ⟨9, [.v (.sl (.int .i64)), .v (.sl (.int .i64))], fun (a, b) => some (a.length ≤ 4000000 ∧ b.length ≤ 4000000),
  [⟨false, [.v .bool], fun (a, b) => lessS a b, fun (a, b) => none⟩]⟩
noncomputable def lessF.g  (a : List Int) (b : List Int) : Prop := GoodFA Tryd.prog (cfOf [lexF]) [] 1000 lessF (a, b)
noncomputable def lessF.T (a : List Int) (b : List Int) : Prop := (((((True ∧ a.length ≤ (9223372036854775807 : Nat)) ∧ b.length ≤ (9223372036854775807 : Nat)) ∧ ((↑a.length : Int) != (↑b.length : Int)) = true) ∧ a.length ≤ (9223372036854775807 : Nat)) ∧ b.length ≤ (9223372036854775807 : Nat) →
  True ∧ decide ((↑a.length : Int) < (↑b.length : Int)) = lessS a b) ∧ ((((True ∧ a.length ≤ (9223372036854775807 : Nat)) ∧ b.length ≤ (9223372036854775807 : Nat)) ∧ ((↑a.length : Int) != (↑b.length : Int)) = false) ∧ ¬(a.length ≤ (4000000 : Nat) ∧ b.length ≤ (4000000 : Nat)) → False) ∧ ((((True ∧ a.length ≤ (9223372036854775807 : Nat)) ∧ b.length ≤ (9223372036854775807 : Nat)) ∧ ((↑a.length : Int) != (↑b.length : Int)) = false) ∧ a.length ≤ (4000000 : Nat) ∧ b.length ≤ (4000000 : Nat) →
  True ∧ decide (lexS a b < (0 : Int)) = lessS a b) ∧ (True)
theorem lessF.eq  (a : List Int) (b : List Int) : lessF.g  a b = lessF.T  a b := by kernel_rfl
theorem lessF.ok  (a : List Int) (b : List Int) (hx : a.length ≤ 4000000 ∧ b.length ≤ 4000000) : lessF.T  a b := by
  obtain ⟨h1, h2⟩ := hx
  rw [lessF.T, lessS]
  ((repeat' (first | exact trivial | apply And.intro)) <;> (intro hw; (try (simp only [true_and, and_true, decide_eq_true_eq, decide_eq_false_iff_not, beq_iff_eq, bne_iff_ne, beq_eq_false_iff_ne, bne_eq_false_iff_eq, ne_eq, Bool.not_eq_true, Bool.not_eq_false, not_true_eq_false, not_false_eq_true, Bool.not_eq_eq_eq_not, Bool.not_true, Bool.not_false, forall_const, imp_self, Bool.true_eq_false, Bool.false_eq_true, reduceCtorEq] at hw)); (try first | (exfalso; omega) | exact ⟨trivial, rfl⟩ | exact (hw hx).elim | exact (hw.2 hx).elim)))
  all_goals first
    | (exfalso; omega)
    | (refine ⟨trivial, ?_⟩; rw [if_pos (by omega)]; done)
    | (refine ⟨trivial, ?_⟩; rw [if_neg (by omega)]; congr 1; exact propext ⟨fun h => by omega, fun h => by omega⟩)
    | trace_state
theorem lessF.fn   : FnOk Tryd.prog lessF := fn_evalH (l := []) (lf := 1000) (fun _ => cfOf_ok (fns_cons lexF.fn (fns_nil _))) _ (lps_nil _ _) (by kernel_rfl) (fun ⟨a, b⟩ hx => Hid.of (lessF.eq  a b) (lessF.ok  a b hx))
noncomputable def copyI  : Face := ⟨11, [.v (.sl (.int .i64))], fun l => some (l.length ≤ 4000000),
  [⟨false, [.row (.int .i64) 3], fun l => l, fun l => none⟩]⟩
noncomputable def copyI.g  (l : List Int) : Prop := GoodFA Tryd.prog (cfOf []) [] 1000 copyI l
noncomputable def copyI.T (l : List Int) : Prop := (True ∧ l.length * (8 : Nat) ≤ (140737488355328 : Nat) → True ∧ l = l) ∧ (True ∧ ¬l.length * (8 : Nat) ≤ (140737488355328 : Nat) → False) ∧ (True)
theorem copyI.eq  (l : List Int) : copyI.g  l = copyI.T  l := by kernel_rfl
theorem copyI.ok  (l : List Int) (hx : l.length ≤ 4000000) : copyI.T  l := by
  rw [copyI.T]
  ((repeat' (first | exact trivial | apply And.intro)) <;> (intro hw; (try (simp only [true_and, and_true, decide_eq_true_eq, decide_eq_false_iff_not, beq_iff_eq, bne_iff_ne, beq_eq_false_iff_ne, bne_eq_false_iff_eq, ne_eq, Bool.not_eq_true, Bool.not_eq_false, not_true_eq_false, not_false_eq_true, Bool.not_eq_eq_eq_not, Bool.not_true, Bool.not_false, forall_const, imp_self, Bool.true_eq_false, Bool.false_eq_true, reduceCtorEq] at hw)); (try first | (exfalso; omega) | exact ⟨trivial, rfl⟩ | exact (hw hx).elim | exact (hw.2 hx).elim)))
  all_goals first
    | (exfalso; omega)
    | exact ⟨trivial, rfl⟩
    | exact ⟨trivial, trivial⟩
    | trace_state
theorem copyI.fn   : FnOk Tryd.prog copyI := fn_evalH (l := []) (lf := 1000) (fun _ => cfOf_ok (fns_nil _)) _ (lps_nil _ _) (by kernel_rfl) (fun l hx => Hid.of (copyI.eq  l) (copyI.ok  l hx))
def cntB : List Bool → Int
  | [] => 0
  | b :: r => (if b = true then 1 else 0) + cntB r
noncomputable def ordL  : LFace := ⟨[0, 1, 2, 7, 23, 24, 25], [.v (.sl (.int .i64)), .v (.sl (.int .i64)), .v (.sl (.int .i64)), .v (.int .i64), .v (.sl .bool), .v (.int .i64), .v (.int .i64)], fun (a, b, c, k, l, n, i) => some (n = l.length ∧ 0 ≤ i ∧ i ≤ n ∧ l.length ≤ 1000 ∧ 0 ≤ k ∧ k ≤ i),
  [⟨.normal, [0, 1, 2, 7], [.v (.sl (.int .i64)), .v (.sl (.int .i64)), .v (.sl (.int .i64)), .v (.int .i64)], fun (a, b, c, k, l, n, i) => (a, b, c, k + cntB (l.drop i.toNat)), fun (a, b, c, k, l, n, i) => none⟩]⟩
noncomputable def ordL.mu  : dens ordL.sh → Nat := fun (a, b, c, k, l, n, i) => (n - i).toNat
noncomputable def ordL.g  (a : List Int) (b : List Int) (c : List Int) (k : Int) (l : List Bool) (n : Int) (i : Int) : Prop := GoodLA Tryd.prog (cfOf []) [] 1000 3 0 ordL ordL.mu (a, b, c, k, l, n, i)
noncomputable def ordL.T (a : List Int) (b : List Int) (c : List Int) (k : Int) (l : List Bool) (n : Int) (i : Int) : Prop := (((True ∧ decide (i < n) = true) ∧ (0 : Int) ≤ i ∧ i < (↑l.length : Int)) ∧ l.getD i.toNat false = true →
  (n = (↑l.length : Int) ∧ (0 : Int) ≤ IntKind.i64.wrap (i + (1 : Int)) ∧ IntKind.i64.wrap (i + (1 : Int)) ≤ n ∧ l.length ≤ (1000 : Nat) ∧ (0 : Int) ≤ IntKind.i64.wrap (k + (1 : Int)) ∧ IntKind.i64.wrap (k + (1 : Int)) ≤ IntKind.i64.wrap (i + (1 : Int))) ∧ ordL.mu (a, b, c, IntKind.i64.wrap (k + (1 : Int)), l, n, IntKind.i64.wrap (i + (1 : Int))) < ordL.mu (a, b, c, k, l, n, i) ∧ (True → True ∧ (a, b, c, IntKind.i64.wrap (k + (1 : Int)) + cntB (List.drop (IntKind.i64.wrap (i + (1 : Int))).toNat l)) = (a, b, c, k + cntB (List.drop i.toNat l))) ∧ True) ∧ (((True ∧ decide (i < n) = true) ∧ (0 : Int) ≤ i ∧ i < (↑l.length : Int)) ∧ l.getD i.toNat false = false →
  (n = (↑l.length : Int) ∧ (0 : Int) ≤ IntKind.i64.wrap (i + (1 : Int)) ∧ IntKind.i64.wrap (i + (1 : Int)) ≤ n ∧ l.length ≤ (1000 : Nat) ∧ (0 : Int) ≤ k ∧ k ≤ IntKind.i64.wrap (i + (1 : Int))) ∧ ordL.mu (a, b, c, k, l, n, IntKind.i64.wrap (i + (1 : Int))) < ordL.mu (a, b, c, k, l, n, i) ∧ (True → True ∧ (a, b, c, k + cntB (List.drop (IntKind.i64.wrap (i + (1 : Int))).toNat l)) = (a, b, c, k + cntB (List.drop i.toNat l))) ∧ True) ∧ ((True ∧ decide (i < n) = true) ∧ ¬((0 : Int) ≤ i ∧ i < (↑l.length : Int)) → False) ∧ (True ∧ decide (i < n) = false → True ∧ (a, b, c, k) = (a, b, c, k + cntB (List.drop i.toNat l))) ∧ (True)
theorem ordL.eq  (a : List Int) (b : List Int) (c : List Int) (k : Int) (l : List Bool) (n : Int) (i : Int) : ordL.g  a b c k l n i = ordL.T  a b c k l n i := by kernel_rfl
theorem ordL.ok  (a : List Int) (b : List Int) (c : List Int) (k : Int) (l : List Bool) (n : Int) (i : Int) (hx : n = l.length ∧ 0 ≤ i ∧ i ≤ n ∧ l.length ≤ 1000 ∧ 0 ≤ k ∧ k ≤ i) : ordL.T  a b c k l n i := by
  obtain ⟨rfl, h1, h2, h3, h4, h5⟩ := hx
  rw [ordL.T]
  by_cases hi : i < (l.length : Int)
  · rw [wrapI64 (x := i + 1) (by omega) (by omega), wrapI64 (x := k + 1) (by omega) (by omega), drop_int false h1 hi, cntB]
    generalize l.getD i.toNat false = b0
    ((repeat' (first | exact trivial | apply And.intro)) <;> (intro hw; (try (simp only [true_and, and_true, decide_eq_true_eq, decide_eq_false_iff_not, beq_iff_eq, bne_iff_ne, beq_eq_false_iff_ne, bne_eq_false_iff_eq, ne_eq, Bool.not_eq_true, Bool.not_eq_false, not_true_eq_false, not_false_eq_true, Bool.not_eq_eq_eq_not, Bool.not_true, Bool.not_false, forall_const, imp_self, Bool.true_eq_false, Bool.false_eq_true, reduceCtorEq] at hw)); (try first | (exfalso; omega) | exact ⟨trivial, rfl⟩ | exact (hw hx).elim | exact (hw.2 hx).elim)))
    all_goals first
      | (exfalso; omega)
      | (rw [if_pos hw.2]; exact ⟨⟨rfl, by omega, by omega, h3, by omega, by omega⟩, by simp only [ordL.mu]; omega, fun _ => ⟨trivial, by rw [Int.add_assoc]⟩, trivial⟩)
      | (rw [if_neg (by rw [hw.2]; exact Bool.false_ne_true), Int.zero_add]; exact ⟨⟨rfl, by omega, by omega, h3, by omega, by omega⟩, by simp only [ordL.mu]; omega, fun _ => ⟨trivial, rfl⟩, trivial⟩)
      | trace_state
  · rw [drop_int_end hi, cntB]
    ((repeat' (first | exact trivial | apply And.intro)) <;> (intro hw; (try (simp only [true_and, and_true, decide_eq_true_eq, decide_eq_false_iff_not, beq_iff_eq, bne_iff_ne, beq_eq_false_iff_ne, bne_eq_false_iff_eq, ne_eq, Bool.not_eq_true, Bool.not_eq_false, not_true_eq_false, not_false_eq_true, Bool.not_eq_eq_eq_not, Bool.not_true, Bool.not_false, forall_const, imp_self, Bool.true_eq_false, Bool.false_eq_true, reduceCtorEq] at hw)); (try first | (exfalso; omega) | exact ⟨trivial, rfl⟩ | exact (hw hx).elim | exact (hw.2 hx).elim)))
    all_goals first
      | (exfalso; omega)
      | exact ⟨trivial, by rw [Int.add_zero]⟩
      | trace_state
theorem ordL.lp   : LpAt Tryd.prog 3 0 ordL := lp_evalH (l := []) (lf := 1000) (fun _ => cfOf_ok (fns_nil _)) (lps_nil _ _) (by kernel_rfl) _ (ordL.mu ) (fun ⟨a, b, c, k, l, n, i⟩ hx => Hid.of (ordL.eq  a b c k l n i) (ordL.ok  a b c k l n i hx))
noncomputable def wordOrder  : Face := ⟨3, [.v (.sl (.int .i64)), .v (.sl (.int .i64)), .v (.sl (.int .i64))], fun (a, b, c) => some (a.length ≤ 1048576 ∧ b.length ≤ 1048576 ∧ c.length ≤ 1048576),
  [⟨false, [.v .bool], fun (a, b, c) => true, fun (a, b, c) => none⟩]⟩
noncomputable def wordOrder.g  (a : List Int) (b : List Int) (c : List Int) : Prop := GoodFA Tryd.prog (cfOf [lessF, sameInt, copyI, wakes]) [(0, ordL)] 1000 wordOrder (a, b, c)
noncomputable def wordOrder.q4 (a : List Int) (b : List Int) : Prop := ((True ∧ a.length ≤ (4000000 : Nat) ∧ b.length ≤ (4000000 : Nat)) ∧ b.length ≤ (4000000 : Nat) ∧ a.length ≤ (4000000 : Nat)) ∧ Int.ofNat (3 : Nat) = (↑(3 : Nat) : Int) ∧ (0 : Int) ≤ (0 : Int) ∧ (0 : Int) ≤ Int.ofNat (3 : Nat) ∧ (3 : Nat) ≤ (1000 : Nat) ∧ (0 : Int) ≤ (0 : Int) ∧ (0 : Int) ≤ (0 : Int)
noncomputable def wordOrder.q1 (a : List Int) (b : List Int) (c : List Int) : Prop := ((wordOrder.q4 a b) ∧ c.length ≤ (4000000 : Nat)) ∧ (c.length + a.length) * (8 : Nat) ≤ (140737488355328 : Nat)
noncomputable def wordOrder.q8 (a : List Int) (b : List Int) (c : List Int) : Prop := ((wordOrder.q1 a b c) ∧ c.length ≤ (4000000 : Nat)) ∧ (c.length + b.length) * (8 : Nat) ≤ (140737488355328 : Nat)
noncomputable def wordOrder.q3 (a : List Int) (b : List Int) (c : List Int) : Prop := ((wordOrder.q8 a b c) ∧ a.length ≤ (4000000 : Nat)) ∧ (a.length + c.length) * (8 : Nat) ≤ (140737488355328 : Nat)
noncomputable def wordOrder.q7 (a : List Int) (b : List Int) (c : List Int) : Prop := (((wordOrder.q3 a b c) ∧ b.length ≤ (4000000 : Nat)) ∧ (b.length + c.length) * (8 : Nat) ≤ (140737488355328 : Nat)) ∧ ((0 : Int) + cntB (List.drop (Int.toNat (0 : Int)) [lessS a b, lessS b a, sameS a b]) == (1 : Int)) = true
noncomputable def wordOrder.q0 (a : List Int) (b : List Int) (c : List Int) : Prop := (wordOrder.q7 a b c) ∧ (c ++ a).length ≤ (4000000 : Nat) ∧ (c ++ b).length ≤ (4000000 : Nat)
noncomputable def wordOrder.q5 (a : List Int) (b : List Int) (c : List Int) : Prop := (((wordOrder.q0 a b c) ∧ a.length ≤ (4000000 : Nat) ∧ b.length ≤ (4000000 : Nat)) ∧ (lessS (c ++ a) (c ++ b) == lessS a b) = true) ∧ (a ++ c).length ≤ (4000000 : Nat) ∧ (b ++ c).length ≤ (4000000 : Nat)
noncomputable def wordOrder.q2 (a : List Int) (b : List Int) (c : List Int) : Prop := (((wordOrder.q5 a b c) ∧ a.length ≤ (4000000 : Nat) ∧ b.length ≤ (4000000 : Nat)) ∧ (lessS (a ++ c) (b ++ c) == lessS a b) = true) ∧ a.length ≤ (4000000 : Nat) ∧ b.length ≤ (4000000 : Nat)
noncomputable def wordOrder.q6 (a : List Int) (b : List Int) (c : List Int) : Prop := ((wordOrder.q2 a b c) ∧ (!lessS a b) = false) ∧ b.length ≤ (4000000 : Nat) ∧ c.length ≤ (4000000 : Nat)
noncomputable def wordOrder.T (a : List Int) (b : List Int) (c : List Int) : Prop := (True ∧ ¬(a.length ≤ (4000000 : Nat) ∧ b.length ≤ (4000000 : Nat)) → False) ∧ ((True ∧ a.length ≤ (4000000 : Nat) ∧ b.length ≤ (4000000 : Nat)) ∧ ¬(b.length ≤ (4000000 : Nat) ∧ a.length ≤ (4000000 : Nat)) → False) ∧ (((True ∧ a.length ≤ (4000000 : Nat) ∧ b.length ≤ (4000000 : Nat)) ∧ b.length ≤ (4000000 : Nat) ∧ a.length ≤ (4000000 : Nat)) ∧ ¬(Int.ofNat (3 : Nat) = (↑(3 : Nat) : Int) ∧ (0 : Int) ≤ (0 : Int) ∧ (0 : Int) ≤ Int.ofNat (3 : Nat) ∧ (3 : Nat) ≤ (1000 : Nat) ∧ (0 : Int) ≤ (0 : Int) ∧ (0 : Int) ≤ (0 : Int)) → False) ∧ ((wordOrder.q4 a b) ∧ ¬c.length ≤ (4000000 : Nat) → False) ∧ ((wordOrder.q1 a b c) ∧ ¬c.length ≤ (4000000 : Nat) → False) ∧ ((wordOrder.q8 a b c) ∧ ¬a.length ≤ (4000000 : Nat) → False) ∧ ((wordOrder.q3 a b c) ∧ ¬b.length ≤ (4000000 : Nat) → False) ∧ ((wordOrder.q7 a b c) ∧ ¬((c ++ a).length ≤ (4000000 : Nat) ∧ (c ++ b).length ≤ (4000000 : Nat)) → False) ∧ ((wordOrder.q0 a b c) ∧ ¬(a.length ≤ (4000000 : Nat) ∧ b.length ≤ (4000000 : Nat)) → False) ∧ ((((wordOrder.q0 a b c) ∧ a.length ≤ (4000000 : Nat) ∧ b.length ≤ (4000000 : Nat)) ∧ (lessS (c ++ a) (c ++ b) == lessS a b) = true) ∧ ¬((a ++ c).length ≤ (4000000 : Nat) ∧ (b ++ c).length ≤ (4000000 : Nat)) → False) ∧ ((wordOrder.q5 a b c) ∧ ¬(a.length ≤ (4000000 : Nat) ∧ b.length ≤ (4000000 : Nat)) → False) ∧ ((((wordOrder.q5 a b c) ∧ a.length ≤ (4000000 : Nat) ∧ b.length ≤ (4000000 : Nat)) ∧ (lessS (a ++ c) (b ++ c) == lessS a b) = true) ∧ ¬(a.length ≤ (4000000 : Nat) ∧ b.length ≤ (4000000 : Nat)) → False) ∧ ((wordOrder.q2 a b c) ∧ (!lessS a b) = true → True ∧ true = true) ∧ (((wordOrder.q2 a b c) ∧ (!lessS a b) = false) ∧ ¬(b.length ≤ (4000000 : Nat) ∧ c.length ≤ (4000000 : Nat)) → False) ∧ ((wordOrder.q6 a b c) ∧ (!lessS b c) = true → True ∧ true = true) ∧ (((wordOrder.q6 a b c) ∧ (!lessS b c) = false) ∧ ¬(a.length ≤ (4000000 : Nat) ∧ c.length ≤ (4000000 : Nat)) → False) ∧ ((((wordOrder.q6 a b c) ∧ (!lessS b c) = false) ∧ a.length ≤ (4000000 : Nat) ∧ c.length ≤ (4000000 : Nat)) ∧ lessS a c = true → True ∧ true = true) ∧ ((((wordOrder.q6 a b c) ∧ (!lessS b c) = false) ∧ a.length ≤ (4000000 : Nat) ∧ c.length ≤ (4000000 : Nat)) ∧ lessS a c = false → True ∧ false = true) ∧ (((wordOrder.q5 a b c) ∧ a.length ≤ (4000000 : Nat) ∧ b.length ≤ (4000000 : Nat)) ∧ (lessS (a ++ c) (b ++ c) == lessS a b) = false → True ∧ false = true) ∧ (((wordOrder.q0 a b c) ∧ a.length ≤ (4000000 : Nat) ∧ b.length ≤ (4000000 : Nat)) ∧ (lessS (c ++ a) (c ++ b) == lessS a b) = false → True ∧ false = true) ∧ ((((wordOrder.q3 a b c) ∧ b.length ≤ (4000000 : Nat)) ∧ (b.length + c.length) * (8 : Nat) ≤ (140737488355328 : Nat)) ∧ ((0 : Int) + cntB (List.drop (Int.toNat (0 : Int)) [lessS a b, lessS b a, sameS a b]) == (1 : Int)) = false → True ∧ false = true) ∧ (((wordOrder.q3 a b c) ∧ b.length ≤ (4000000 : Nat)) ∧ ¬(b.length + c.length) * (8 : Nat) ≤ (140737488355328 : Nat) → False) ∧ (((wordOrder.q8 a b c) ∧ a.length ≤ (4000000 : Nat)) ∧ ¬(a.length + c.length) * (8 : Nat) ≤ (140737488355328 : Nat) → False) ∧ (((wordOrder.q1 a b c) ∧ c.length ≤ (4000000 : Nat)) ∧ ¬(c.length + b.length) * (8 : Nat) ≤ (140737488355328 : Nat) → False) ∧ (((wordOrder.q4 a b) ∧ c.length ≤ (4000000 : Nat)) ∧ ¬(c.length + a.length) * (8 : Nat) ≤ (140737488355328 : Nat) → False) ∧ (True)
theorem wordOrder.eq  (a : List Int) (b : List Int) (c : List Int) : wordOrder.g  a b c = wordOrder.T  a b c := by kernel_rfl
theorem wordOrder.ok  (a : List Int) (b : List Int) (c : List Int) (hx : a.length ≤ 1048576 ∧ b.length ≤ 1048576 ∧ c.length ≤ 1048576) : wordOrder.T  a b c := by
  obtain ⟨h1, h2, h3⟩ := hx
  have hcnt : 0 + cntB [lessS a b, lessS b a, sameS a b] = 1 := by
    have h := lessS_one a b
    simp only [cntB]
    have e : (sameS a b = true) = (a = b) := propext sameS_iff
    simp only [e]
    omega
  delta wordOrder.T wordOrder.q4 wordOrder.q1 wordOrder.q8 wordOrder.q3 wordOrder.q7 wordOrder.q0 wordOrder.q5 wordOrder.q2 wordOrder.q6
  simp only [show Int.toNat 0 = 0 from rfl, List.drop_zero, hcnt, lessS_pre, lessS_suf, List.length_append]
  ((repeat' (first | exact trivial | apply And.intro)) <;> (intro hw; (try (simp only [true_and, and_true, decide_eq_true_eq, decide_eq_false_iff_not, beq_iff_eq, bne_iff_ne, beq_eq_false_iff_ne, bne_eq_false_iff_eq, ne_eq, Bool.not_eq_true, Bool.not_eq_false, not_true_eq_false, not_false_eq_true, Bool.not_eq_eq_eq_not, Bool.not_true, Bool.not_false, forall_const, imp_self, Bool.true_eq_false, Bool.false_eq_true, reduceCtorEq] at hw)); (try first | (exfalso; omega) | exact ⟨trivial, rfl⟩ | exact (hw hx).elim | exact (hw.2 hx).elim)))
  all_goals first
    | (exfalso; omega)
    | exact hw.2 ⟨rfl, by decide, by decide, by decide, by decide, by decide⟩
    | exact ⟨trivial, trivial⟩
    | exact hw.2.elim
    | (exfalso; have e1 := hw.1.1.1.1.2; have e2 := hw.1.1.2; have e3 := hw.2; rw [lessS_trans a b c e1 e2] at e3; cases e3)
    | trace_state
theorem wordOrder.fn   : FnOk Tryd.prog wordOrder := fn_evalH (l := [(0, ordL)]) (lf := 1000) (fun _ => cfOf_ok (fns_cons lessF.fn (fns_cons sameInt.fn (fns_cons copyI.fn (fns_cons wakes.fn (fns_nil _)))))) _ (lps_cons (ordL.lp) (lps_nil _ _)) (by kernel_rfl) (fun ⟨a, b, c⟩ hx => Hid.of (wordOrder.eq  a b c) (wordOrder.ok  a b c hx))
theorem wordOrder_pre (a b c : List Int) (h0 : rng (.sl (.int .i64)) a) (h1 : rng (.sl (.int .i64)) b) (h2 : rng (.sl (.int .i64)) c) (z0 : a.length ≤ 1048576) (z1 : b.length ≤ 1048576) (z2 : c.length ≤ 1048576) : holds (wordOrder.pre (a, b, c)) := ⟨z0, z1, z2⟩
end Go.Proofs.YtiaimendiblgfaaDoor.D
