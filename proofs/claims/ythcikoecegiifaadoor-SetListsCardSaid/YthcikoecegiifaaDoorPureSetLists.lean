/- SetLists, in plain Lean: whatever the list and the turns: true. -/
import Derived.Test.YthcikoecegiifaaDoorPureSetSplits
namespace Go.Proofs.YthcikoecegiifaaDoor.X
open Go Go.XW Go.RowKit

def SameAs (m l : List Int) : Prop := m.length = l.length ∧ ∀ x, x ∈ m ↔ x ∈ l
theorem mem_getD (m : List Int) (i : Nat) (h : i < m.length) : m.getD i 0 ∈ m := by
  have : m.getD i 0 = m[i] := by simp [List.getD, List.getElem?_eq_getElem h]
  rw [this]; exact List.getElem_mem h
theorem swap_same (m l : List Int) (i j : Nat) (hi : i < m.length) (hj : j < m.length) (h : SameAs m l) : SameAs ((m.set i (m.getD j 0)).set j (m.getD i 0)) l := by
  refine ⟨by rw [List.length_set, List.length_set]; exact h.1, fun x => ?_⟩
  rw [← h.2 x]
  have gi : m.getD i 0 = m[i] := by simp [List.getD, List.getElem?_eq_getElem hi]
  have gj : m.getD j 0 = m[j] := by simp [List.getD, List.getElem?_eq_getElem hj]
  rw [gi, gj]
  constructor
  · intro hx
    rcases List.mem_or_eq_of_mem_set hx with h1 | h1
    · rcases List.mem_or_eq_of_mem_set h1 with h2 | h2
      · exact h2
      · rw [h2]; exact List.getElem_mem hj
    · rw [h1]; exact List.getElem_mem hi
  · intro hx
    obtain ⟨p, hp, rfl⟩ := List.mem_iff_getElem.1 hx
    have hlen : ((m.set i m[j]).set j m[i]).length = m.length := by rw [List.length_set, List.length_set]
    by_cases h1 : p = i
    · subst h1
      refine List.mem_iff_getElem.2 ⟨j, by omega, ?_⟩
      rw [List.getElem_set_self]
    · by_cases h2 : p = j
      · subst h2
        refine List.mem_iff_getElem.2 ⟨i, by omega, ?_⟩
        rw [List.getElem_set_ne (by omega), List.getElem_set_self]
      · refine List.mem_iff_getElem.2 ⟨p, by omega, ?_⟩
        rw [List.getElem_set_ne (by omega), List.getElem_set_ne (by omega)]
theorem swaps (a0 a1 : List Int) (h0 : a0.length ≤ 17592186044416) (h1 : ∀ x ∈ a1, -9223372036854775808 ≤ x ∧ x ≤ 9223372036854775807) (K : Int → List Int → Option Bool) : ∀ (q i k : Nat) (m : List Int), i + q = 10 → q < k → SameAs m a0 →
    ∃ x' m', SameAs m' a0 ∧ exegetelaw02_SetLists.l0 a0 a1 K k ((2 * i : Nat) : Int) m = K x' m'
  | q, i, 0, m, _, hk, _ => by omega
  | q, i, k + 1, m, hi, hk, hm => by
    have e1 : IntKind.i64.wrap (((2 * i : Nat) : Int) + 1) = ((2 * i + 1 : Nat) : Int) := by rw [IntKind.wrap_i64]; omega
    have e2 : IntKind.i64.wrap (((2 * i : Nat) : Int) + 2) = ((2 * (i + 1) : Nat) : Int) := by rw [IntKind.wrap_i64]; omega
    rw [exegetelaw02_SetLists.l0, jn_eq]
    simp only [e1, e2, List.nil_append]
    by_cases c1 : 2 * i + 1 < a1.length
    · rw [if_pos (by simpa using Int.ofNat_lt.2 c1)]
      by_cases c2 : 2 * i < 20
      · rw [if_pos (decide_eq_true (show ((2 * i : Nat) : Int) < 20 by omega))]
        by_cases c3 : 0 < a0.length
        · rw [if_pos (decide_eq_true (show (a0.length : Int) > 0 by omega))]
          have g1 := h1 _ (mem_getD a1 (2 * i) (by omega))
          have g2 := h1 _ (mem_getD a1 (2 * i + 1) c1)
          obtain ⟨t, ht, ht0, ht1⟩ := within_eq (a1.getD (2 * i) 0) (a0.length : Int) g1 (by omega)
          obtain ⟨u, hu, hu0, hu1⟩ := within_eq (a1.getD (2 * i + 1) 0) (a0.length : Int) g2 (by omega)
          rw [chk_eq _ ⟨by omega, by omega⟩, chk_eq _ ⟨by omega, by omega⟩, lt_eq, Int.toNat_natCast, Int.toNat_natCast, ht]
          show ∃ x' m', _ ∧ (exegetekeep_Within.f _ _).bind _ = _
          rw [hu]
          show ∃ x' m', _ ∧ chk _ _ = _
          rw [chk_eq _ ⟨by omega, by omega⟩, chk_eq _ ⟨by omega, by omega⟩]
          have hml := hm.1
          exact swaps a0 a1 h0 h1 K (q - 1) (i + 1) k _ (by omega) (by omega) (swap_same m a0 t.toNat u.toNat (by omega) (by omega) hm)
        · rw [if_neg (fun h => by have := of_decide_eq_true h; omega)]
          exact ⟨_, m, hm, rfl⟩
      · rw [if_neg (fun h => by have := of_decide_eq_true h; omega), if_neg (by decide)]
        exact ⟨_, m, hm, rfl⟩
    · rw [if_neg (by simp; omega), if_neg (by decide)]
      exact ⟨_, m, hm, rfl⟩
theorem all_loop (K : Int → Int → Option Bool) : ∀ (q i k : Nat), i + q = 64 → q < k → exegetelaw02_SetLists.l3 K k ((2 ^ i - 1 : Nat) : Int) (i : Int) = K 18446744073709551615 64
  | q, i, 0, _, hk => by omega
  | q, i, k + 1, hi, hk => by
    rw [exegetelaw02_SetLists.l3]
    by_cases h : i < 64
    · have hp : 2 ^ i - 1 < 18446744073709551616 := by
        have : 2 ^ i < 2 ^ 64 := Nat.pow_lt_pow_right (by decide) h
        omega
      rw [if_pos (by simp; omega), with_eq _ hp]
      have e : (2 ^ i - 1) ||| dg (i : Int) = 2 ^ (i + 1) - 1 := by
        apply ext64
        intro j
        rw [Nat.testBit_or, Nat.testBit_two_pow_sub_one, dg_bit, Nat.testBit_two_pow_sub_one, ← Bool.decide_or, decide_eq_decide]
        omega
      have e2 : IntKind.i64.wrap ((i : Int) + 1) = ((i + 1 : Nat) : Int) := by rw [IntKind.wrap_i64]; omega
      show exegetelaw02_SetLists.l3 K k _ _ = _
      rw [e, e2]
      exact all_loop K (q - 1) (i + 1) k (by omega) (by omega)
    · obtain rfl : i = 64 := by omega
      rw [if_neg (by decide)]
      rfl
theorem writes_loop (x : List Int) (R : Option Bool) : ∀ (q i k : Nat) (m : List Int), i + q = x.length → x.length ≤ 64 → q < k → exegetelaw02_SetLists.l2 x (fun _ _ => R) k (i : Int) m = R
  | q, i, 0, _, _, _, hk => by omega
  | q, i, k + 1, m, hi, hl, hk => by
    rw [exegetelaw02_SetLists.l2]
    by_cases h : i < x.length
    · have e2 : IntKind.i64.wrap ((i : Int) + 1) = ((i + 1 : Nat) : Int) := by rw [IntKind.wrap_i64]; omega
      rw [if_pos (by simpa using Int.ofNat_lt.2 h), chk_eq _ ⟨by omega, by omega⟩, e2]
      exact writes_loop x R (q - 1) (i + 1) k _ (by omega) hl (by omega)
    · rw [if_neg (by simp; omega)]
theorem check_loop (s : Nat) (hs : s < 18446744073709551616) (K : Bool → Option Bool) (b : Bool) : ∀ (es : List Int) (j : Nat), (listN s).drop j = es → exegetelaw02_SetLists.l1 (s : Int) (listN s) K es j b = K b
  | [], j, _ => by rw [exegetelaw02_SetLists.l1]
  | e :: es, j, h => by
    have hl : (listN s).length ≤ 64 := by rw [listN_length]; exact pop_le 64 s
    have hj : j < (listN s).length := by
      apply Classical.byContradiction
      intro hn
      rw [List.drop_of_length_le (by omega)] at h
      cases h
    have hd : (listN s)[j] :: (listN s).drop (j + 1) = e :: es := by rw [← List.drop_eq_getElem_cons hj, h]
    obtain ⟨he, hes⟩ := List.cons.inj hd
    have hm : e ∈ listN s := by rw [← he]; exact List.getElem_mem hj
    have hr := listN_range s e hm
    have hh := (mem_listN s e).1 hm
    have ih := check_loop s hs K b es (j + 1) hes
    rw [exegetelaw02_SetLists.l1, jn_eq, if_neg (by simp; omega), if_neg (by simp; omega), has_eq s hs, hh]
    by_cases h0 : 0 < j
    · have e1 : IntKind.i64.wrap ((j : Int) - 1) = ((j - 1 : Nat) : Int) := by rw [IntKind.wrap_i64]; omega
      have g : (listN s).getD (j - 1) 0 = (listN s)[j - 1] := by simp [List.getD, List.getElem?_eq_getElem (show j - 1 < (listN s).length by omega)]
      have hlt : (listN s)[j - 1] < e := by
        rw [← he]
        exact List.pairwise_iff_getElem.1 (listN_rising s) (j - 1) j (by omega) hj (by omega)
      rw [if_pos (by simp; omega), e1, chk_eq _ ⟨by omega, by omega⟩, Int.toNat_natCast, g, if_neg (by simp; omega), lt_eq]
      simp only [Option.bind_some, Bool.not_true, Bool.false_eq_true, if_false]
      exact ih
    · rw [if_neg (by simp; omega)]
      simp only [Option.bind_some, Bool.not_true, Bool.false_eq_true, if_false]
      exact ih
/-- **SetLists**, whatever comes in. -/
theorem setLists_pure (l turns : List Int) (_ : ∀ x ∈ l, IntKind.i64.min ≤ x ∧ x ≤ IntKind.i64.max) (hl : l.length * 8 ≤ 140737488351232) (ht : ∀ x ∈ turns, IntKind.i64.min ≤ x ∧ x ≤ IntKind.i64.max) (_ : turns.length * 8 ≤ 140737488351232) :
    exegetelaw02_SetLists.f 100 l turns = some true := by
  have hF : 64 < 100 := by decide
  obtain ⟨s, es⟩ : ∃ s, s = ofN l 0 := ⟨_, rfl⟩
  have hs : s < 18446744073709551616 := by rw [es]; exact of_lt l
  have hx : (listN s).length ≤ 64 := by rw [listN_length]; exact pop_le 64 s
  rw [exegetelaw02_SetLists.f, chk_eq _ (by rw [List.length_nil]; omega), jn_eq, List.nil_append]
  obtain ⟨x', m, hm, hsw⟩ := swaps l turns (by omega) ht (fun _ y => (fun (x5 : List Int) => _) y) 10 0 100 l rfl (by decide) ⟨rfl, fun _ => Iff.rfl⟩
  rw [show ((2 * 0 : Nat) : Int) = 0 from rfl] at hsw
  rw [hsw]
  have wl := fun R m => writes_loop (listN s) R (listN s).length 0 100 m (by omega) hx (by omega)
  have al := fun K => all_loop K 64 0 100 rfl (by decide)
  rw [show ((0 : Nat) : Int) = 0 from rfl] at wl
  rw [show ((0 : Nat) : Int) = 0 from rfl] at al
  have bs : ∀ {α β : Type} (x : α) (f : α → Option β), (some x).bind f = f x := fun x f => by cases h : f x <;> simp [h]
  rw [of_eq l, ← es, bs, list_eq 100 hF s hs, bs]
  have cl := fun K => check_loop s hs K false (listN s) 0 List.drop_zero
  rw [jn_eq, cl, jn_eq, wl, of_eq, bs, jn_eq, show ((ofN ([] : List Int) 0 : Nat) : Int) = 0 from rfl, al]
  obtain ⟨A, hA⟩ : ∃ A : Nat, A = 2 ^ 64 - 1 := ⟨_, rfl⟩
  have hall : (18446744073709551615 : Int) = (A : Int) := by rw [hA]; rfl
  have ha : A < 18446744073709551616 := by omega
  have hab : ∀ i, A.testBit i = decide (i < 64) := fun i => by rw [hA, Nat.testBit_two_pow_sub_one]
  have m1 : ofN m 0 = s := by
    rw [es]; apply ext64; intro i
    rw [of_bit, of_bit, decide_eq_decide, hm.2]
  have m2 : ofN (m ++ [64, (-1), 1099511627776]) 0 = s := by
    rw [es]; apply ext64; intro i
    rw [of_bit, of_bit, decide_eq_decide, List.mem_append, hm.2]
    constructor
    · rintro ⟨h1, h2 | h2⟩
      · exact ⟨h1, h2⟩
      · simp only [List.mem_cons, List.not_mem_nil, or_false] at h2
        omega
    · rintro ⟨h1, h2⟩
      exact ⟨h1, .inl h2⟩
  have p1 : pop 64 A = 64 := by rw [hA]; decide +kernel
  have hle := lessN_lt A s ha
  have q1 : lessN s A = 0 := (lessN_zero hs ha).2 (fun i hi => by
    rw [hab, decide_eq_true_eq]
    apply Classical.byContradiction
    intro hn
    rw [testBit_ge s i hs (by omega)] at hi
    cases hi)
  have q2 : pop 64 (lessN A s) + pop 64 s = 64 := by
    have := pop_or_and 64 (lessN A s) s
    have e1 : lessN A s ||| s = A := by
      apply ext64; intro i
      rw [Nat.testBit_or, lessN_testBit _ s i ha hs, hab]
      by_cases hi : i < 64
      · simp [hi]
      · rw [testBit_ge s i hs (by omega)]; simp
    have e2 : lessN A s &&& s = 0 := by
      apply ext64; intro i
      rw [Nat.testBit_and, lessN_testBit _ s i ha hs, Nat.zero_testBit]
      cases s.testBit i <;> simp
    have p0 : pop 64 0 = 0 := by decide +kernel
    rw [e1, e2, p1, p0] at this
    omega
  have q3 : ((pop 64 (lessN A s) : Nat) : Int) = IntKind.i64.wrap (64 - ((pop 64 s : Nat) : Int)) := by
    rw [IntKind.wrap_i64]; omega
  have c1 : m.length + ([64, (-1), 1099511627776] : List Int).length ≤ 17592186044416 := by rw [hm.1]; simp; omega
  rw [hall]
  dsimp only
  rw [of_eq m, bs, m1, if_pos (beq_self_eq_true _), chk_eq _ c1, of_eq, bs, m2, if_pos (beq_self_eq_true _), bs, count_eq s hs, bs, listN_length, if_pos (beq_self_eq_true _), count_eq A ha, bs, p1, if_pos (by rfl), in_eq s A hs ha, bs, q1, if_pos (by rfl), less_eq A s ha hs, bs, count_eq _ hle, bs, bs, q3, if_pos (beq_self_eq_true _), wakes_eq 100 hF]
  rfl
end Go.Proofs.YthcikoecegiifaaDoor.X
