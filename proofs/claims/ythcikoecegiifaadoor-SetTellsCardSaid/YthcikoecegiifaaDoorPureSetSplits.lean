/- SetSplits, in plain Lean: whatever the lists and the cut: true. -/
import Derived.Test.YthcikoecegiifaaDoorXSet2
namespace Go.Proofs.YthcikoecegiifaaDoor.X
open Go Go.XW Go.RowKit

/-- Two rising lists of the same numbers are the same. -/
theorem rising_ext : ∀ (l m : List Int), l.Pairwise (· < ·) → m.Pairwise (· < ·) → (∀ x, x ∈ l ↔ x ∈ m) → l = m
  | [], [], _, _, _ => rfl
  | [], b :: m, _, _, h => absurd ((h b).2 (by simp)) (by simp)
  | a :: l, [], _, _, h => absurd ((h a).1 (by simp)) (by simp)
  | a :: l, b :: m, hl, hm, h => by
    rw [List.pairwise_cons] at hl hm
    have e : a = b := by
      have h1 := (h a).1 (by simp)
      have h2 := (h b).2 (by simp)
      rw [List.mem_cons] at h1 h2
      rcases h1 with h1 | h1
      · exact h1
      · rcases h2 with h2 | h2
        · exact h2.symm
        · have := hl.1 b h2; have := hm.1 a h1; omega
    subst e
    rw [rising_ext l m hl.2 hm.2 (fun x => ?_)]
    constructor
    · intro hx
      have h1 := (h x).1 (by simp [hx])
      rw [List.mem_cons] at h1
      rcases h1 with rfl | h1
      · have := hl.1 x hx; omega
      · exact h1
    · intro hx
      have h1 := (h x).2 (by simp [hx])
      rw [List.mem_cons] at h1
      rcases h1 with rfl | h1
      · have := hm.1 x hx; omega
      · exact h1
theorem listN_rising (s : Nat) : (listN s).Pairwise (· < ·) := by
  unfold listN toInts
  rw [List.pairwise_map]
  exact (ones_sorted 64 0 s).imp (fun h => Int.ofNat_lt.2 h)
theorem listN_range (s : Nat) : ∀ n ∈ listN s, 0 ≤ n ∧ n < 64 := fun n hn => by
  have := (mem_listN s n).1 hn
  simp only [has, Bool.and_eq_true, decide_eq_true_eq] at this
  exact this.1
theorem has_of (l : List Int) (n : Int) : has (ofN l 0) n = decide ((0 ≤ n ∧ n < 64) ∧ n ∈ l) := by
  unfold has
  rw [of_bit, ← Bool.decide_and, decide_eq_decide]
  constructor
  · rintro ⟨h1, h2, h3⟩
    exact ⟨h1, by rwa [Int.toNat_of_nonneg h1.1] at h3⟩
  · rintro ⟨h1, h2⟩
    exact ⟨h1, by omega, by rwa [Int.toNat_of_nonneg h1.1]⟩
/-- A rising list of such numbers is the list of its set. -/
theorem listN_of (l : List Int) (h : l.Pairwise (· < ·)) (hr : ∀ n ∈ l, 0 ≤ n ∧ n < 64) : listN (ofN l 0) = l :=
  rising_ext _ _ (listN_rising _) h (fun n => by
    rw [mem_listN, has_of, decide_eq_true_eq]
    exact ⟨fun h => h.2, fun h => ⟨hr n h, h⟩⟩)
theorem lessN_zero {a b : Nat} (ha : a < 18446744073709551616) (hb : b < 18446744073709551616) : lessN a b = 0 ↔ ∀ i, a.testBit i = true → b.testBit i = true := by
  constructor
  · intro h i hi
    have := lessN_testBit a b i ha hb
    rw [h, Nat.zero_testBit, hi] at this
    simpa using this.symm
  · intro h
    apply ext64
    intro i
    rw [lessN_testBit a b i ha hb, Nat.zero_testBit]
    cases hi : a.testBit i
    · rfl
    · rw [h i hi]; rfl
/-- **SetSplits**, whatever comes in. -/
theorem setSplits_pure (l m : List Int) (cut : Int) (_ : ∀ x ∈ l, IntKind.i64.min ≤ x ∧ x ≤ IntKind.i64.max) (_ : l.length * 8 ≤ 140737488351232) (_ : ∀ x ∈ m, IntKind.i64.min ≤ x ∧ x ≤ IntKind.i64.max) (_ : m.length * 8 ≤ 140737488351232) (hn : IntKind.i64.min ≤ cut ∧ cut ≤ IntKind.i64.max) :
    exegetelaw02_SetSplits.f 100 l m cut = some true := by
  have hn' : -9223372036854775808 ≤ cut ∧ cut ≤ 9223372036854775807 := hn
  have hF : 64 < 100 := by decide
  obtain ⟨s, es⟩ : ∃ s, s = ofN l 0 := ⟨_, rfl⟩
  obtain ⟨t, et⟩ : ∃ t, t = ofN m 0 := ⟨_, rfl⟩
  have hs : s < 18446744073709551616 := by rw [es]; exact of_lt l
  have ht : t < 18446744073709551616 := by rw [et]; exact of_lt m
  obtain ⟨x, ex⟩ : ∃ x, x = listN s := ⟨_, rfl⟩
  have hxl : x.length ≤ 64 := by rw [ex, listN_length]; exact pop_le 64 s
  have ew : IntKind.i64.wrap ((x.length : Int) + 1) = ((x.length + 1 : Nat) : Int) := by rw [← Int.natCast_succ, wrap_i64_nat _ (by omega)]
  obtain ⟨k, hk, hk0, hk1⟩ := within_eq cut ((x.length + 1 : Nat) : Int) hn' (by omega)
  obtain ⟨k, rfl⟩ : ∃ j : Nat, k = j := ⟨k.toNat, by omega⟩
  have hkx : k ≤ x.length := by omega
  rw [exegetelaw02_SetSplits.f, of_eq, of_eq, ← es, ← et]
  simp only [Option.bind_some, list_eq 100 hF s hs, ← ex, ew, hk, of_eq]
  rw [chk_eq _ ⟨by decide, by omega, by omega⟩, chk_eq _ ⟨by omega, by omega, by omega⟩]
  simp only [Int.toNat_natCast, Int.toNat_zero, List.drop_zero, List.take_length]
  obtain ⟨a, ea⟩ : ∃ a, a = ofN (x.take k) 0 := ⟨_, rfl⟩
  obtain ⟨b, eb⟩ : ∃ b, b = ofN (x.drop k) 0 := ⟨_, rfl⟩
  have ha : a < 18446744073709551616 := by rw [ea]; exact of_lt _
  have hb : b < 18446744073709551616 := by rw [eb]; exact of_lt _
  have hsx : s = ofN x 0 := by rw [ex, of_list s hs]
  have hx : x.Pairwise (· < ·) := by rw [ex]; exact listN_rising s
  have hxr : ∀ n ∈ x, 0 ≤ n ∧ n < 64 := by rw [ex]; exact listN_range s
  have hbits : ∀ i, s.testBit i = (a.testBit i || b.testBit i) := fun i => by
    rw [hsx, ea, eb, of_bit, of_bit, of_bit, ← Bool.decide_or, decide_eq_decide]
    have : (i : Int) ∈ x ↔ (i : Int) ∈ x.take k ∨ (i : Int) ∈ x.drop k := by rw [← List.mem_append, List.take_append_drop]
    rw [this]
    constructor
    · rintro ⟨h1, h2 | h2⟩
      · exact .inl ⟨h1, h2⟩
      · exact .inr ⟨h1, h2⟩
    · rintro (⟨h1, h2⟩ | ⟨h1, h2⟩)
      · exact ⟨h1, .inl h2⟩
      · exact ⟨h1, .inr h2⟩
  have d1 : a ||| b = s := ext64 (fun i => by rw [Nat.testBit_or, hbits])
  have d2 : a &&& b = 0 := by
    apply ext64
    intro i
    rw [Nat.testBit_and, Nat.zero_testBit, ea, eb, of_bit, of_bit, ← Bool.decide_and, decide_eq_false_iff_not]
    rintro ⟨⟨_, h1⟩, _, h2⟩
    have hp := hx
    rw [← List.take_append_drop k x, List.pairwise_append] at hp
    have := hp.2.2 _ h1 _ h2
    omega
  have d3 : pop 64 a = k := by
    rw [← listN_length, ea, listN_of _ (hx.sublist (List.take_sublist k x)) (fun n hn => hxr n (List.mem_of_mem_take hn)), List.length_take]
    omega
  have d4 : lessN a s = 0 := (lessN_zero ha hs).2 (fun i hi => by rw [hbits, hi]; rfl)
  have d5 : lessN b s = 0 := (lessN_zero hb hs).2 (fun i hi => by rw [hbits, hi]; simp)
  have hE : ofN ([] : List Int) 0 = 0 := rfl
  rw [← ea, ← eb, jn_eq]
  simp only [Option.bind_some, join_eq a b ha hb, both_eq a b ha hb, hE, count_eq a ha, in_eq a s ha hs, in_eq b s hb hs, d1, d2, d3, d4, d5]
  have o1 := lessN_lt s t hs
  have o2 := lessN_lt t s ht
  have o3 := and_lt64 s t hs
  have o4 := or_lt64 _ _ o1 o2
  have g1 : lessN s t ||| lessN t s ||| (s &&& t) = s ||| t := by
    apply ext64; intro i
    simp only [Nat.testBit_and, Nat.testBit_or, lessN_testBit s t i hs ht, lessN_testBit t s i ht hs]
    cases s.testBit i <;> cases t.testBit i <;> rfl
  have g2 : lessN s t &&& lessN t s = 0 := by
    apply ext64; intro i
    simp only [Nat.testBit_and, Nat.zero_testBit, lessN_testBit s t i hs ht, lessN_testBit t s i ht hs]
    cases s.testBit i <;> cases t.testBit i <;> rfl
  have g3 : lessN s t &&& (s &&& t) = 0 := by
    apply ext64; intro i
    simp only [Nat.testBit_and, Nat.zero_testBit, lessN_testBit s t i hs ht]
    cases s.testBit i <;> cases t.testBit i <;> rfl
  have g4 : lessN t s &&& (s &&& t) = 0 := by
    apply ext64; intro i
    simp only [Nat.testBit_and, Nat.zero_testBit, lessN_testBit t s i ht hs]
    cases s.testBit i <;> cases t.testBit i <;> rfl
  have g5 : ((lessN s t == 0) == (((lessN s t : Nat) : Int) == ((0 : Nat) : Int))) = true := by
    rw [beq_iff_eq, Bool.eq_iff_iff, beq_iff_eq, beq_iff_eq]; omega
  have g6 : s = t ↔ lessN s t = 0 ∧ lessN t s = 0 := by
    rw [lessN_zero hs ht, lessN_zero ht hs]
    constructor
    · rintro rfl; exact ⟨fun _ h => h, fun _ h => h⟩
    · rintro ⟨h1, h2⟩
      apply ext64; intro i
      rw [Bool.eq_iff_iff]
      exact ⟨h1 i, h2 i⟩
  simp only [Option.bind_some, less_eq s t hs ht, less_eq t s ht hs, both_eq s t hs ht, join_eq _ _ o1 o2, join_eq _ _ o4 o3, join_eq s t hs ht, both_eq _ _ o1 o2, both_eq _ _ o1 o3, both_eq _ _ o2 o3, in_eq s t hs ht, in_eq t s ht hs, g1, g2, g3, g4, g5, wakes_eq 100 hF]
  by_cases hst : s = t
  · have h6 := g6.1 hst
    simp [hst] at *
    simp [h6]
  · by_cases h1 : lessN s t = 0
    · have h2 : lessN t s ≠ 0 := fun h => hst (g6.2 ⟨h1, h⟩)
      have h3 : ((s : Int) == (t : Int)) = false := by rw [beq_eq_false_iff_ne]; omega
      simp [h1, h2, h3]
    · have h3 : ((s : Int) == (t : Int)) = false := by rw [beq_eq_false_iff_ne]; omega
      simp [h1, h3]
end Go.Proofs.YthcikoecegiifaaDoor.X
