/- SetTells, in plain Lean: whatever the lists and the number: true. -/
import Derived.Test.YthcikoecegiifaaDoorPureSetSplits
import Derived.Test.YthcikoecegiifaaDoorXH
namespace Go.Proofs.YthcikoecegiifaaDoor.X
open Go Go.XW Go.RowKit

theorem set_getD (x : List Bool) (e i : Nat) (h : e < x.length) : (x.set e true).getD i false = (x.getD i false || decide (i = e)) := by
  simp only [List.getD, List.getElem?_set]
  by_cases he : e = i
  · subst he; simp [h]
  · have : ¬ (i = e) := fun h => he h.symm
    simp [he, this]
theorem bs {α β : Type} (x : α) (f : α → Option β) : (some x).bind f = f x := by cases h : f x <;> simp [h]
theorem tells_l0 (K : List Bool → Option Bool) : ∀ (es : List Int) (x : List Bool), x.length = 64 →
    ∃ y, exegetelaw02_SetTells.l0 K es x = K y ∧ y.length = 64 ∧ ∀ i : Nat, i < 64 → y.getD i false = (x.getD i false || decide ((i : Int) ∈ es))
  | [], x, hx => ⟨x, by rw [exegetelaw02_SetTells.l0], hx, fun i _ => by simp⟩
  | e :: es, x, hx => by
    rw [exegetelaw02_SetTells.l0, jn_eq]
    by_cases h0 : e ≥ 0
    · rw [if_pos (decide_eq_true h0)]
      by_cases h1 : e < 64
      · obtain ⟨y, hy, hl, hg⟩ := tells_l0 K es (x.set e.toNat true) (by rw [List.length_set]; exact hx)
        refine ⟨y, ?_, hl, fun i hi => ?_⟩
        · show (if decide (e < 64) = true then _ else _) = _
          rw [if_pos (decide_eq_true h1), chk_eq _ ⟨h0, by omega⟩]; exact hy
        · rw [hg i hi, set_getD x e.toNat i (by omega), Bool.or_assoc]
          congr 1
          rw [← Bool.decide_or, decide_eq_decide, List.mem_cons]
          constructor
          · rintro (h | h)
            · exact .inl (by omega)
            · exact .inr h
          · rintro (h | h)
            · exact .inl (by omega)
            · exact .inr h
      · obtain ⟨y, hy, hl, hg⟩ := tells_l0 K es x hx
        refine ⟨y, ?_, hl, fun i hi => ?_⟩
        · show (if decide (e < 64) = true then _ else _) = _
          rw [if_neg (by simpa using h1)]; exact hy
        · rw [hg i hi]
          congr 1
          rw [decide_eq_decide, List.mem_cons]
          exact ⟨.inr, fun h => h.resolve_left (by omega)⟩
    · obtain ⟨y, hy, hl, hg⟩ := tells_l0 K es x hx
      refine ⟨y, ?_, hl, fun i hi => ?_⟩
      · rw [if_neg (by simpa using h0)]
        show (if false = true then _ else _) = _
        rw [if_neg (by decide)]; exact hy
      · rw [hg i hi]
        congr 1
        rw [decide_eq_decide, List.mem_cons]
        exact ⟨.inr, fun h => h.resolve_left (by omega)⟩
theorem tells_l1 (K : List Bool → Option Bool) : ∀ (es : List Int) (x : List Bool), x.length = 64 →
    ∃ y, exegetelaw02_SetTells.l1 K es x = K y ∧ y.length = 64 ∧ ∀ i : Nat, i < 64 → y.getD i false = (x.getD i false || decide ((i : Int) ∈ es))
  | [], x, hx => ⟨x, by rw [exegetelaw02_SetTells.l1], hx, fun i _ => by simp⟩
  | e :: es, x, hx => by
    rw [exegetelaw02_SetTells.l1, jn_eq]
    by_cases h0 : e ≥ 0
    · rw [if_pos (decide_eq_true h0)]
      by_cases h1 : e < 64
      · obtain ⟨y, hy, hl, hg⟩ := tells_l1 K es (x.set e.toNat true) (by rw [List.length_set]; exact hx)
        refine ⟨y, ?_, hl, fun i hi => ?_⟩
        · show (if decide (e < 64) = true then _ else _) = _
          rw [if_pos (decide_eq_true h1), chk_eq _ ⟨h0, by omega⟩]; exact hy
        · rw [hg i hi, set_getD x e.toNat i (by omega), Bool.or_assoc]
          congr 1
          rw [← Bool.decide_or, decide_eq_decide, List.mem_cons]
          constructor
          · rintro (h | h)
            · exact .inl (by omega)
            · exact .inr h
          · rintro (h | h)
            · exact .inl (by omega)
            · exact .inr h
      · obtain ⟨y, hy, hl, hg⟩ := tells_l1 K es x hx
        refine ⟨y, ?_, hl, fun i hi => ?_⟩
        · show (if decide (e < 64) = true then _ else _) = _
          rw [if_neg (by simpa using h1)]; exact hy
        · rw [hg i hi]
          congr 1
          rw [decide_eq_decide, List.mem_cons]
          exact ⟨.inr, fun h => h.resolve_left (by omega)⟩
    · obtain ⟨y, hy, hl, hg⟩ := tells_l1 K es x hx
      refine ⟨y, ?_, hl, fun i hi => ?_⟩
      · rw [if_neg (by simpa using h0)]
        show (if false = true then _ else _) = _
        rw [if_neg (by decide)]; exact hy
      · rw [hg i hi]
        congr 1
        rw [decide_eq_decide, List.mem_cons]
        exact ⟨.inr, fun h => h.resolve_left (by omega)⟩
theorem bit_at (s i : Nat) (hs : s < 18446744073709551616) (hi : i < 64) : ((Go.bits .and .u64 ((s : Int).fdiv (2 ^ (min (IntKind.u64.wrap (i : Int)).toNat 64))) 1) == 1) = s.testBit i := by
  have e : min (IntKind.u64.wrap (i : Int)).toNat 64 = i := by rw [wrap_u64_nat]; omega
  have hle : s / 2 ^ i ≤ s := Nat.div_le_self _ _
  rw [e, fdiv_cast, show (1 : Int) = ((1 : Nat) : Int) from rfl, bits_and_u64_nat _ _ (by omega) (by decide), Nat.and_one_is_mod, Nat.testBit_eq_decide_div_mod_eq]
  rw [Bool.eq_iff_iff, beq_iff_eq, decide_eq_true_eq]
  omega
theorem has_nat (s i : Nat) (hi : i < 64) : has s (i : Int) = s.testBit i := by
  unfold has
  rw [decide_eq_true (by omega), Bool.true_and, Int.toNat_natCast]
structure Upto (A B : Nat → Bool) (i : Nat) (inn : Bool) (l : List Int) : Prop where
  inn : inn = true ↔ ∀ j, j < i → A j = true → B j = true
  rising : l.Pairwise (· < ·)
  mem : ∀ n : Int, n ∈ l ↔ 0 ≤ n ∧ n < i ∧ A n.toNat = true
  len : l.length ≤ i
theorem tells_l2 (a2 : Int) (x y : List Bool) (s t : Nat) (hs : s < 18446744073709551616) (ht : t < 18446744073709551616) (hx : ∀ i : Nat, i < 64 → x.getD i false = s.testBit i) (hy : ∀ i : Nat, i < 64 → y.getD i false = t.testBit i) (K : Bool → Bool → List Int → Int → Option Bool) :
    ∀ (q i k : Nat) (inn : Bool) (l : List Int), i + q = 64 → q < k → Upto s.testBit t.testBit i inn l →
      ∃ inn' l', Upto s.testBit t.testBit 64 inn' l' ∧ exegetelaw02_SetTells.l2 a2 x y (s : Int) (t : Int) K k false inn l (i : Int) = K false inn' l' 64
  | q, i, 0, inn, l, _, hk, _ => by omega
  | q, i, k + 1, inn, l, hi, hk, hu => by
    by_cases h : i < 64
    · have e2 : IntKind.i64.wrap ((i : Int) + 1) = ((i + 1 : Nat) : Int) := by rw [IntKind.wrap_i64]; omega
      have w1 : s ||| dg a2 < 18446744073709551616 := or_lt64 _ _ hs (dg_lt a2)
      have w2 : s ||| t < 18446744073709551616 := or_lt64 _ _ hs ht
      have w3 : s &&& t < 18446744073709551616 := and_lt64 _ _ hs
      have w4 : lessN s t < 18446744073709551616 := lessN_lt _ _ hs
      have f1 : set_Set_Has.f (s : Int) (i : Int) = some (s.testBit i) := by rw [has_eq s hs, has_nat s i h]
      have f2 := bit_at s i hs h
      have f3 := join_eq s t hs ht
      have f4 : set_Set_Has.f ((s ||| t : Nat) : Int) (i : Int) = some (s.testBit i || t.testBit i) := by rw [has_eq _ w2, has_nat _ i h, Nat.testBit_or]
      have f5 := both_eq s t hs ht
      have f6 : set_Set_Has.f ((s &&& t : Nat) : Int) (i : Int) = some (s.testBit i && t.testBit i) := by rw [has_eq _ w3, has_nat _ i h, Nat.testBit_and]
      have f7 := less_eq s t hs ht
      have f8 : set_Set_Has.f ((lessN s t : Nat) : Int) (i : Int) = some (s.testBit i && !t.testBit i) := by rw [has_eq _ w4, has_nat _ i h, lessN_testBit s t i hs ht]
      have f9 := with_eq s hs a2
      have f10 : set_Set_Has.f ((s ||| dg a2 : Nat) : Int) (i : Int) = some (s.testBit i || ((i : Int) == a2)) := by
        rw [has_eq _ w1, has_nat _ i h, Nat.testBit_or, dg_bit]
        congr 2
        rw [Bool.eq_iff_iff, decide_eq_true_eq, beq_iff_eq]
        omega
      have f11 : x.getD i false = s.testBit i := hx i h
      have f12 : y.getD i false = t.testBit i := hy i h
      have hr : (0 : Int) ≤ (i : Int) ∧ (i : Int) < ((64 : Nat) : Int) := ⟨by omega, by omega⟩
      have hw : (0 : Int) ≤ IntKind.u64.wrap (i : Int) := by rw [wrap_u64_nat]; omega
      have hlen : l.length + ([(i : Int)] : List Int).length ≤ 17592186044416 := by have := hu.len; simp; omega
      rw [exegetelaw02_SetTells.l2, if_pos (by simp; omega), jn_eq, chk_eq _ hr, Int.toNat_natCast, f1, bs]
      simp only [f2, f3, f5, f7, f9, bs, f4, f6, f8, f10, f11, f12, chk_eq _ hr, chk_eq _ hw, chk_eq _ hlen, jn_eq, e2]
      have hnew : ∀ inn', (inn' = true ↔ (inn = true ∧ (s.testBit i = true → t.testBit i = true))) → (inn' = true ↔ ∀ j, j < i + 1 → s.testBit j = true → t.testBit j = true) := fun inn' h' => by
        rw [h', hu.inn]
        constructor
        · rintro ⟨h1, h2⟩ j hj
          rcases Nat.lt_or_ge j i with h3 | h3
          · exact h1 j h3
          · obtain rfl : j = i := by omega
            exact h2
        · intro h1
          exact ⟨fun j hj => h1 j (by omega), h1 i (by omega)⟩
      cases hA : s.testBit i with
      | false =>
        have hnext : ∀ inn', inn' = inn → Upto s.testBit t.testBit (i + 1) inn' l := fun inn' h' => by
          refine ⟨hnew inn' (by rw [h', hA]; simp), hu.rising, fun n => ?_, by have := hu.len; omega⟩
          rw [hu.mem]
          constructor
          · rintro ⟨h1, h2, h3⟩; exact ⟨h1, by omega, h3⟩
          · rintro ⟨h1, h2, h3⟩
            refine ⟨h1, ?_, h3⟩
            rcases Int.lt_or_le n i with h4 | h4
            · exact h4
            · have : n.toNat = i := by omega
              rw [this, hA] at h3; cases h3
        cases hB : t.testBit i <;> cases inn <;>
          simp only [bne_self_eq_false, Bool.false_eq_true, if_false, if_true, Bool.false_or, Bool.or_false, Bool.false_and, Bool.not_false, Bool.not_true] <;>
          exact tells_l2 a2 x y s t hs ht hx hy K (q - 1) (i + 1) k _ l (by omega) (by omega) (hnext _ rfl)
      | true =>
        have hnext : ∀ inn', (inn' = (inn && t.testBit i)) → Upto s.testBit t.testBit (i + 1) inn' (l ++ [(i : Int)]) := fun inn' h' => by
          refine ⟨hnew inn' (by rw [h', hA]; simp), ?_, fun n => ?_, by have := hu.len; simp; omega⟩
          · rw [List.pairwise_append]
            refine ⟨hu.rising, by simp, fun a ha b hb => ?_⟩
            rw [List.mem_singleton] at hb
            have := (hu.mem a).1 ha
            omega
          · rw [List.mem_append, hu.mem, List.mem_singleton]
            constructor
            · rintro (⟨h1, h2, h3⟩ | rfl)
              · exact ⟨h1, by omega, h3⟩
              · exact ⟨by omega, by omega, by rw [Int.toNat_natCast]; exact hA⟩
            · rintro ⟨h1, h2, h3⟩
              rcases Int.lt_or_le n i with h4 | h4
              · exact .inl ⟨h1, h4, h3⟩
              · exact .inr (by omega)
        cases hB : t.testBit i <;> cases inn <;>
          simp only [bne_self_eq_false, Bool.false_eq_true, if_false, if_true, Bool.true_or, Bool.true_and, Bool.not_false, Bool.not_true] <;>
          exact tells_l2 a2 x y s t hs ht hx hy K (q - 1) (i + 1) k _ _ (by omega) (by omega) (hnext _ (by rw [hB]; rfl))
    · obtain rfl : i = 64 := by omega
      refine ⟨inn, l, hu, ?_⟩
      rw [exegetelaw02_SetTells.l2, if_neg (by decide)]
      rfl
/-- **SetTells**, whatever comes in. -/
theorem setTells_pure (l m : List Int) (n : Int) (_ : ∀ x ∈ l, IntKind.i64.min ≤ x ∧ x ≤ IntKind.i64.max) (_ : l.length * 8 ≤ 140737488351232) (_ : ∀ x ∈ m, IntKind.i64.min ≤ x ∧ x ≤ IntKind.i64.max) (_ : m.length * 8 ≤ 140737488351232) (_ : IntKind.i64.min ≤ n ∧ n ≤ IntKind.i64.max) :
    exegetelaw02_SetTells.f 100 l m n = some true := by
  have hF : 64 < 100 := by decide
  obtain ⟨s, es⟩ : ∃ s, s = ofN l 0 := ⟨_, rfl⟩
  obtain ⟨t, et⟩ : ∃ t, t = ofN m 0 := ⟨_, rfl⟩
  have hs : s < 18446744073709551616 := by rw [es]; exact of_lt l
  have ht : t < 18446744073709551616 := by rw [et]; exact of_lt m
  have hz : ∀ i : Nat, (List.replicate 64 (false : Bool)).getD i false = false := fun i => by
    rw [List.getD, List.getElem?_replicate]; split <;> rfl
  rw [exegetelaw02_SetTells.f, jn_eq]
  obtain ⟨x, hx, _, hxg⟩ := tells_l0 (fun (y19 : List Bool) => (fun (x6 : List Bool) => _) y19) l (List.replicate 64 (false : Bool)) List.length_replicate
  rw [hx, jn_eq]
  obtain ⟨y, hy, _, hyg⟩ := tells_l1 (fun (y45 : List Bool) => (fun (x32 : List Bool) => _) y45) m (List.replicate 64 (false : Bool)) List.length_replicate
  rw [hy, of_eq, bs, of_eq, bs, ← es, ← et, jn_eq]
  have hx' : ∀ i : Nat, i < 64 → x.getD i false = s.testBit i := fun i hi => by
    rw [hxg i hi, hz, Bool.false_or, es, of_bit, decide_eq_decide]; exact ⟨fun h => ⟨hi, h⟩, fun h => h.2⟩
  have hy' : ∀ i : Nat, i < 64 → y.getD i false = t.testBit i := fun i hi => by
    rw [hyg i hi, hz, Bool.false_or, et, of_bit, decide_eq_decide]; exact ⟨fun h => ⟨hi, h⟩, fun h => h.2⟩
  obtain ⟨inn, z, hu, hl⟩ := tells_l2 n x y s t hs ht hx' hy' (fun (y79 : Bool) (y80 : Bool) (y81 : List Int) (y82 : Int) => (fun (x62 : Bool) (x63 : Bool) (x64 : List Int) => _) y79 y80 y81) 64 0 100 true [] rfl (by decide) ⟨by simp, by simp, fun n => by simp; omega, by simp⟩
  rw [show ((0 : Nat) : Int) = 0 from rfl] at hl
  rw [hl]
  have hz : listN s = z := rising_ext _ _ (listN_rising s) hu.rising (fun n => by
    rw [mem_listN, hu.mem]
    unfold has
    rw [Bool.and_eq_true, decide_eq_true_eq]
    constructor
    · rintro ⟨⟨h1, h2⟩, h3⟩; exact ⟨h1, by omega, h3⟩
    · rintro ⟨h1, h2, h3⟩; exact ⟨⟨h1, by omega⟩, h3⟩)
  have hin : (lessN s t == 0) = inn := by
    rw [Bool.eq_iff_iff, beq_iff_eq, lessN_zero hs ht, hu.inn]
    constructor
    · exact fun h j _ => h j
    · intro h j hj
      refine h j ?_ hj
      apply Classical.byContradiction
      intro hn
      rw [testBit_ge s j hs (by omega)] at hj
      cases hj
  have hlen : z.length ≤ 64 := hu.len
  have hcnt : ((pop 64 s : Nat) : Int) = (z.length : Int) := by rw [← hz, listN_length]
  have g1 : has s (-1) = false := by unfold has; simp
  have g2 : has s 64 = false := by unfold has; simp
  rw [in_eq s t hs ht, bs, hin, if_pos (by simp), list_eq 100 hF s hs, bs, hz, same_eq 100 z z (by omega) (by omega), bs, if_pos (by simp), count_eq s hs, bs, hcnt, if_pos (by simp), has_eq s hs, bs, g1, if_pos (by simp), has_eq s hs, bs, g2, if_pos (by simp), wakes_eq 100 hF, bs, with_eq s hs, bs]
  show (if decide (n ≥ 0) = true then _ else _) = _
  by_cases h0 : n ≥ 0
  · rw [if_pos (decide_eq_true h0)]
    by_cases h1 : n < 64
    · rw [if_pos (decide_eq_true h1)]
    · rw [if_neg (by simpa using h1)]
      have : dg n = 0 := by unfold dg; rw [if_neg (by omega)]
      rw [this, Nat.or_zero, if_pos (by simp)]
  · rw [if_neg (by simpa using h0)]
    have : dg n = 0 := by unfold dg; rw [if_neg (by omega)]
    rw [this, Nat.or_zero, if_pos (by simp)]
end Go.Proofs.YthcikoecegiifaaDoor.X
