/- SetLaws, in plain Lean: whatever the numbers: true. -/
import Derived.Test.YthcikoecegiifaaDoorXSet2
namespace Go.Proofs.YthcikoecegiifaaDoor.X
open Go Go.XW Go.RowKit

theorem or_with_has (s : Nat) (n : Int) (hn : 0 ≤ n ∧ n < 64) : has (s ||| dg n) n = true := by
  unfold has
  rw [Nat.testBit_or, dg_bit]
  simp
  omega
theorem u32_shift (a k : Nat) (hk : k ≤ 32) (ha : a < 4294967296) : IntKind.u64.wrap ((a : Int) * 2 ^ k) = ((a * 2 ^ k : Nat) : Int) ∧ a * 2 ^ k < 18446744073709551616 := by
  have h1 : (2 : Nat) ^ k ≤ 2 ^ 32 := Nat.pow_le_pow_right (by decide) hk
  have h2 : a * 2 ^ k ≤ 4294967295 * 4294967296 := Nat.mul_le_mul (by omega) (by simpa using h1)
  refine ⟨?_, by omega⟩
  rw [show (2 : Int) ^ k = ((2 ^ k : Nat) : Int) by simp, ← Int.natCast_mul, wrap_u64_nat, Nat.mod_eq_of_lt (by omega)]
theorem setLaws_sets (F : Nat) (hF : 64 < F) (a b c : Nat) (ha : a < 18446744073709551616) (hb : b < 18446744073709551616) (hc : c < 18446744073709551616) (x y z n : Int) (hn : -9223372036854775808 ≤ n ∧ n ≤ 9223372036854775807)
    (e1 : Go.bits .or .u64 (IntKind.u64.wrap x) (IntKind.u64.wrap ((IntKind.u64.wrap y) * 2 ^ 32)) = (a : Int)) (e2 : Go.bits .xor .u64 (IntKind.u64.wrap ((IntKind.u64.wrap y) * 2 ^ 17)) (IntKind.u64.wrap z) = (b : Int)) (e3 : IntKind.u64.wrap ((IntKind.u64.wrap z) * 2 ^ 31) = (c : Int)) :
    exegetelaw02_SetLaws.f F x y z n = some true := by
  obtain ⟨t, ht, ht0, ht1⟩ := within_eq n 64 hn (by omega)
  have hor := or_lt64 a b ha hb
  have hand := and_lt64 a b ha
  have hless := lessN_lt a b ha
  have hof := of_lt ([t] : List Int)
  have hwith := or_lt64 a (dg t) ha (dg_lt t)
  have hE : ofN ([] : List Int) 0 = 0 := rfl
  rw [exegetelaw02_SetLaws.f, lt_eq, lt_eq, lt_eq, e1, e2, e3, ht]
  simp only [Option.bind_some, join_eq a b ha hb, join_eq b a hb ha, both_eq a b ha hb, both_eq b a hb ha, both_eq _ c hor hc, both_eq a c ha hc, both_eq b c hb hc, join_eq _ _ (and_lt64 a c ha) (and_lt64 b c hb), less_eq a b ha hb, join_eq _ _ hless hand,
    both_eq _ b hless hb, of_eq, in_eq a _ ha hor, in_eq _ a hand ha, list_eq F hF a ha, of_list a ha, count_eq _ hor, count_eq _ hand, count_eq a ha, count_eq b hb, with_eq a ha, has_eq _ hwith, less_eq _ _ hwith hof, less_eq a _ ha hof, hE, wakes_eq F hF]
  have c1 : a ||| b = b ||| a := Nat.or_comm a b
  have c2 : a &&& b = b &&& a := Nat.and_comm a b
  have c3 : (a ||| b) &&& c = (a &&& c) ||| (b &&& c) := by
    apply ext64; intro i
    simp only [Nat.testBit_and, Nat.testBit_or]
    cases a.testBit i <;> cases b.testBit i <;> cases c.testBit i <;> rfl
  have c4 : lessN a b ||| (a &&& b) = a := by
    apply ext64; intro i
    simp only [Nat.testBit_and, Nat.testBit_or, lessN_testBit a b i ha hb]
    cases a.testBit i <;> cases b.testBit i <;> rfl
  have c5 : lessN a b &&& b = 0 := by
    apply ext64; intro i
    simp only [Nat.testBit_and, Nat.zero_testBit, lessN_testBit a b i ha hb]
    cases a.testBit i <;> cases b.testBit i <;> rfl
  have c6 : lessN a (a ||| b) = 0 := by
    apply ext64; intro i
    simp only [Nat.testBit_or, Nat.zero_testBit, lessN_testBit a _ i ha hor]
    cases a.testBit i <;> cases b.testBit i <;> rfl
  have c7 : lessN (a &&& b) a = 0 := by
    apply ext64; intro i
    simp only [Nat.testBit_and, Nat.zero_testBit, lessN_testBit _ a i hand ha]
    cases a.testBit i <;> cases b.testBit i <;> rfl
  have c8 : lessN (a ||| dg t) (ofN [t] 0) = lessN a (ofN [t] 0) := by
    apply ext64; intro i
    rw [lessN_testBit _ _ i hwith hof, lessN_testBit a _ i ha hof, Nat.testBit_or, dg_bit, of_bit]
    by_cases h : i < 64 ∧ t = (i : Int)
    · simp [h]
    · simp [h]
  have c9 := pop_or_and 64 a b
  have p1 := pop_le 64 (a ||| b)
  have p2 := pop_le 64 (a &&& b)
  have c10 : (IntKind.i64.wrap (((pop 64 (a ||| b) : Nat) : Int) + ((pop 64 (a &&& b) : Nat) : Int)) == IntKind.i64.wrap (((pop 64 a : Nat) : Int) + ((pop 64 b : Nat) : Int))) = true := by
    rw [← Int.natCast_add, ← Int.natCast_add, c9]; simp
  have hc0 : pop 64 0 = 0 := by decide +kernel
  rw [← c1, ← c2, c3, c4, c5, c6, c7, c8, c10, or_with_has a t ⟨ht0, ht1⟩, count_eq 0 (by decide), hc0]
  simp
/-- **SetLaws**, whatever the numbers. -/
theorem setLaws_pure (F : Nat) (hF : 64 < F) (x y z n : Int) (hx : 0 ≤ x ∧ x ≤ 4294967295) (hy : 0 ≤ y ∧ y ≤ 4294967295) (hz : 0 ≤ z ∧ z ≤ 4294967295) (hn : -9223372036854775808 ≤ n ∧ n ≤ 9223372036854775807) : exegetelaw02_SetLaws.f F x y z n = some true := by
  obtain ⟨x, rfl⟩ : ∃ m : Nat, x = m := ⟨x.toNat, by omega⟩
  obtain ⟨y, rfl⟩ : ∃ m : Nat, y = m := ⟨y.toNat, by omega⟩
  obtain ⟨z, rfl⟩ : ∃ m : Nat, z = m := ⟨z.toNat, by omega⟩
  have wx : ∀ m : Nat, m < 4294967296 → IntKind.u64.wrap (m : Int) = (m : Int) := fun m hm => by rw [wrap_u64_nat, Nat.mod_eq_of_lt (by omega)]
  obtain ⟨s1, l1⟩ := u32_shift y 32 (by decide) (by omega)
  obtain ⟨s2, l2⟩ := u32_shift y 17 (by decide) (by omega)
  obtain ⟨s3, l3⟩ := u32_shift z 31 (by decide) (by omega)
  refine setLaws_sets F hF (x ||| y * 2 ^ 32) (y * 2 ^ 17 ^^^ z) (z * 2 ^ 31) (or_lt64 _ _ (by omega) l1) (xor_lt64 _ _ l2 (by omega)) l3 _ _ _ n hn ?_ ?_ ?_
  · rw [wx x (by omega), wx y (by omega), s1, bits_or_u64_nat _ _ (by omega) l1]
  · rw [wx y (by omega), wx z (by omega), s2, bits_xor_u64_nat _ _ l2 (by omega)]
  · rw [wx z (by omega), s3]
end Go.Proofs.YthcikoecegiifaaDoor.X
