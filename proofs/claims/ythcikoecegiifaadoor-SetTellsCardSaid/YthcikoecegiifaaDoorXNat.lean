/- Of no program: numbers below 2^64 as sets of digits: what 'and', 'or', 'and not' keep; their ones counted, their ones told in order. -/
import Derived.Laws.Bits64b
import Derived.Lib.TrailingZeros
import Derived.WalkKit
namespace Go.XW

def M64 : Nat := 18446744073709551616
theorem wrap_u64_nat (n : Nat) : IntKind.u64.wrap (n : Int) = ((n % 18446744073709551616 : Nat) : Int) := by rw [IntKind.wrap_u64]; omega
/-- And not. -/
def lessN (a b : Nat) : Nat := a &&& (18446744073709551615 - b)
theorem testBit_not64 (b i : Nat) (hb : b < 18446744073709551616) : (18446744073709551615 - b).testBit i = (decide (i < 64) && !b.testBit i) := by
  have e : 18446744073709551615 - b = 2 ^ 64 - (b + 1) := by omega
  rw [e, Nat.testBit_two_pow_sub_succ (by omega)]
theorem lessN_testBit (a b i : Nat) (ha : a < 18446744073709551616) (hb : b < 18446744073709551616) : (lessN a b).testBit i = (a.testBit i && !b.testBit i) := by
  unfold lessN
  rw [Nat.testBit_and, testBit_not64 b i hb]
  by_cases hi : i < 64
  · simp [hi]
  · have : a.testBit i = false := Nat.testBit_lt_two_pow (Nat.lt_of_lt_of_le ha (by rw [show 18446744073709551616 = 2 ^ 64 from rfl]; exact Nat.pow_le_pow_right (by decide) (by omega)))
    simp [this]
theorem lessN_lt (a b : Nat) (ha : a < 18446744073709551616) : lessN a b < 18446744073709551616 := Nat.lt_of_le_of_lt Nat.and_le_left ha
theorem and_lt64 (a b : Nat) (ha : a < 18446744073709551616) : a &&& b < 18446744073709551616 := Nat.lt_of_le_of_lt Nat.and_le_left ha
theorem or_lt64 (a b : Nat) (ha : a < 18446744073709551616) (hb : b < 18446744073709551616) : a ||| b < 18446744073709551616 := Nat.or_lt_two_pow (n := 64) ha hb
theorem xor_lt64 (a b : Nat) (ha : a < 18446744073709551616) (hb : b < 18446744073709551616) : a ^^^ b < 18446744073709551616 := Nat.xor_lt_two_pow (n := 64) ha hb
theorem bits_less_nat (a b : Nat) (ha : a < 18446744073709551616) (hb : b < 18446744073709551616) : bits .andNot .u64 (a : Int) (b : Int) = ((lessN a b : Nat) : Int) := by
  have h1 : (BitVec.ofInt 64 (a : Int)).toNat = a := by
    rw [BitVec.ofInt_natCast, BitVec.toNat_ofNat]; exact Nat.mod_eq_of_lt (by omega)
  have h2 : (BitVec.ofInt 64 (b : Int)).toNat = b := by
    rw [BitVec.ofInt_natCast, BitVec.toNat_ofNat]; exact Nat.mod_eq_of_lt (by omega)
  have hx := lessN_lt a b ha
  show IntKind.u64.wrap ((BitVec.ofInt 64 (a : Int) &&& ~~~ BitVec.ofInt 64 (b : Int)).toNat : Int) = _
  rw [BitVec.toNat_and, BitVec.toNat_not, h1, h2, IntKind.wrap_u64]
  have e : a &&& (2 ^ 64 - 1 - b) = lessN a b := rfl
  rw [e]
  omega
theorem ext64 {a b : Nat} (h : ∀ i, a.testBit i = b.testBit i) : a = b := Nat.eq_of_testBit_eq h

/-! ### The digits, from the lowest -/
def pop : Nat → Nat → Nat
  | 0, _ => 0
  | n + 1, x => x % 2 + pop n (x / 2)
/-- The places of the ones, from place j on. -/
def ones : Nat → Nat → Nat → List Nat
  | 0, _, _ => []
  | n + 1, j, x => if x % 2 = 1 then j :: ones n (j + 1) (x / 2) else ones n (j + 1) (x / 2)
theorem ones_length : ∀ n j x, (ones n j x).length = pop n x
  | 0, _, _ => rfl
  | n + 1, j, x => by
    unfold ones pop
    split
    · rename_i h; rw [List.length_cons, ones_length]; omega
    · rename_i h; rw [ones_length]; omega
theorem mem_ones : ∀ n j x i, i ∈ ones n j x ↔ j ≤ i ∧ i < j + n ∧ x.testBit (i - j) = true
  | 0, j, x, i => by simp [ones]; omega
  | n + 1, j, x, i => by
    have ih := mem_ones n (j + 1) (x / 2) i
    have key : i ∈ ones (n + 1) j x ↔ (x % 2 = 1 ∧ i = j) ∨ i ∈ ones n (j + 1) (x / 2) := by
      show i ∈ (if x % 2 = 1 then j :: ones n (j + 1) (x / 2) else ones n (j + 1) (x / 2)) ↔ _
      split <;> simp_all
    rw [key, ih]
    by_cases hij : i = j
    · subst hij
      simp [Nat.testBit_zero]
      omega
    · constructor
      · rintro (h | ⟨h1, h2, h3⟩)
        · exact absurd h.2 hij
        · refine ⟨by omega, by omega, ?_⟩
          rw [show i - j = (i - (j + 1)) + 1 from by omega, Nat.testBit_succ]; exact h3
      · rintro ⟨h1, h2, h3⟩
        refine .inr ⟨by omega, by omega, ?_⟩
        rw [show i - j = (i - (j + 1)) + 1 from by omega, Nat.testBit_succ] at h3; exact h3
theorem ones_sorted : ∀ n j x, (ones n j x).Pairwise (· < ·)
  | 0, _, _ => .nil
  | n + 1, j, x => by
    unfold ones
    split
    · refine .cons (fun i hi => ?_) (ones_sorted n (j + 1) (x / 2))
      have := (mem_ones n (j + 1) (x / 2) i).1 hi
      omega
    · exact ones_sorted n (j + 1) (x / 2)
theorem ones_zero : ∀ n j, ones n j 0 = []
  | 0, _ => rfl
  | n + 1, j => by unfold ones; simp [ones_zero n (j + 1)]
theorem and_pred_even (x : Nat) (h : x % 2 = 0) : (x &&& (x - 1)) % 2 = 0 ∧ (x &&& (x - 1)) / 2 = (x / 2) &&& (x / 2 - 1) := by
  refine ⟨?_, ?_⟩
  · have : (x &&& (x - 1)).testBit 0 = false := by rw [Nat.testBit_and, Nat.testBit_zero]; simp [h]
    rcases Nat.mod_two_eq_zero_or_one (x &&& (x - 1)) with h2 | h2
    · exact h2
    · rw [Nat.testBit_zero, h2] at this; simp at this
  · have e : x / 2 - 1 = (x - 1) / 2 := by omega
    rw [e]
    exact Nat.and_div_two
theorem and_pred_odd (x : Nat) (h : x % 2 = 1) : (x &&& (x - 1)) % 2 = 0 ∧ (x &&& (x - 1)) / 2 = x / 2 := by
  refine ⟨?_, ?_⟩
  · have : (x &&& (x - 1)).testBit 0 = false := by rw [Nat.testBit_and, Nat.testBit_zero (x := x - 1)]; simp; omega
    rcases Nat.mod_two_eq_zero_or_one (x &&& (x - 1)) with h2 | h2
    · exact h2
    · rw [Nat.testBit_zero, h2] at this; simp at this
  · rw [Nat.and_div_two, show (x - 1) / 2 = x / 2 from by omega, Nat.and_self]
/-- The lowest one, and the rest without it. -/
theorem ones_step : ∀ n j x, x ≠ 0 → x < 2 ^ n → ones n j x = (j + Lib.ctzFrom n x) :: ones n j (x &&& (x - 1))
  | 0, j, x, h0, h => by simp at h; omega
  | n + 1, j, x, h0, h => by
    by_cases hx : x % 2 = 1
    · obtain ⟨h1, h2⟩ := and_pred_odd x hx
      have e1 : Lib.ctzFrom (n + 1) x = 0 := by simp [Lib.ctzFrom, hx]
      rw [e1]
      simp only [ones, hx, h1, h2, if_true, Nat.add_zero]
      rw [if_neg (by decide)]
    · have hx0 : x % 2 = 0 := by omega
      obtain ⟨h1, h2⟩ := and_pred_even x hx0
      have e1 : Lib.ctzFrom (n + 1) x = 1 + Lib.ctzFrom n (x / 2) := by simp [Lib.ctzFrom, hx0]
      have ih := ones_step n (j + 1) (x / 2) (by omega) (by rw [Nat.pow_succ] at h; omega)
      rw [e1]
      simp only [ones, h1, h2, hx0]
      rw [if_neg (by decide), if_neg (by decide), ih, show j + (1 + Lib.ctzFrom n (x / 2)) = j + 1 + Lib.ctzFrom n (x / 2) from by omega]
theorem pop_le : ∀ n x, pop n x ≤ n
  | 0, _ => Nat.le_refl 0
  | n + 1, x => by unfold pop; have := pop_le n (x / 2); omega
theorem pop_or_and : ∀ n a b, pop n (a ||| b) + pop n (a &&& b) = pop n a + pop n b
  | 0, _, _ => rfl
  | n + 1, a, b => by
    unfold pop
    have ih := pop_or_and n (a / 2) (b / 2)
    rw [Nat.or_div_two, Nat.and_div_two]
    have h1 : (a ||| b) % 2 + (a &&& b) % 2 = a % 2 + b % 2 := by
      have hb : ∀ x : Nat, x % 2 = (x.testBit 0).toNat := fun x => by rw [Nat.testBit_zero]; rcases Nat.mod_two_eq_zero_or_one x with h | h <;> simp [h]
      rw [hb, hb (a &&& b), hb a, hb b, Nat.testBit_or, Nat.testBit_and]
      cases a.testBit 0 <;> cases b.testBit 0 <;> rfl
    omega
/-! ### The ones counted in parallel -/
def val (B : Nat) : List Nat → Nat
  | [] => 0
  | d :: r => d + B * val B r
def digs : Nat → Nat → List Nat
  | 0, _ => []
  | n + 1, x => x % 2 :: digs n (x / 2)
theorem val_digs : ∀ n x, x < 2 ^ n → val 2 (digs n x) = x
  | 0, x, h => by simp at h; simp [digs, val, h]
  | n + 1, x, h => by
    simp only [digs, val]
    rw [val_digs n (x / 2) (by rw [Nat.pow_succ] at h; omega)]
    omega
def pairs : List Nat → List Nat
  | a :: b :: r => (a + b) :: pairs r
  | l => l
def mask : Nat → Nat → Nat → Nat   -- n pairs of digits of w places each: the lower digit of each
  | 0, _, _ => 0
  | n + 1, w, k => (2 ^ w - 1) + 2 ^ (2 * w) * mask n w k
theorem and_split (k a m y n : Nat) (ha : a < 2 ^ k) (hm : m < 2 ^ k) : (a + 2 ^ k * y) &&& (m + 2 ^ k * n) = (a &&& m) + 2 ^ k * (y &&& n) := by
  apply Nat.eq_of_testBit_eq
  intro i
  have hx : a &&& m < 2 ^ k := Nat.lt_of_le_of_lt Nat.and_le_left ha
  rw [Nat.testBit_and, Nat.add_comm a, Nat.add_comm m, Nat.add_comm (a &&& m), Nat.testBit_two_pow_mul_add _ ha, Nat.testBit_two_pow_mul_add _ hm, Nat.testBit_two_pow_mul_add _ hx]
  split <;> simp [Nat.testBit_and]
/-- One step: the digits of w places, by pairs. -/
theorem pairs_step (w : Nat) (hw : 0 < w) : ∀ (n : Nat) (l : List Nat), l.length = 2 * n → (∀ d ∈ l, d < 2 ^ w) → (val (2 ^ w) l / 2 ^ w &&& mask n w 0) + (val (2 ^ w) l &&& mask n w 0) = val (2 ^ (2 * w)) (pairs l)
  | 0, l, hl, _ => by
    obtain rfl := List.eq_nil_of_length_eq_zero hl
    simp [val, pairs, mask]
  | n + 1, l, hl, hd => by
    match l, hl with
    | a :: b :: r, hl =>
      have hr : r.length = 2 * n := by simp at hl; omega
      have ih := pairs_step w hw n r hr (fun d h => hd d (by simp [h]))
      have ha := hd a (by simp)
      have hb := hd b (by simp)
      have e2 : 2 ^ (2 * w) = 2 ^ w * 2 ^ w := by rw [Nat.two_mul, Nat.pow_add]
      have hW : 1 < 2 ^ w := Nat.one_lt_two_pow (by omega)
      have hlow := ha
      have hlow2 := hb
      have hab : ∀ (p q : Nat), p < 2 ^ w → q < 2 ^ w → p + 2 ^ w * q < 2 ^ (2 * w) := fun p q hp hq => by
        rw [e2]
        have : 2 ^ w * (q + 1) ≤ 2 ^ w * 2 ^ w := Nat.mul_le_mul_left _ hq
        rw [Nat.mul_add] at this; omega
      have hm0 : 2 ^ w - 1 < 2 ^ (2 * w) := by have := hab (2 ^ w - 1) 0 (by omega) (by omega); omega
      have hmask : ∀ p, p < 2 ^ w → ∀ q, (p + 2 ^ w * q) &&& (2 ^ w - 1) = p := fun p hp q => by
        rw [Nat.and_two_pow_sub_one_eq_mod, Nat.add_mul_mod_self_left, Nat.mod_eq_of_lt hp]
      -- the number itself
      have v1 : val (2 ^ w) (a :: b :: r) = (a + 2 ^ w * b) + 2 ^ (2 * w) * val (2 ^ w) r := by
        simp only [val]; rw [e2, Nat.mul_add, Nat.mul_assoc, Nat.add_assoc]
      -- moved by one digit
      have v2 : val (2 ^ w) (a :: b :: r) / 2 ^ w = b + 2 ^ w * val (2 ^ w) r := by
        simp only [val]
        rw [Nat.add_mul_div_left _ _ (by omega), Nat.div_eq_of_lt hlow, Nat.zero_add]
      have v3 : b + 2 ^ w * val (2 ^ w) r = (b + 2 ^ w * (val (2 ^ w) r % 2 ^ w)) + 2 ^ (2 * w) * (val (2 ^ w) r / 2 ^ w) := by
        have := Nat.mod_add_div (val (2 ^ w) r) (2 ^ w)
        rw [e2, Nat.mul_assoc, Nat.add_assoc, ← Nat.mul_add, this]
      rw [v2, v3, v1]
      simp only [mask, pairs]
      rw [and_split (2 * w) _ _ _ _ (hab _ _ hlow2 (Nat.mod_lt _ (by omega))) hm0, and_split (2 * w) _ _ _ _ (hab _ _ hlow hlow2) hm0, hmask b hlow2, hmask a hlow]
      simp only [val]
      rw [← ih, Nat.mul_add]
      omega
theorem pairs_length : ∀ (n : Nat) (l : List Nat), l.length = 2 * n → (pairs l).length = n
  | 0, l, h => by obtain rfl := List.eq_nil_of_length_eq_zero h; rfl
  | n + 1, l, h => by
    match l, h with
    | a :: b :: r, h => simp only [pairs, List.length_cons]; rw [pairs_length n r (by simp at h; omega)]
theorem pairs_sum : ∀ (n : Nat) (l : List Nat), l.length = 2 * n → (pairs l).sum = l.sum
  | 0, l, h => by obtain rfl := List.eq_nil_of_length_eq_zero h; rfl
  | n + 1, l, h => by
    match l, h with
    | a :: b :: r, h => simp only [pairs, List.sum_cons]; rw [pairs_sum n r (by simp at h; omega)]; omega
theorem pairs_le (m : Nat) : ∀ (n : Nat) (l : List Nat), l.length = 2 * n → (∀ d ∈ l, d ≤ m) → ∀ d ∈ pairs l, d ≤ 2 * m
  | 0, l, h, _ => by obtain rfl := List.eq_nil_of_length_eq_zero h; simp [pairs]
  | n + 1, l, h, hd => by
    match l, h with
    | a :: b :: r, h =>
      intro d hm
      simp only [pairs, List.mem_cons] at hm
      rcases hm with rfl | hm
      · have := hd a (by simp); have := hd b (by simp); omega
      · exact pairs_le m n r (by simp at h; omega) (fun d h => hd d (by simp [h])) d hm
theorem digs_length : ∀ n x, (digs n x).length = n
  | 0, _ => rfl
  | n + 1, x => by simp [digs, digs_length n]
theorem digs_le : ∀ n x, ∀ d ∈ digs n x, d ≤ 1
  | 0, _ => by simp [digs]
  | n + 1, x => by
    intro d hd
    simp only [digs, List.mem_cons] at hd
    rcases hd with rfl | hd
    · omega
    · exact digs_le n _ d hd
theorem digs_sum : ∀ n x, (digs n x).sum = pop n x
  | 0, _ => rfl
  | n + 1, x => by simp [digs, pop, digs_sum n]
theorem val_mod (w : Nat) (hw : 0 < w) : ∀ (l : List Nat), (∀ d ∈ l, 2 * d < 2 ^ w) → 2 * (val (2 ^ w) l % 2 ^ w) < 2 ^ w
  | [], _ => by simp only [val, Nat.zero_mod]; exact Nat.two_pow_pos w
  | d :: r, h => by
    have hd := h d (by simp)
    have hW : 1 < 2 ^ w := Nat.one_lt_two_pow (by omega)
    simp only [val]
    rw [Nat.add_mul_mod_self_left, Nat.mod_eq_of_lt (by omega)]
    exact hd
/-- One step more, where the sums fit: one mask is enough. -/
theorem pairs_step2 (w : Nat) (hw : 0 < w) : ∀ (n : Nat) (l : List Nat), l.length = 2 * n → (∀ d ∈ l, 2 * d < 2 ^ w) → (val (2 ^ w) l / 2 ^ w + val (2 ^ w) l) &&& mask n w 0 = val (2 ^ (2 * w)) (pairs l)
  | 0, l, hl, _ => by
    obtain rfl := List.eq_nil_of_length_eq_zero hl
    simp [val, pairs, mask]
  | n + 1, l, hl, hd => by
    match l, hl with
    | a :: b :: r, hl =>
      have hr : r.length = 2 * n := by simp at hl; omega
      have hdr : ∀ d ∈ r, 2 * d < 2 ^ w := fun d h => hd d (by simp [h])
      have ih := pairs_step2 w hw n r hr hdr
      have ha := hd a (by simp)
      have hb := hd b (by simp)
      have e2 : 2 ^ (2 * w) = 2 ^ w * 2 ^ w := by rw [Nat.two_mul, Nat.pow_add]
      have hW : 1 < 2 ^ w := Nat.one_lt_two_pow (by omega)
      have hv := val_mod w hw r hdr
      have hab : ∀ (p q : Nat), p < 2 ^ w → q < 2 ^ w → p + 2 ^ w * q < 2 ^ (2 * w) := fun p q hp hq => by
        rw [e2]
        have : 2 ^ w * (q + 1) ≤ 2 ^ w * 2 ^ w := Nat.mul_le_mul_left _ hq
        rw [Nat.mul_add] at this; omega
      have hm0 : 2 ^ w - 1 < 2 ^ (2 * w) := by have := hab (2 ^ w - 1) 0 (by omega) (by omega); omega
      have hmask : ∀ p, p < 2 ^ w → ∀ q, (p + 2 ^ w * q) &&& (2 ^ w - 1) = p := fun p hp q => by
        rw [Nat.and_two_pow_sub_one_eq_mod, Nat.add_mul_mod_self_left, Nat.mod_eq_of_lt hp]
      have v2 : val (2 ^ w) (a :: b :: r) / 2 ^ w = b + 2 ^ w * val (2 ^ w) r := by
        simp only [val]
        rw [Nat.add_mul_div_left _ _ (by omega), Nat.div_eq_of_lt (by omega), Nat.zero_add]
      have v3 : (b + 2 ^ w * val (2 ^ w) r) + val (2 ^ w) (a :: b :: r) = ((a + b) + 2 ^ w * (b + val (2 ^ w) r % 2 ^ w)) + 2 ^ (2 * w) * (val (2 ^ w) r / 2 ^ w + val (2 ^ w) r) := by
        have h1 := Nat.mod_add_div (val (2 ^ w) r) (2 ^ w)
        simp only [val]
        generalize val (2 ^ w) r = V at *
        generalize V % 2 ^ w = m at *
        generalize V / 2 ^ w = q at *
        rw [e2]
        simp only [Nat.mul_add, Nat.mul_assoc]
        have h2 : 2 ^ w * V = 2 ^ w * m + 2 ^ w * (2 ^ w * q) := by rw [← h1]; simp only [Nat.mul_add]
        omega
      rw [v2, v3]
      simp only [mask, pairs]
      rw [and_split (2 * w) _ _ _ _ (hab _ _ (by omega) (by omega)) hm0, hmask (a + b) (by omega)]
      simp only [val]
      rw [← ih]
theorem fdiv_cast (x k : Nat) : ((x : Int)).fdiv (2 ^ k) = ((x / 2 ^ k : Nat) : Int) := by
  rw [Int.fdiv_eq_ediv_of_nonneg _ (Int.pow_nonneg (by decide))]
  simp
theorem bits_and_i64_nat (a b : Nat) (ha : a < 9223372036854775808) (hb : b < 9223372036854775808) : bits .and .i64 (a : Int) (b : Int) = ((a &&& b : Nat) : Int) := by
  have h1 : (BitVec.ofInt 64 (a : Int)).toNat = a := by
    rw [BitVec.ofInt_natCast, BitVec.toNat_ofNat]; exact Nat.mod_eq_of_lt (by omega)
  have h2 : (BitVec.ofInt 64 (b : Int)).toNat = b := by
    rw [BitVec.ofInt_natCast, BitVec.toNat_ofNat]; exact Nat.mod_eq_of_lt (by omega)
  have hx : a &&& b < 9223372036854775808 := Nat.lt_of_le_of_lt Nat.and_le_left ha
  show IntKind.i64.wrap ((BitVec.ofInt 64 (a : Int) &&& BitVec.ofInt 64 (b : Int)).toNat : Int) = _
  rw [BitVec.toNat_and, h1, h2, IntKind.wrap_i64]
  omega
theorem wrap_i64_nat (n : Nat) (h : n < 9223372036854775808) : IntKind.i64.wrap (n : Int) = (n : Int) := by rw [IntKind.wrap_i64]; omega
end Go.XW
