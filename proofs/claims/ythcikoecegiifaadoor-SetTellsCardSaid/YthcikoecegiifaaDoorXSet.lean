/- What the functions on sets of small numbers compute. -/
import Derived.Test.YthcikoecegiifaaDoorXNat
import Derived.Test.YthcikoecegiifaaDoorXF
namespace Go.Proofs.YthcikoecegiifaaDoor.X
open Go Go.XW Go.RowKit

theorem add_cast (p q : Nat) (h : p + q < 18446744073709551616) : IntKind.u64.wrap ((p : Int) + (q : Int)) = ((p + q : Nat) : Int) := by
  rw [← Int.natCast_add, wrap_u64_nat, Nat.mod_eq_of_lt h]
theorem q1 (v x r : Nat) (h : v = x + 256 * r) (hx : x ≤ 255) : v / 256 = r := by omega
theorem q2 (v x y r : Nat) (h : v = x + 256 * (y + 256 * r)) (hx : x ≤ 255) (hy : y ≤ 255) : v / 65536 = r := by omega
theorem q4 (v x y z t r : Nat) (h : v = x + 256 * (y + 256 * (z + 256 * (t + 256 * r)))) (hx : x ≤ 255) (hy : y ≤ 255) (hz : z ≤ 255) (ht : t ≤ 255) : v / 4294967296 = r := by omega
theorem hs (r r' x : Nat) (h : r = x + 256 * r') (s s' y : Nat) (k : s = y + 256 * s') : r + s = (x + y) + 256 * (r' + s') := by omega
theorem eight (v a b c d e f g h : Nat) (hv : v = a + 256 * (b + 256 * (c + 256 * (d + 256 * (e + 256 * (f + 256 * (g + 256 * h)))))))
    (ha : a ≤ 8) (hb : b ≤ 8) (hc : c ≤ 8) (hd : d ≤ 8) (he : e ≤ 8) (hf : f ≤ 8) (hg : g ≤ 8) (hh : h ≤ 8) (v1 v2 v3 : Nat) (h1 : v1 = v + v / 256) (h2 : v2 = v1 + v1 / 65536) (h3 : v3 = v2 + v2 / 4294967296) :
    v3 < 9223372036854775808 ∧ v1 < 18446744073709551616 ∧ v2 < 18446744073709551616 ∧ v3 % 128 = a + b + c + d + e + f + g + h := by
  obtain ⟨r6, e6⟩ : ∃ r, r = g + 256 * h := ⟨_, rfl⟩
  obtain ⟨r5, e5⟩ : ∃ r, r = f + 256 * r6 := ⟨_, rfl⟩
  obtain ⟨r4, e4⟩ : ∃ r, r = e + 256 * r5 := ⟨_, rfl⟩
  obtain ⟨r3, e3⟩ : ∃ r, r = d + 256 * r4 := ⟨_, rfl⟩
  obtain ⟨r2, e2⟩ : ∃ r, r = c + 256 * r3 := ⟨_, rfl⟩
  obtain ⟨r1, e1⟩ : ∃ r, r = b + 256 * r2 := ⟨_, rfl⟩
  rw [← e6, ← e5, ← e4, ← e3, ← e2, ← e1] at hv
  have e7 : h = h + 256 * 0 := rfl
  have e8 : (0 : Nat) = 0 + 256 * 0 := rfl
  rw [q1 v a r1 hv (Nat.le_trans ha (by decide))] at h1
  have s0 := hs _ _ _ hv _ _ _ e1
  have s1 := hs _ _ _ e1 _ _ _ e2
  have s2 := hs _ _ _ e2 _ _ _ e3
  have s3 := hs _ _ _ e3 _ _ _ e4
  have s4 := hs _ _ _ e4 _ _ _ e5
  have s5 := hs _ _ _ e5 _ _ _ e6
  have s6 := hs _ _ _ e6 _ _ _ e7
  have s7 := hs _ _ _ e7 _ _ _ e8
  rw [← h1] at s0
  have t0 := s0
  rw [s1] at t0
  rw [q2 v1 _ _ _ t0 (by omega) (by omega)] at h2
  have u0 := hs _ _ _ s0 _ _ _ s2
  have u1 := hs _ _ _ s1 _ _ _ s3
  have u2 := hs _ _ _ s2 _ _ _ s4
  have u3 := hs _ _ _ s3 _ _ _ s5
  have u4 := hs _ _ _ s4 _ _ _ s6
  rw [← h2] at u0
  have w0 := u0
  rw [u1, u2, u3] at w0
  rw [q4 v2 _ _ _ _ _ w0 (by omega) (by omega) (by omega) (by omega)] at h3
  have x0 := hs _ _ _ u0 _ _ _ u4
  rw [← h3] at x0
  clear t0 w0 u0 u1 u2 u3 u4 s0 s1 s2 s3 s4 s5 s6 s7
  have k6 : r6 ≤ 2056 := by omega
  have k5 : r5 ≤ 526344 := by clear e6 e4 e3 e2 e1 hv; omega
  have k4 : r4 ≤ 134744072 := by clear e6 e5 e3 e2 e1 hv; omega
  have k3 : r3 ≤ 34494482440 := by clear e6 e5 e4 e2 e1 hv; omega
  have k2 : r2 ≤ 8830587504648 := by clear e6 e5 e4 e3 e1 hv; omega
  have k1 : r1 ≤ 2260630401189896 := by clear e6 e5 e4 e3 e2 hv; omega
  have k0 : v ≤ 578721382704613384 := by clear e6 e5 e4 e3 e2 e1; omega
  clear e1 e2 e3 e4 e5 e6 hv
  refine ⟨?_, ?_, ?_, ?_⟩
  · omega
  · omega
  · omega
  · clear h1 h2 h3
    rw [x0]
    generalize r1 + r2 + (r3 + r4) + (r5 + r6 + (h + 0)) = q
    omega
theorem len8 : ∀ (p : List Nat), p.length = 8 → ∃ a b c d e f g h, p = [a, b, c, d, e, f, g, h]
  | [a, b, c, d, e, f, g, h], _ => ⟨a, b, c, d, e, f, g, h, rfl⟩
/-- The ones counted: as the library does it. -/
theorem onesCount_eq (x : Nat) (hx : x < 18446744073709551616) : bits_OnesCount64.f (x : Int) = some ((pop 64 x : Nat) : Int) := by
  have m1 : mask 32 1 0 = 6148914691236517205 := by decide +kernel
  have m2 : mask 16 2 0 = 3689348814741910323 := by decide +kernel
  have m3 : mask 8 4 0 = 1085102592571150095 := by decide +kernel
  have l0 := digs_length 64 x
  have b0 := digs_le 64 x
  have v0 := val_digs 64 x hx
  have s1 := pairs_step 1 (by decide) 32 (digs 64 x) (by rw [l0]) (fun d h => by have := b0 d h; omega)
  have l1 := pairs_length 32 (digs 64 x) (by rw [l0])
  have b1 := pairs_le 1 32 (digs 64 x) (by rw [l0]) b0
  have q1 := pairs_sum 32 (digs 64 x) (by rw [l0])
  have s2 := pairs_step 2 (by decide) 16 _ l1 (fun d h => by have := b1 d h; omega)
  have l2 := pairs_length 16 _ l1
  have b2 := pairs_le 2 16 _ l1 b1
  have q2 := pairs_sum 16 _ l1
  have s3 := pairs_step2 4 (by decide) 8 _ l2 (fun d h => by have := b2 d h; omega)
  have l3 := pairs_length 8 _ l2
  have b3 := pairs_le 4 8 _ l2 b2
  have q3 := pairs_sum 8 _ l2
  rw [q2, q1, digs_sum] at q3
  rw [m1, show (2 : Nat) ^ 1 = 2 from rfl, v0] at s1
  rw [m2, show (2 : Nat) ^ 2 = 2 ^ (2 * 1) from rfl, ← s1] at s2
  rw [m3, show (2 : Nat) ^ 4 = 2 ^ (2 * 2) from rfl, ← s2] at s3
  generalize hp : pairs (pairs (pairs (digs 64 x))) = p at *
  clear b0 b1 b2 l1 l2 q1 q2 s1 s2
  generalize hw1 : (x / 2 &&& 6148914691236517205) + (x &&& 6148914691236517205) = w1 at *
  generalize hw2 : (w1 / 2 ^ (2 * 1) &&& 3689348814741910323) + (w1 &&& 3689348814741910323) = w2 at *
  have hA := fun y => (Nat.and_le_right : y &&& 6148914691236517205 ≤ _)
  have hB := fun y => (Nat.and_le_right : y &&& 3689348814741910323 ≤ _)
  have k1 : w1 < 18446744073709551616 := by have := hA (x / 2); have := hA x; omega
  have k2 : w2 ≤ 7378697629483820646 := by have := hB (w1 / 2 ^ (2 * 1)); have := hB w1; omega
  generalize hw3 : (w2 / 2 ^ (2 * 2) + w2) &&& 1085102592571150095 = w3 at *
  have e1 : IntKind.u64.wrap ((Go.bits .and .u64 ((x : Int).fdiv (2 ^ 1)) 6148914691236517205) + (Go.bits .and .u64 (x : Int) 6148914691236517205)) = (w1 : Int) := by
    rw [fdiv_cast, show (6148914691236517205 : Int) = ((6148914691236517205 : Nat) : Int) from rfl, bits_and_u64_nat _ _ (by omega) (by omega), bits_and_u64_nat _ _ hx (by omega), add_cast _ _ (by rw [show (2 : Nat) ^ 1 = 2 from rfl, hw1]; exact k1), show (2 : Nat) ^ 1 = 2 from rfl, hw1]
  have e2 : IntKind.u64.wrap ((Go.bits .and .u64 ((w1 : Int).fdiv (2 ^ 2)) 3689348814741910323) + (Go.bits .and .u64 (w1 : Int) 3689348814741910323)) = (w2 : Int) := by
    rw [fdiv_cast, show (3689348814741910323 : Int) = ((3689348814741910323 : Nat) : Int) from rfl, bits_and_u64_nat _ _ (by omega) (by omega), bits_and_u64_nat _ _ k1 (by omega), add_cast _ _ (by rw [show (2 : Nat) ^ 2 = 2 ^ (2 * 1) from rfl, hw2]; omega), show (2 : Nat) ^ 2 = 2 ^ (2 * 1) from rfl, hw2]
  have e3 : Go.bits .and .u64 (IntKind.u64.wrap ((w2 : Int).fdiv (2 ^ 4) + (w2 : Int))) 1085102592571150095 = (w3 : Int) := by
    rw [fdiv_cast, add_cast _ _ (by omega), show (1085102592571150095 : Int) = ((1085102592571150095 : Nat) : Int) from rfl, bits_and_u64_nat _ _ (by omega) (by omega), show (2 : Nat) ^ 4 = 2 ^ (2 * 2) from rfl, hw3]
  unfold bits_OnesCount64.f lt
  dsimp only
  rw [e1, e2, e3]
  obtain ⟨a, b, c, d, e, f, g, h, rfl⟩ := len8 p l3
  · rw [show (2 : Nat) ^ (2 * 4) = 256 from rfl] at s3
    simp only [val, Nat.mul_zero, Nat.add_zero] at s3
    have c := fun y (hy : y ∈ [a, b, c, d, e, f, g, h]) => (show y ≤ 8 from b3 y hy)
    have ca := c a (by simp)
    have cb := c b (by simp)
    have cc := c _ (List.mem_cons_of_mem _ (List.mem_cons_of_mem _ (List.mem_cons_self ..)))
    have cd := c d (by simp)
    have ce := c e (by simp)
    have cf := c f (by simp)
    have cg := c g (by simp)
    have ch := c h (by simp)
    clear e1 e2 e3 hw1 hw2 hw3 hA hB hp v0 l0 l3
    clear b3
    obtain ⟨z3, z1, z2, z⟩ := eight w3 a b _ d e f g h s3 ca cb cc cd ce cf cg ch (w3 + w3 / 256) ((w3 + w3 / 256) + (w3 + w3 / 256) / 65536) (((w3 + w3 / 256) + (w3 + w3 / 256) / 65536) + ((w3 + w3 / 256) + (w3 + w3 / 256) / 65536) / 4294967296) rfl rfl rfl
    have k0 : IntKind.u64.wrap ((w3 : Int) + (w3 : Int).fdiv (2 ^ 8)) = ((w3 + w3 / 256 : Nat) : Int) := by rw [fdiv_cast, show (2 : Nat) ^ 8 = 256 from rfl]; exact add_cast _ _ z1
    generalize hv1 : w3 + w3 / 256 = v1 at *
    have k1 : IntKind.u64.wrap ((v1 : Int) + (v1 : Int).fdiv (2 ^ 16)) = ((v1 + v1 / 65536 : Nat) : Int) := by rw [fdiv_cast, show (2 : Nat) ^ 16 = 65536 from rfl]; exact add_cast _ _ z2
    generalize hv2 : v1 + v1 / 65536 = v2 at *
    have k2 : IntKind.u64.wrap ((v2 : Int) + (v2 : Int).fdiv (2 ^ 32)) = ((v2 + v2 / 4294967296 : Nat) : Int) := by rw [fdiv_cast, show (2 : Nat) ^ 32 = 4294967296 from rfl]; exact add_cast _ _ (Nat.lt_trans z3 (by decide))
    generalize hv3 : v2 + v2 / 4294967296 = v3 at *
    rw [k0, k1, k2, wrap_i64_nat _ z3, show (127 : Int) = ((127 : Nat) : Int) from rfl, bits_and_i64_nat _ _ z3 (by decide)]
    rw [show (127 : Nat) = 2 ^ 7 - 1 from rfl, Nat.and_two_pow_sub_one_eq_mod, show (2 : Nat) ^ 7 = 128 from rfl, z]
    simp only [List.sum_cons, List.sum_nil] at q3
    rw [← q3]
    congr 2
    omega
theorem count_eq (x : Nat) (hx : x < 18446744073709551616) : set_Set_Count.f (x : Int) = some ((pop 64 x : Nat) : Int) := by
  unfold set_Set_Count.f
  rw [onesCount_eq x hx]; rfl
/-- The digit of a number. -/
def dg (n : Int) : Nat := if 0 ≤ n ∧ n < 64 then 2 ^ n.toNat else 0
theorem dg_lt (n : Int) : dg n < 18446744073709551616 := by
  unfold dg
  split
  · rw [show 18446744073709551616 = 2 ^ 64 from rfl]; exact Nat.pow_lt_pow_right (by decide) (by omega)
  · decide
theorem dg_bit (n : Int) (i : Nat) : (dg n).testBit i = decide (i < 64 ∧ n = (i : Int)) := by
  unfold dg
  split
  · rename_i h
    rw [Nat.testBit_two_pow, decide_eq_decide]
    omega
  · rename_i h
    rw [Nat.zero_testBit]
    symm
    rw [decide_eq_false_iff_not]
    omega
theorem digit_eq (n : Int) : set_digit.f n = some ((dg n : Nat) : Int) := by
  unfold set_digit.f jn dg
  by_cases h0 : n < 0
  · have h1 : ¬ (0 ≤ n ∧ n < 64) := by omega
    simp [h0, h1]
  · by_cases h1 : n ≥ 64
    · have h2 : ¬ (0 ≤ n ∧ n < 64) := by omega
      simp [h0, h1, h2]
    · have h2 : 0 ≤ n ∧ n < 64 := by omega
      have e : min n.toNat 64 = n.toNat := by omega
      simp only [h0, h1, h2, decide_false, and_self, if_true, Bool.false_eq_true, if_false, chk, e]
      have hp : (2 : Nat) ^ n.toNat < 18446744073709551616 := by rw [show 18446744073709551616 = 2 ^ 64 from rfl]; exact Nat.pow_lt_pow_right (by decide) (by omega)
      rw [Int.one_mul, show (2 : Int) ^ n.toNat = ((2 ^ n.toNat : Nat) : Int) by simp, wrap_u64_nat, Nat.mod_eq_of_lt hp]
      rfl
theorem with_eq (s : Nat) (hs : s < 18446744073709551616) (n : Int) : set_Set_With.f (s : Int) n = some (((s ||| dg n : Nat)) : Int) := by
  unfold set_Set_With.f
  rw [digit_eq]
  show some _ = _
  rw [bits_or_u64_nat _ _ hs (dg_lt n)]
theorem join_eq (s t : Nat) (hs : s < 18446744073709551616) (ht : t < 18446744073709551616) : set_Set_Join.f (s : Int) (t : Int) = some (((s ||| t : Nat)) : Int) := by
  unfold set_Set_Join.f
  rw [bits_or_u64_nat _ _ hs ht]
theorem both_eq (s t : Nat) (hs : s < 18446744073709551616) (ht : t < 18446744073709551616) : set_Set_Both.f (s : Int) (t : Int) = some (((s &&& t : Nat)) : Int) := by
  unfold set_Set_Both.f
  rw [bits_and_u64_nat _ _ hs ht]
theorem less_eq (s t : Nat) (hs : s < 18446744073709551616) (ht : t < 18446744073709551616) : set_Set_Less.f (s : Int) (t : Int) = some ((lessN s t : Nat) : Int) := by
  unfold set_Set_Less.f
  rw [bits_less_nat _ _ hs ht]
theorem in_eq (s t : Nat) (hs : s < 18446744073709551616) (ht : t < 18446744073709551616) : set_Set_In.f (s : Int) (t : Int) = some (lessN s t == 0) := by
  unfold set_Set_In.f
  rw [bits_less_nat _ _ hs ht]
  congr 1
  rw [Bool.eq_iff_iff, beq_iff_eq, beq_iff_eq]
  omega
/-- A number is in it. -/
def has (s : Nat) (n : Int) : Bool := decide (0 ≤ n ∧ n < 64) && s.testBit n.toNat
theorem has_eq (s : Nat) (hs : s < 18446744073709551616) (n : Int) : set_Set_Has.f (s : Int) n = some (has s n) := by
  unfold set_Set_Has.f
  rw [digit_eq]
  show some _ = _
  rw [bits_and_u64_nat _ _ hs (dg_lt n)]
  congr 1
  unfold has
  by_cases h : 0 ≤ n ∧ n < 64
  · have e : dg n = 2 ^ n.toNat := by unfold dg; rw [if_pos h]
    rw [e]
    have hb : (s &&& 2 ^ n.toNat) = if s.testBit n.toNat then 2 ^ n.toNat else 0 := by
      apply ext64
      intro i
      rw [Nat.testBit_and, Nat.testBit_two_pow]
      by_cases hi : n.toNat = i
      · subst hi
        cases hh : s.testBit n.toNat
        · simp
        · simp
      · cases hh : s.testBit n.toNat
        · simp [hi]
        · simp [hi]
    rw [hb]
    have hp : 0 < 2 ^ n.toNat := Nat.two_pow_pos _
    cases hh : s.testBit n.toNat
    · simp [h]
    · have h2 : ¬ ((2 ^ n.toNat : Nat) : Int) = 0 := by omega
      rw [if_pos rfl]
      simp only [h, and_self, decide_true, Bool.true_and, bne_iff_ne, ne_eq]
      exact h2
  · have e : dg n = 0 := by unfold dg; rw [if_neg h]
    rw [e]
    simp [h]
def ofN (l : List Int) (s : Nat) : Nat := l.foldl (fun s n => s ||| dg n) s
theorem ofN_lt : ∀ (l : List Int) (s : Nat), s < 18446744073709551616 → ofN l s < 18446744073709551616
  | [], _, h => h
  | n :: l, _, h => ofN_lt l _ (or_lt64 _ _ h (dg_lt n))
theorem ofN_bit : ∀ (l : List Int) (s i : Nat), (ofN l s).testBit i = (s.testBit i || decide (i < 64 ∧ (i : Int) ∈ l))
  | [], _, _ => by simp [ofN]
  | n :: l, s, i => by
    show (ofN l (s ||| dg n)).testBit i = _
    rw [ofN_bit l, Nat.testBit_or, dg_bit, Bool.or_assoc]
    congr 1
    rw [← Bool.decide_or, decide_eq_decide, List.mem_cons]
    constructor
    · rintro (⟨h1, h2⟩ | ⟨h1, h2⟩)
      · exact ⟨h1, .inl h2.symm⟩
      · exact ⟨h1, .inr h2⟩
    · rintro ⟨h1, h2 | h2⟩
      · exact .inl ⟨h1, h2.symm⟩
      · exact .inr ⟨h1, h2⟩
theorem of_loop (K : Int → Option Int) : ∀ (l : List Int) (s : Nat), s < 18446744073709551616 → set_Of.l0 K l (s : Int) = K ((ofN l s : Nat) : Int)
  | [], _, _ => by rw [set_Of.l0]; rfl
  | n :: l, s, h => by
    rw [set_Of.l0, with_eq s h]
    show set_Of.l0 K l _ = _
    rw [of_loop K l _ (or_lt64 _ _ h (dg_lt n))]
    rfl
theorem of_eq (l : List Int) : set_Of.f l = some ((ofN l 0 : Nat) : Int) := by
  unfold set_Of.f jn
  have := of_loop (fun (y15 : Int) => some y15) l 0 (by decide)
  exact this
theorem of_lt (l : List Int) : ofN l 0 < 18446744073709551616 := ofN_lt l 0 (by decide)
theorem of_bit (l : List Int) (i : Nat) : (ofN l 0).testBit i = decide (i < 64 ∧ (i : Int) ∈ l) := by rw [ofN_bit, Nat.zero_testBit, Bool.false_or]
/-! ### The list -/
theorem ctz_lt {x : Nat} (hx : x < 18446744073709551616) (h0 : x ≠ 0) : Lib.ctzFrom 64 x < 64 := (Lib.ctzFrom_spec 64 x (by omega) hx).choose_spec.2
theorem tz_eq (x : Nat) (hx : x < 18446744073709551616) (h0 : x ≠ 0) : bits_TrailingZeros64.f (x : Int) = some ((Lib.ctzFrom 64 x : Nat) : Int) := by
  have hl := Lib.lowest_bit 64 x h0 hx
  have hc : Lib.ctz 64 x = Lib.ctzFrom 64 x := by simp [Lib.ctz, h0]
  rw [hc, show (2 : Nat) ^ 64 = 18446744073709551616 from rfl] at hl
  have ht := Lib.deBruijn64_at _ hl.2
  rw [bits_TrailingZeros64.f]
  have e0 : IntKind.u64.wrap (0 - (x : Int)) = ((18446744073709551616 - x : Nat) : Int) := by rw [IntKind.wrap_u64]; omega
  have e1 : Go.bits .and .u64 (x : Int) (IntKind.u64.wrap (0 - (x : Int))) = ((2 ^ Lib.ctzFrom 64 x : Nat) : Int) := by
    rw [e0, bits_and_u64_nat _ _ hx (by omega), hl.1]
  have e2 : IntKind.u64.wrap (((2 ^ Lib.ctzFrom 64 x : Nat) : Int) * 285870213051353865) = ((2 ^ Lib.ctzFrom 64 x * 285870213051353865 % 18446744073709551616 : Nat) : Int) := by
    rw [show (285870213051353865 : Int) = ((285870213051353865 : Nat) : Int) from rfl, ← Int.natCast_mul, wrap_u64_nat]
  have hne : ((x : Int) == 0) = false := by simp; omega
  rw [hne]
  rw [if_neg Bool.false_ne_true, lt_eq, e1, e2, fdiv_cast, show (2 : Nat) ^ 58 = 288230376151711744 from rfl]
  obtain ⟨q, hq⟩ : ∃ q, q = 2 ^ Lib.ctzFrom 64 x * 285870213051353865 % 18446744073709551616 / 288230376151711744 := ⟨_, rfl⟩
  rw [← hq] at ht ⊢
  rw [chk_eq _ ⟨Int.natCast_nonneg _, Int.ofNat_lt.2 ht.1⟩]
  congr 1
  have e3 : ∀ q, tab0.getD q 0 = ((Lib.deBruijn64tab.getD q 0 : Nat) : Int) := fun q => by
    have : tab0 = Lib.deBruijn64tab.map (fun n : Nat => (n : Int)) := by decide +kernel
    rw [this, List.getD, List.getElem?_map, List.getD]
    cases Lib.deBruijn64tab[q]? <;> rfl
  rw [Int.toNat_natCast, e3, ht.2, wrap_i64_nat _ (by omega)]
end Go.Proofs.YthcikoecegiifaaDoor.X
