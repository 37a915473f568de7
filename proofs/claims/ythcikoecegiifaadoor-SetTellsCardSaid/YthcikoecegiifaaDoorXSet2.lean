/- Sets of small numbers: the list, and the small functions of the laws. -/
import Derived.Test.YthcikoecegiifaaDoorXSet
namespace Go.Proofs.YthcikoecegiifaaDoor.X
open Go Go.XW Go.RowKit

def toInts (l : List Nat) : List Int := l.map fun n : Nat => (n : Int)
/-- The list of a set. -/
def listN (s : Nat) : List Int := toInts (ones 64 0 s)
theorem pred_cast (x : Nat) (hx : x < 18446744073709551616) (h0 : x ≠ 0) : Go.bits .and .u64 (x : Int) (IntKind.u64.wrap ((x : Int) - 1)) = ((x &&& (x - 1) : Nat) : Int) := by
  have e : IntKind.u64.wrap ((x : Int) - 1) = ((x - 1 : Nat) : Int) := by rw [IntKind.wrap_u64]; omega
  rw [e, bits_and_u64_nat _ _ hx (by omega)]
theorem and_pred_lt (x : Nat) (h0 : x ≠ 0) : x &&& (x - 1) < x := Nat.lt_of_le_of_lt Nat.and_le_right (by omega)
theorem list_loop (K : List Int → Int → Option (List Int)) : ∀ (m : Nat) (k x : Nat) (acc : List Int), x < 18446744073709551616 → (ones 64 0 x).length = m → m < k → acc.length + m ≤ 1000 →
    set_Set_List.l0 K k acc (x : Int) = K (acc ++ listN x) 0
  | 0, k, x, acc, hx, hm, hk, _ => by
    have h0 : x = 0 := by
      apply Classical.byContradiction
      intro h
      rw [ones_step 64 0 x h hx] at hm
      simp at hm
    subst h0
    obtain ⟨k, rfl⟩ : ∃ j, k = j + 1 := ⟨k - 1, by omega⟩
    rw [set_Set_List.l0, if_neg (by simp), listN, ones_zero]
    simp [toInts]
  | m + 1, k, x, acc, hx, hm, hk, ha => by
    have h0 : x ≠ 0 := by
      rintro rfl
      rw [ones_zero] at hm
      simp at hm
    obtain ⟨k, rfl⟩ : ∃ j, k = j + 1 := ⟨k - 1, by omega⟩
    have hs := ones_step 64 0 x h0 hx
    have hc : ((x : Int) != 0) = true := by simp; omega
    have hl : (ones 64 0 (x &&& (x - 1))).length = m := by rw [hs, List.length_cons] at hm; omega
    have hlt := and_pred_lt x h0
    have ih := list_loop K m k (x &&& (x - 1)) (acc ++ [((Lib.ctzFrom 64 x : Nat) : Int)]) (by omega) hl (by omega) (by rw [List.length_append]; simp; omega)
    rw [set_Set_List.l0, if_pos hc, tz_eq x hx h0]
    show chk _ _ = _
    rw [chk_eq _ (by rw [List.length_cons, List.length_nil]; omega), pred_cast x hx h0, lt_eq, ih]
    congr 1
    rw [listN, listN, hs]
    simp [toInts]
theorem list_eq (F : Nat) (hF : 64 < F) (x : Nat) (hx : x < 18446744073709551616) : set_Set_List.f F (x : Int) = some (listN x) := by
  have hl : (ones 64 0 x).length ≤ 64 := by rw [ones_length]; exact pop_le 64 x
  rw [set_Set_List.f, jn_eq, list_loop _ _ F x [] hx rfl (by omega) (by simp; omega)]
  simp
theorem listN_length (x : Nat) : (listN x).length = pop 64 x := by rw [listN, toInts, List.length_map, ones_length]
theorem mem_listN (x : Nat) (n : Int) : n ∈ listN x ↔ has x n = true := by
  unfold listN toInts has
  rw [List.mem_map]
  constructor
  · rintro ⟨i, hi, rfl⟩
    have := (mem_ones 64 0 x i).1 hi
    simp only [Int.toNat_natCast, Bool.and_eq_true, decide_eq_true_eq]
    exact ⟨by omega, this.2.2⟩
  · intro h
    simp only [Bool.and_eq_true, decide_eq_true_eq] at h
    exact ⟨n.toNat, (mem_ones 64 0 x n.toNat).2 ⟨by omega, by omega, h.2⟩, by omega⟩
theorem testBit_ge (x i : Nat) (hx : x < 18446744073709551616) (hi : 64 ≤ i) : x.testBit i = false := Nat.testBit_lt_two_pow (Nat.lt_of_lt_of_le hx (by rw [show 18446744073709551616 = 2 ^ 64 from rfl]; exact Nat.pow_le_pow_right (by decide) hi))
theorem of_list (x : Nat) (hx : x < 18446744073709551616) : ofN (listN x) 0 = x := by
  apply ext64
  intro i
  rw [of_bit]
  by_cases hi : i < 64
  · cases hb : x.testBit i
    · rw [decide_eq_false_iff_not]
      rintro ⟨_, h⟩
      have := (mem_listN x _).1 h
      simp only [has, Int.toNat_natCast, hb, Bool.and_false] at this
      cases this
    · rw [decide_eq_true_eq]
      refine ⟨hi, (mem_listN x _).2 ?_⟩
      simp only [has, Int.toNat_natCast, hb, Bool.and_true, decide_eq_true_eq]
      omega
  · rw [testBit_ge x i hx (by omega), decide_eq_false_iff_not]
    exact fun h => hi h.1
theorem same_loop (a b : List Int) (K : Bool → Int → Option Bool) (hl : a.length = b.length) (hm : a.length ≤ 9223372036854775806) (hK : ∀ x y, K x y = some true) : ∀ (m k i : Nat) (x : Bool), a.length - i = m → i ≤ a.length → m < k → (∀ j, j < i → a.getD j 0 = b.getD j 0) →
    exegetekeep_Same_int.l0 a b K k x (i : Int) = some (decide (a = b))
  | m, 0, i, x, _, _, hk, _ => by omega
  | m, k + 1, i, x, hm', hi, hk, he => by
    rw [exegetekeep_Same_int.l0]
    by_cases hlt : i < a.length
    · rw [if_pos (by simpa using hlt), chk_eq _ ⟨Int.natCast_nonneg _, Int.ofNat_lt.2 hlt⟩, chk_eq _ ⟨Int.natCast_nonneg _, Int.ofNat_lt.2 (by omega)⟩, Int.toNat_natCast]
      by_cases hne : a.getD i 0 = b.getD i 0
      · rw [if_neg (by simpa using hne)]
        have e : IntKind.i64.wrap ((i : Int) + 1) = ((i + 1 : Nat) : Int) := wrap_succ hlt (by omega)
        rw [e]
        exact same_loop a b K hl hm hK (a.length - (i + 1)) k (i + 1) x rfl (by omega) (by omega) (fun j hj => by
          by_cases hji : j = i
          · subst hji; exact hne
          · exact he j (by omega))
      · rw [if_pos (by simpa using hne)]
        symm
        rw [Option.some.injEq, decide_eq_false_iff_not]
        rintro rfl
        exact hne rfl
    · rw [if_neg (by simpa using hlt), hK]
      symm
      rw [Option.some.injEq, decide_eq_true_eq]
      apply List.ext_getElem hl
      intro j h1 h2
      have := he j (by omega)
      simpa [List.getD, List.getElem?_eq_getElem h1, List.getElem?_eq_getElem h2] using this
theorem same_eq (F : Nat) (a b : List Int) (hm : a.length ≤ 9223372036854775806) (hF : a.length < F) : exegetekeep_Same_int.f F a b = some (decide (a = b)) := by
  rw [exegetekeep_Same_int.f]
  by_cases hl : a.length = b.length
  · rw [if_neg (by simp [hl]), jn_eq]
    exact same_loop a b _ hl hm (fun _ _ => rfl) a.length F 0 false rfl (Nat.zero_le _) hF (fun j hj => by omega)
  · rw [if_pos (by simp; omega)]
    symm
    rw [Option.some.injEq, decide_eq_false_iff_not]
    rintro rfl
    exact hl rfl
theorem wakes_eq (F : Nat) (hF : 64 < F) : exegetelaw02_wakes.f F = some true := by
  rw [exegetelaw02_wakes.f, of_eq]
  show (set_Set_List.f F _).bind _ = _
  rw [list_eq F hF _ (of_lt _)]
  show (exegetekeep_Same_int.f F _ _).bind _ = _
  have e : listN (ofN [3, 1] 0) = [1, 3] := by decide +kernel
  rw [e, same_eq F _ _ (by decide) (by simp; omega)]
  rfl
theorem within_eq (n b : Int) (hn : -9223372036854775808 ≤ n ∧ n ≤ 9223372036854775807) (hb : 0 < b ∧ b ≤ 9223372036854775807) : ∃ t, exegetekeep_Within.f n b = some t ∧ 0 ≤ t ∧ t < b := by
  rw [exegetekeep_Within.f, if_neg (by simp; omega), chk_eq _ (by omega)]
  have h1 : -b < n.tmod b := by
    by_cases h : n < 0
    · have h2 := Int.tmod_lt_of_pos (-n) hb.1
      rw [Int.neg_tmod] at h2; omega
    · have := Int.tmod_nonneg b (show 0 ≤ n by omega); omega
  have h2 := Int.tmod_lt_of_pos n hb.1
  by_cases h : n.tmod b < 0
  · rw [if_pos (by simpa using h)]
    refine ⟨_, rfl, ?_⟩
    rw [IntKind.wrap_i64]
    omega
  · rw [if_neg (by simpa using h)]
    exact ⟨_, rfl, by omega, h2⟩
end Go.Proofs.YthcikoecegiifaaDoor.X
