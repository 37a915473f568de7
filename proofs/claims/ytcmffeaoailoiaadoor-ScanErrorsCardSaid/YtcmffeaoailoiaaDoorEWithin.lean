/- Within yields one of the numbers below its bound, whatever number comes in. -/
import Derived.Test.YtcmffeaoailoiaaDoorEMemo
import Derived.Test.YtcmffeaoailoiaaDoorXF
namespace Go.Proofs.YtcmffeaoailoiaaDoor.E
open Go Go.EV Go.XW Go.RowKit Go.Proofs
set_option linter.unusedVariables false
theorem within_eq (n b : Int) (hn : -9223372036854775808 ≤ n ∧ n ≤ 9223372036854775807) (hb : 0 < b ∧ b ≤ 9223372036854775807) : ∃ t, X.exegetekeep_Within.f n b = some t ∧ 0 ≤ t ∧ t < b := by
  rw [X.exegetekeep_Within.f, if_neg (by simp; omega), chk_eq _ (by omega)]
  have h1 : -b < n.tmod b := by
    by_cases h : n < 0
    · have h2 := Int.tmod_lt_of_pos (-n) hb.1
      rw [Int.neg_tmod] at h2; omega
    · have := Int.tmod_nonneg b (show 0 ≤ n by omega); omega
  have h2 := Int.tmod_lt_of_pos n hb.1
  by_cases h : n.tmod b < 0
  · rw [if_pos (by simpa using h)]
    refine ⟨_, rfl, ?_⟩
    rw [IntKind.wrap_i64]
    omega
  · rw [if_neg (by simpa using h)]
    exact ⟨_, rfl, by omega, h2⟩
def upto : Nat → List AV
  | 0 => []
  | k + 1 => .lit (.int .i64 (Int.ofNat k)) :: upto k
theorem mem_upto : ∀ (m k : Nat), k < m → AV.lit (.int .i64 (Int.ofNat k)) ∈ upto m
  | 0, k, h => by omega
  | m + 1, k, h => by
    by_cases e : k = m
    · subst e; exact List.mem_cons_self
    · exact List.mem_cons_of_mem _ (mem_upto m k (by omega))
theorem within_c (m : Nat) (hm : 0 < m ∧ m ≤ 9223372036854775807) : Contract Tryd.prog (10, [.any .i64, .lit (.int .i64 (Int.ofNat m))], upto m) := by
  intro C w vs hD
  obtain ⟨u, us, rfl, h1, h2⟩ := hD.cons_inv
  obtain ⟨v, vs, rfl, h3, h4⟩ := h2.cons_inv
  obtain rfl := h4.nil_inv
  cases h1 with
  | @any k n hr =>
    cases h3
    obtain ⟨t, ht, h5, h6⟩ := within_eq n (Int.ofNat m) hr ⟨by simp only [Int.ofNat_eq_natCast]; omega, by simp only [Int.ofNat_eq_natCast]; omega⟩
    refine (X.exegetekeep_Within.calls n (Int.ofNat m) (I := fun _ => none) (W := w) (fun _ _ h => by cases h) ht).mono fun e w' ⟨he, hb⟩ => ?_
    obtain ⟨k, rfl⟩ : ∃ k : Nat, t = Int.ofNat k := ⟨t.toNat, by simp only [Int.ofNat_eq_natCast]; omega⟩
    exact ⟨_, mem_upto m k (by simp only [Int.ofNat_eq_natCast] at h6; omega), _, he, fun C' => .lit _, hb⟩
end Go.Proofs.YtcmffeaoailoiaaDoor.E
