/- Texts that the proof of a law rests on, put together: part 46. -/
import Derived.Test.YtdmljeaigjfenaaMy45
import Derived.Deep.DeepBigQuietO
import Derived.Deep.Draws
import Derived.Handy
import Derived.Laws.Runes
import Derived.Shelf.Small.Utf8
import Derived.Shelf.Strings.IndexAnyAll
import Derived.WalkMore
namespace Go.EV
open Go Go.Shelf Go.RowKit Go.Lib Go.Proofs
open Go.XW (Fits)
set_option linter.unusedVariables false
set_option linter.unusedSimpArgs false
section
variable {P : Program} {ρ : Ren}
theorem get!_at (s : ByteArray) (i : Nat) (h : i < s.size) : s.get! i = s[i]'h := by
  simp [ByteArray.get!, getElem!_pos, h]
  rfl
theorem decode_facts (s : ByteArray) (i : Nat) (h : i < s.size) :
    ((s.get! i).toNat < 128 ∧ Utf8.decode s i = ((s.get! i).toNat, 1)) ∨
    ∃ c n : Nat, Utf8.decode s i = (c, n) ∧ 128 ≤ c ∧ c < 2147483648 ∧ Utf8.valid (c : Int) = true ∧ 1 ≤ n ∧ i + n ≤ s.size ∧ ∀ j, i ≤ j → j < i + n → 128 ≤ (s.get! j).toNat := by
  by_cases h0 : (s.get! i).toNat < 128
  · left
    refine ⟨h0, ?_⟩
    unfold Utf8.decode
    simp only [Nat.add_zero, h0, if_true]
  · right
    have one : (∀ j, i ≤ j → j < i + 1 → 128 ≤ (s.get! j).toNat) := fun j h1 h2 => by
      have : j = i := by omega
      subst this; omega
    have er : Utf8.valid ((Utf8.runeError : Nat) : Int) = true := by decide
    have fall : ∃ c n : Nat, ((Utf8.runeError, 1) : Nat × Nat) = (c, n) ∧ 128 ≤ c ∧ c < 2147483648 ∧ Utf8.valid (c : Int) = true ∧ 1 ≤ n ∧ i + n ≤ s.size ∧ ∀ j, i ≤ j → j < i + n → 128 ≤ (s.get! j).toNat := ⟨_, _, rfl, by decide, by decide, er, by omega, by omega, one⟩
    unfold Utf8.decode
    simp only [Nat.add_zero, h0, if_false]
    have cont : ∀ k, ((decide (i + k < s.size)) && ((s.get! (i + k)).toNat / 64 == 2)) = true → i + k < s.size ∧ 128 ≤ (s.get! (i + k)).toNat := fun k hk => by
      rw [Bool.and_eq_true, decide_eq_true_eq, beq_iff_eq] at hk
      exact ⟨hk.1, by omega⟩
    split
    · rename_i g
      rw [Bool.and_eq_true] at g
      obtain ⟨c1, c2⟩ := cont 1 g.2
      split
      · rename_i hc
        refine ⟨_, _, rfl, hc, by omega, ?_, by omega, by omega, fun j h1 h2 => ?_⟩
        · unfold Utf8.valid
          simp only [Bool.or_eq_true, Bool.and_eq_true, decide_eq_true_eq]
          left; omega
        · have : j = i ∨ j = i + 1 := by omega
          rcases this with rfl | rfl <;> omega
      · exact fall
    · split
      · rename_i g
        rw [Bool.and_eq_true, Bool.and_eq_true] at g
        obtain ⟨c1, c2⟩ := cont 1 g.1.2
        obtain ⟨d1, d2⟩ := cont 2 g.2
        split
        · rename_i hc
          rw [Bool.and_eq_true, decide_eq_true_eq] at hc
          refine ⟨_, _, rfl, by omega, by omega, hc.2, by omega, by omega, fun j h1 h2 => ?_⟩
          have : j = i ∨ j = i + 1 ∨ j = i + 2 := by omega
          rcases this with rfl | rfl | rfl <;> omega
        · exact fall
      · split
        · rename_i g
          rw [Bool.and_eq_true, Bool.and_eq_true, Bool.and_eq_true] at g
          obtain ⟨c1, c2⟩ := cont 1 g.1.1.2
          obtain ⟨d1, d2⟩ := cont 2 g.1.2
          obtain ⟨e1, e2⟩ := cont 3 g.2
          split
          · rename_i hc
            rw [Bool.and_eq_true, decide_eq_true_eq] at hc
            refine ⟨_, _, rfl, by omega, by omega, hc.2, by omega, by omega, fun j h1 h2 => ?_⟩
            have : j = i ∨ j = i + 1 ∨ j = i + 2 ∨ j = i + 3 := by omega
            rcases this with rfl | rfl | rfl | rfl <;> omega
          · exact fall
        · exact fall
theorem run_next_any (w : World) (k : Nat) (s : ByteArray) (pos : Nat) (ty : TypeId) (hk : w.heap[k]? = some (.stringIter s pos)) (h : pos < s.size) :
    (Instr.next (.pointer (some ⟨k, 0, none⟩)) true ty).run P w =
      .ok (.tuple #[.bool true, .int .i64 pos, .int .i32 (Utf8.decode s pos).1]) { w with heap := w.heap.setIfInBounds k (.stringIter s (pos + (Utf8.decode s pos).2)) } := by
  simp only [Instr.next, getObj, setObj, Sem.run_bind, Sem.run, hk, Result.andThen, h, if_true]
  simp [goInt, Sem.run, hk]
theorem run_next_any_end (w : World) (k : Nat) (s : ByteArray) (pos : Nat) (ty : TypeId) (hk : w.heap[k]? = some (.stringIter s pos)) (h : ¬ pos < s.size) :
    (Instr.next (.pointer (some ⟨k, 0, none⟩)) true ty).run P w = .ok (.tuple #[.bool false]) w := by
  simp [Instr.next, getObj, Sem.run, hk, h]
theorem below_set {B : Nat} {a w : World} (h : Below B a w) {k : Nat} (hk : B ≤ k) (o : Obj) : Below B a { w with heap := w.heap.setIfInBounds k o } :=
  ⟨h.os, h.tape, h.output, by rw [Array.size_setIfInBounds]; exact h.size, fun j hj => by
    show (w.heap.setIfInBounds k o)[j]? = _
    rw [Array.getElem?_setIfInBounds_ne (by omega)]
    exact h.block j hj⟩
set_option maxHeartbeats 4000000 in
set_option maxRecDepth 1000000 in
theorem rune_far (L : Lays.n152 P ρ) (s : ByteArray) (r : Int) (w : World) (h1 : 128 ≤ r) (hv : Lib.validRune r = true) (hne : r ≠ 65533) (has : ∀ (j : Nat) b, s.data.toList[j]? = some b → b.toNat < 128) :
    Calls P (ρ.f 152) #[.string s, .int .i32 r] w fun e w' => e = .returned (.int .i64 (-1)) ∧ ∃ n, w' = w.drewN n := by
  have HA : Aside (∀ (j : Nat) b, s.data.toList[j]? = some b → b.toNat < 128) := has
  clear has
  have mixed := L.mixed
  have t3 := L.t3; have a3 := L.a3; have z3 := L.z3; have v3 := L.v3
  have t4 := L.t4; have a4 := L.a4; have z4 := L.z4; have v4 := L.v4
  have t5 := L.t5; have a5 := L.a5; have z5 := L.z5; have v5 := L.v5
  have t9 := L.t9; have a9 := L.a9; have z9 := L.z9; have v9 := L.v9
  have t21 := L.t21; have a21 := L.a21; have z21 := L.z21; have v21 := L.v21
  have hnr : (r == 65533) = false := beq_eq_false_iff_ne.2 hne
  have h2 : ¬ r < 128 := by omega
  have e137 : ∀ args w, (callFunc (ρ.f 137) args).run P w = .ok (.enter (ρ.f 137) args) w := enters_of L.f137 (by kernel_rfl) rfl
  have e119 : ∀ args w, (callFunc (ρ.f 119) args).run P w = .ok (.enter (ρ.f 119) args) w := enters_of L.f119 (by kernel_rfl) rfl
  have hsome : (P.underlying (ρ.t 21)).isSome = true := by rw [t21]; rfl
  have hconv : ∀ w, (convert (ρ.t 21) (ρ.t 9) (.int .i32 r)).run P w = .ok (.string (Utf8.encode r)) w := fun w => run_convert_int_string w _ _ _ _ hsome t9
  obtain ⟨q1, q2, q3⟩ := encode_facts r (by rw [validRune_eq]; exact hv) h1
  generalize Utf8.encode r = rs at *
  have hlast : IntKind.i64.wrap ((rs.size : Int) - 1) = ((rs.size - 1 : Nat) : Int) := by rw [wrap_small _ (by omega) (by omega)]; omega
  obtain ⟨n, hn⟩ : ∃ n, n = rs.size - 1 := ⟨_, rfl⟩
  go_enter L.f152, Body.n152_ntmps ρ
  go_wp2_with (go_at_fn (ρ.f 119); refine (Any.utf8_ValidRune { L with } _ _).mono ?_; rintro e w' ⟨rfl, hw⟩; rw [hw, hv])
  go_step3
  go_wp2
  refine wp_loop_rounds 1 ?_
  rw [rounds_succ]
  by_cases hlt : rs.size - 1 < s.size
  · have hlz : (((rs.size - 1 : Nat) : Int) < (s.size : Int)) := by omega
    obtain ⟨x, hx⟩ : ∃ x : UInt8, s[rs.size - 1]'hlt = x := ⟨_, rfl⟩
    obtain ⟨y, hy⟩ : ∃ y : UInt8, rs[rs.size - 1]'(by omega) = y := ⟨_, rfl⟩
    have hx1 : x.toNat < 128 := HA.out (rs.size - 1) x (by rw [← hx]; exact Lib.data_getElem? s _ hlt)
    have hy1 : 128 ≤ y.toNat := by rw [← hy]; exact q3 (by omega)
    have hxy : ((x.toNat : Int) == (y.toNat : Int)) = false := beq_eq_false_iff_ne.2 (by omega)
    have hno : ∀ e : Nat, Lib.indexByte (s.extract (rs.size - 1 + 1) e).data.toList y = -1 := fun e => by
      rw [← Lib.firstIdx_eq]
      exact firstIdx_ascii s _ _ y (fun b hb => by
        obtain ⟨j, hj, e⟩ := List.getElem_of_mem hb
        exact HA.out j b (by rw [List.getElem?_eq_getElem hj, e])) hy1
    have hback : ((y.toNat : Int)).toNat.toUInt8 = y := by simp
    have hp1 : IntKind.i64.wrap (((rs.size - 1 : Nat) : Int) + 1) = ((rs.size - 1 + 1 : Nat) : Int) := by rw [wrap_small _ (by omega) (by omega)]; omega
    go_wp2
    go_step3
    go_wp2
    go_big_quiet_o (fail)
    go_wp2
    go_big_quiet_o (first | (go_at_fn (ρ.f 137); refine (Any.strings_IndexByte { L with } _ _ _).mono ?_; rintro e w'' ⟨rfl, rfl⟩; rw [hback, hno]; exact ⟨rfl, _, rfl⟩))
    go_wp2
    simp only [Exit.noGoto, Exit.inBlock, Exit.then]
    go_ret
    exact ⟨rfl, _, rfl⟩
  · have hlz : ¬ (((rs.size - 1 : Nat) : Int) < (s.size : Int)) := by omega
    go_wp2
    go_ret
    exact ⟨rfl, 0, rfl⟩
theorem Lib_validRune (r : Int) : Go.validRune r = Lib.validRune r := by
  unfold Go.validRune Lib.validRune
  rfl
set_option maxHeartbeats 4000000 in
set_option maxRecDepth 1000000 in
theorem rune_err (L : Lays.n152 P ρ) (s : ByteArray) (w : World) (has : ∀ (j : Nat) b, s.data.toList[j]? = some b → b.toNat < 128) :
    Calls P (ρ.f 152) #[.string s, .int .i32 65533] w fun e w' => e = .returned (.int .i64 (-1)) ∧ ∃ pos, w' = w.iter s pos := by
  have HA : Aside (∀ (j : Nat) b, s.data.toList[j]? = some b → b.toNat < 128) := has
  clear has
  have mixed := L.mixed
  have t3 := L.t3; have a3 := L.a3; have z3 := L.z3; have v3 := L.v3
  have t4 := L.t4; have a4 := L.a4; have z4 := L.z4; have v4 := L.v4
  have t5 := L.t5; have a5 := L.a5; have z5 := L.z5; have v5 := L.v5
  have t9 := L.t9; have a9 := L.a9; have z9 := L.z9; have v9 := L.v9
  have t21 := L.t21; have a21 := L.a21; have z21 := L.z21; have v21 := L.v21
  go_enter L.f152, Body.n152_ntmps ρ
  go_wp2
  go_loopg [5, 6] s.size (fun g _ _ wx => ∃ i : Nat, i + g = s.size ∧ wx = w.iter s i)
  case atStart => exact ⟨0, by omega, rfl⟩
  case round =>
    obtain ⟨i, hig, rfl⟩ := hrel
    cases gk with
    | zero =>
      obtain rfl : i = s.size := by omega
      have hnx := run_next_end (P := P) w s s.size
      go_wp2
      go_ret
      exact ⟨rfl, _, rfl⟩
    | succ g =>
      have hi : i < s.size := by omega
      obtain ⟨x, hx⟩ : ∃ x : UInt8, s[i]'hi = x := ⟨_, rfl⟩
      have hx128 : x.toNat < 128 := HA.out i x (by rw [← hx]; exact Lib.data_getElem? s i hi)
      have hnx := fun ty => run_next_ascii (P := P) w s i ty hi (by rw [hx]; exact hx128)
      rw [hx] at hnx
      clear hx
      have hne : ((x.toNat : Int) == 65533) = false := beq_eq_false_iff_ne.2 (by omega)
      go_wp2
      go_roundg g
      case measure => omega
      case rel => exact ⟨i + 1, by omega, rfl⟩
theorem rune_hi (L : Lays.n152 P ρ) (s : ByteArray) (c : Nat) (w : World) (h1 : 128 ≤ c) (hv : Utf8.valid (c : Int) = true) (has : ∀ (j : Nat) b, s.data.toList[j]? = some b → b.toNat < 128) :
    Calls P (ρ.f 152) #[.string s, .int .i32 (c : Int)] w fun e w' => e = .returned (.int .i64 (-1)) ∧ Below w.heap.size w w' := by
  by_cases e : c = 65533
  · subst e
    exact (rune_err L s w has).mono fun e w' ⟨h, pos, hw⟩ => ⟨h, by rw [hw]; exact (Below.refl _ _).alloc (Nat.le_refl _) _⟩
  · exact (rune_far L s (c : Int) w (by omega) (by rw [← Lib_validRune]; rw [← validRune_eq]; exact hv) (by omega) has).mono fun e w' ⟨h, n, hw⟩ => ⟨h, by rw [hw]; exact ⟨rfl, rfl, rfl, Nat.le_refl _, fun _ _ => rfl⟩⟩
set_option maxHeartbeats 8000000 in
set_option maxRecDepth 1000000 in
theorem idx_short (L : Lays.n153 P ρ) (s chars : ByteArray) (w : World) (h2 : 2 ≤ chars.size) (h8 : s.size ≤ 8) (hac : ∀ (j : Nat) b, chars.data.toList[j]? = some b → b.toNat < 128) :
    Calls P (ρ.f 153) #[.string s, .string chars] w fun e w' => e = .returned (.int .i64 (Lib.indexAny s.data.toList chars.data.toList)) ∧ Below w.heap.size w w' := by
  have HA : Aside (∀ (j : Nat) b, chars.data.toList[j]? = some b → b.toNat < 128) := hac
  clear hac
  have hemp : chars.toList.isEmpty = false := by
    rw [Lib.toList_data]
    cases h : chars.data.toList with
    | nil => have := Lib.size_eq chars; rw [h, List.length_nil] at this; omega
    | cons _ _ => rfl
  have hn1 : ((chars.size : Int) == 1) = false := beq_eq_false_iff_ne.2 (by omega)
  have h8z : decide ((8 : Int) < (s.size : Int)) = false := decide_eq_false (by omega)
  have t3 := L.t3; have a3 := L.a3; have z3 := L.z3; have v3 := L.v3
  have t4 := L.t4; have a4 := L.a4; have z4 := L.z4; have v4 := L.v4
  have t5 := L.t5; have a5 := L.a5; have z5 := L.z5; have v5 := L.v5
  have t9 := L.t9; have a9 := L.a9; have z9 := L.z9; have v9 := L.v9
  have t21 := L.t21; have a21 := L.a21; have z21 := L.z21; have v21 := L.v21
  have e152 : ∀ args w, (callFunc (ρ.f 152) args).run P w = .ok (.enter (ρ.f 152) args) w := enters_of L.f152 (by kernel_rfl) rfl
  have e226 : ∀ args w, (callFunc (ρ.f 226) args).run P w = .ok (.enter (ρ.f 226) args) w := enters_of L.f226 (by kernel_rfl) rfl
  go_enter L.f153, Body.n153_ntmps ρ
  go_wp2_with (go_at_fn (ρ.f 226); refine (Any.strings_shouldUseASCIISet { L with } _ _).mono ?_; rintro e w' ⟨rfl, hw⟩; rw [hw, h8z])
  go_loopg [9, 10] s.size (fun g _ _ wx => ∃ i : Nat, i + g = s.size ∧ wx.heap[w.heap.size]? = some (.stringIter s i) ∧ Below w.heap.size w wx ∧ Lib.NoAny s.data.toList chars.data.toList i)
  case atStart => exact ⟨0, by omega, World.iter_heap _ _ _, (Below.refl _ _).alloc (Nat.le_refl _) _, Lib.NoAny.zero _ _⟩
  case round =>
    obtain ⟨i, hig, hit, hbl, hno⟩ := hrel
    have HB : Aside (Below w.heap.size w wr) := hbl
    have HN : Aside (Lib.NoAny s.data.toList chars.data.toList i) := hno
    have hsz : w.heap.size < wr.heap.size := (Array.getElem?_eq_some_iff.1 hit).1
    clear hno hbl
    cases gk with
    | zero =>
      obtain rfl : i = s.size := by omega
      have hnx := fun ty => run_next_any_end (P := P) wr w.heap.size s s.size ty hit (Nat.lt_irrefl _)
      go_wp2
      go_ret
      exact ⟨by rw [Lib.indexAny_none (by rw [← Lib.size_eq]; exact HN.out)]; rfl, HB.out⟩
    | succ g =>
      have hi : i < s.size := by omega
      obtain ⟨wy, hwy⟩ : ∃ wy : World, wy = { wr with heap := wr.heap.setIfInBounds w.heap.size (.stringIter s (i + (Utf8.decode s i).2)) } := ⟨_, rfl⟩
      have hnx := fun ty => run_next_any (P := P) wr w.heap.size s i ty hit hi
      rw [← hwy] at hnx
      have hyi : wy.heap[w.heap.size]? = some (.stringIter s (i + (Utf8.decode s i).2)) := by
        rw [hwy]; show (wr.heap.setIfInBounds _ _)[_]? = _
        rw [Array.getElem?_setIfInBounds_self_of_lt hsz]
      have hyb : Below w.heap.size w wy := by rw [hwy]; exact below_set HB.out (Nat.le_refl _) _
      have hat : ∀ j, (h : j < s.size) → s.data.toList[j]? = some (s.get! j) := fun j h => by rw [get!_at s j h]; exact Lib.data_getElem? s j h
      rcases decode_facts s i hi with ⟨hx128, hd⟩ | ⟨c, n, hd, hc1, hc2, hc3, hn1', hn2, hn3⟩
      · rw [hd] at hnx hyi
        have HY : Aside (wy.heap[w.heap.size]? = some (.stringIter s (i + 1)) ∧ Below w.heap.size w wy) := ⟨hyi, hyb⟩
        have Hx : Aside (s.data.toList[i]? = some (s.get! i)) := hat i hi
        clear hat hwy hyi hyb
        generalize s.get! i = x at *
        have hcon := Lib.contains_iff_indexByte chars.data.toList x
        have hback : ((x.toNat : Int)).toNat.toUInt8 = x := by simp
        cases hin : chars.data.toList.contains x
        · rw [hin] at hcon
          have hlt : ¬ ((0 : Int) ≤ Lib.indexByte chars.data.toList x) := of_decide_eq_false hcon.symm
          clear hcon
          go_wp2_with (go_at_fn (ρ.f 152); refine (Any.strings_IndexRune_ascii { L with } _ _ _ (by omega) (by omega)).mono ?_; rintro e w' ⟨rfl, hw⟩; rw [hw, hback])
          go_roundg g
          case measure => omega
          case rel => exact ⟨i + 1, by omega, HY.out.1, HY.out.2, HN.out.succ Hx.out hin⟩
        · rw [hin] at hcon
          have hge : (0 : Int) ≤ Lib.indexByte chars.data.toList x := of_decide_eq_true hcon.symm
          clear hcon
          go_wp2_with (go_at_fn (ρ.f 152); refine (Any.strings_IndexRune_ascii { L with } _ _ _ (by omega) (by omega)).mono ?_; rintro e w' ⟨rfl, hw⟩; rw [hw, hback])
          go_ret
          exact ⟨by rw [Lib.indexAny_hit HN.out Hx.out hin]; rfl, HY.out.2⟩
      · rw [hd] at hnx hyi
        have hnot : Lib.NoAny s.data.toList chars.data.toList (i + n) := fun j b hj hb => by
          by_cases hji : j < i
          · exact HN.out j b hji hb
          · rw [hat j (by omega)] at hb
            cases hb
            cases hcc : chars.data.toList.contains (s.get! j) with
            | false => rfl
            | true =>
              have hm := List.contains_iff_mem.1 hcc
              obtain ⟨q, hq, e⟩ := List.getElem_of_mem hm
              have := HA.out q _ (by rw [List.getElem?_eq_getElem hq, e])
              have := hn3 j (by omega) hj
              omega
        have HY : Aside (wy.heap[w.heap.size]? = some (.stringIter s (i + n)) ∧ Below w.heap.size w wy ∧ Lib.NoAny s.data.toList chars.data.toList (i + n)) := ⟨hyi, hyb, hnot⟩
        clear hat hwy hyi hyb hnot hn3
        have HR : Aside (∀ wz, Calls P (ρ.f 152) #[.string chars, .int .i32 (c : Int)] wz fun e w' => e = .returned (.int .i64 (-1)) ∧ Below wz.heap.size wz w') := fun wz => rune_hi { L with } chars c wz hc1 hc3 HA.out
        go_wp2_with (go_at_fn (ρ.f 152); refine (HR.out _).mono ?_; rintro e w' ⟨rfl, hw⟩)
        go_roundg (g + 1 - n)
        case measure => omega
        case rel =>
          have hsy : w.heap.size < wy.heap.size := (Array.getElem?_eq_some_iff.1 HY.out.1).1
          exact ⟨i + n, by omega, by rw [hw.block _ hsy]; exact HY.out.1, HY.out.2.1.trans (hw.mono (by omega)), HY.out.2.2⟩
theorem idx_any (L : Lays.n153 P ρ) (h116 : (P.info? (ρ.t 116)).map (fun i => (i.zero, i.size)) = some (some (.agg (Array.replicate 256 (.bool false))), 256)) (s chars : ByteArray) (w : World) (h2 : 2 ≤ chars.size) (hs : s.size < 4294967281) (hcs : chars.size < 4294967281) (hac : ∀ (j : Nat) b, chars.data.toList[j]? = some b → b.toNat < 128) :
    Calls P (ρ.f 153) #[.string s, .string chars] w fun e w' => e = .returned (.int .i64 (Lib.indexAny s.data.toList chars.data.toList)) ∧ Below w.heap.size w w' := by
  by_cases h8 : s.size ≤ 8
  · exact idx_short L s chars w h2 h8 hac
  · refine (Any.strings_IndexAny_long L (zero_of_info h116).1 (zero_of_info h116).2 s chars w h2 (by omega) hs hcs hac).mono fun e w' ⟨h1, h2⟩ => ⟨h1, ?_⟩
    rw [h2]
    exact ((Below.refl _ _).alloc (Nat.le_refl _) _).alloc (by simp) _
end
theorem fn_lib {P : Program} {f : FuncId} {ps : List Sh} {pre : dens ps → Option Prop} {t : Ty} {val : dens ps → t.den} (hbk : ∀ x, bookM (rws ps x) (bxs 0 ps x) True = bookM [] [] True) (hn : nbx ps = 0)
    (h : ∀ (x : dens ps) (C : Cx) (vs : List Value) (w : World), holds (pre x) → Dens C (avs 0 (bns ps) ps x) vs → Calls P f vs.toArray w (fun e w' => ∃ u, e = .returned u ∧ Below w.heap.size w w' ∧ ∀ C', Den C' (t.arg (val x)) u)) :
    FnOk P ⟨f, ps, pre, [⟨false, [.v t], val, fun _ => none⟩]⟩ := by
  intro base C w vs x hM hat hD hp
  have hM : SMem C (bookM (rws ps x) (bxs 0 ps x) True) base w := hM
  rw [hbk x] at hM
  have hat : ∀ b v loc, C.at_ b v = some loc → v = 0 ∧ b < nbx ps := hat
  have hat0 : ∀ b v loc, C.at_ b v ≠ some loc := fun b v loc hl => by have := (hat b v loc hl).2; omega
  refine (h x C vs w hp hD).mono fun e w' he => ?_
  obtain ⟨u, rfl, hB, hu⟩ := he
  have hfit : Fits C.unk.imm w' := hM.fits.below hB
  refine ⟨_, List.mem_singleton_self _, trivial, C00 C.unk.imm, [u], ?_, .cons (hu _) (.nil _), ?_⟩
  · show LStep C (C00 C.unk.imm) (bookM [] [] True) base w w'
    exact ⟨fun b v loc hl => absurd hl (hat0 b v loc), C00_mem hfit (Nat.le_trans hM.mem.base hB.size) trivial, fun a v ha => ha, hB.mono hM.mem.base, fun k hk _ => ⟨hB.block k hk, ⟨fun b v loc hl => (by simp [C0, C00] at hl), fun r v hv => (by simp [C00] at hv)⟩, fun a ha => rfl⟩⟩
  · show EndOk false (oneV (dropA (nbx ps) [u])) (.returned u)
    rw [hn]; rfl
end Go.EV
