/- Texts that the proof of a law rests on, put together: part 6. -/
import Derived.Test.YtajnboigikdefaaDoorFg5
namespace Go.EV
open Go Go.RowKit
set_option linter.unusedVariables false
set_option linter.unusedSimpArgs false
section
variable {P : Program} {C : Cx} {H H' : Heap} {base : Nat} {w w' : World} {ρ : Operand → Option AV} {e : Operand → Value} {o : Oper} {d : AV}
def natO (ρ : Operand → Option AV) : Option Operand → Option (Option Nat)
  | none => some none
  | some x => match (ρ x).bind intOfA with
    | some (.ofNat k) => some (some k)
    | _ => none
def IsN (v : Value) (n : Nat) : Prop := ∃ k, v = .int k (n : Int)
theorem natO_spec (hf : Fine C ρ e) {x : Option Operand} {r : Option Nat} (h : natO ρ x = some r) : (r = none ∧ x.map e = none) ∨ ∃ n v, r = some n ∧ x.map e = some v ∧ IsN v n := by
  cases x with
  | none => simp only [natO, Option.some.injEq] at h; subst h; exact .inl ⟨rfl, rfl⟩
  | some x =>
    simp only [natO] at h
    split at h
    · rename_i k hk
      cases h
      obtain ⟨dx, hdx, hn⟩ := Option.bind_eq_some_iff.1 hk
      obtain ⟨kk, hkk⟩ := intOf_spec hn (hf x _ hdx)
      exact .inr ⟨k, e x, rfl, rfl, kk, hkk⟩
    · cases h
theorem run_bound {x : Value} {n y : Nat} {code : BoundsCode} (hx : IsN x n) (h : n ≤ y) (w : World) : (Instr.sliceBound x y code).run P w = .ok n w := by
  obtain ⟨k, rfl⟩ := hx
  simp [Instr.sliceBound, asIntOf, h]
structure Bnd (lo hi mx : Option Nat) (len cap : Nat) (l h m : Nat) : Prop where
  el : l = lo.getD 0
  eh : h = hi.getD len
  em : m = mx.getD cap
  lh : l ≤ h
  hm : h ≤ m
  mc : m ≤ cap
  both : mx.isSome = true → hi.isSome = true
theorem run_bounds (hf : Fine C ρ e) {isSlice : Bool} {lo hi mx : Option Operand} {lo' hi' mx' : Option Nat} (h1 : natO ρ lo = some lo') (h2 : natO ρ hi = some hi') (h3 : natO ρ mx = some mx') {len cap l h m : Nat} (hb : Bnd lo' hi' mx' len cap l h m) (w : World) :
    (Instr.sliceBounds isSlice len cap (lo.map e) (hi.map e) (mx.map e)).run P w = .ok (l, h, m) w := by
  obtain ⟨e1, e2, e3, e4, e5, e6, e7⟩ := hb
  have n1 := natO_spec hf h1
  have n2 := natO_spec hf h2
  have n3 := natO_spec hf h3
  rcases n3 with ⟨rfl, hm3⟩ | ⟨nm, vm, rfl, hm3, hvm⟩
  · rcases n2 with ⟨rfl, hm2⟩ | ⟨nh, vh, rfl, hm2, hvh⟩
    · rcases n1 with ⟨rfl, hm1⟩ | ⟨nl, vl, rfl, hm1, hvl⟩
      · simp only [Option.getD_none] at e1 e2 e3
        subst e1; subst e2; subst e3
        simp [Instr.sliceBounds, hm1, hm2, hm3]
      · simp only [Option.getD_none, Option.getD_some] at e1 e2 e3
        subst e1; subst e2; subst e3
        simp [Instr.sliceBounds, hm1, hm2, hm3, run_bound hvl e4]
    · rcases n1 with ⟨rfl, hm1⟩ | ⟨nl, vl, rfl, hm1, hvl⟩
      · simp only [Option.getD_none, Option.getD_some] at e1 e2 e3
        subst e1; subst e2; subst e3
        simp [Instr.sliceBounds, hm1, hm2, hm3, run_bound hvh e5]
      · simp only [Option.getD_none, Option.getD_some] at e1 e2 e3
        subst e1; subst e2; subst e3
        simp [Instr.sliceBounds, hm1, hm2, hm3, run_bound hvl e4, run_bound hvh e5]
  · rcases n2 with ⟨rfl, hm2⟩ | ⟨nh, vh, rfl, hm2, hvh⟩
    · simp at e7
    · rcases n1 with ⟨rfl, hm1⟩ | ⟨nl, vl, rfl, hm1, hvl⟩
      · simp only [Option.getD_none, Option.getD_some] at e1 e2 e3
        subst e1; subst e2; subst e3
        simp [Instr.sliceBounds, hm1, hm2, hm3, run_bound hvh e5, run_bound hvm e6]
      · simp only [Option.getD_none, Option.getD_some] at e1 e2 e3
        subst e1; subst e2; subst e3
        simp [Instr.sliceBounds, hm1, hm2, hm3, run_bound hvl e4, run_bound hvh e5, run_bound hvm e6]
def bndA (lo hi mx : Option Nat) (len lim : Nat) : Bool := match mx with
  | none => Nat.ble (lo.getD 0) (hi.getD len) && Nat.ble (hi.getD len) lim
  | some m => match hi with
    | some h => Nat.ble (lo.getD 0) h && (Nat.ble h m && Nat.ble m lim)
    | none => false
theorem bndA_spec {lo hi mx : Option Nat} {len lim cap : Nat} (h : bndA lo hi mx len lim = true) (hc : lim ≤ cap) : Bnd lo hi mx len cap (lo.getD 0) (hi.getD len) (mx.getD cap) := by
  unfold bndA at h
  split at h
  · simp only [Bool.and_eq_true] at h
    have h1 := Nat.le_of_ble_eq_true h.1
    have h2 := Nat.le_of_ble_eq_true h.2
    exact ⟨rfl, rfl, rfl, h1, by simp; omega, Nat.le_refl _, fun h => by simp at h⟩
  · split at h
    · simp only [Bool.and_eq_true] at h
      have h1 := Nat.le_of_ble_eq_true h.1
      have h2 := Nat.le_of_ble_eq_true h.2.1
      have h3 := Nat.le_of_ble_eq_true h.2.2
      exact ⟨rfl, rfl, rfl, h1, by simpa using h2, by simp; omega, fun _ => rfl⟩
    · cases h
def capOf (mx : Option Nat) (cap : Option Nat) (l : Nat) : Option Nat := match mx with
  | some m => some (m - l)
  | none => match cap with
    | some k => some (k - l)
    | none => none
def cutOf (b v off len : Nat) (cap : Option Nat) (es : Nat) (lo hi mx : Option Nat) : Option AV := match bndA lo hi mx len (cap.getD len) with
  | true => match lo.getD 0 with
    | 0 => match mx with
      | some 0 => some .empty
      | _ => some (.sl b v off (hi.getD len) (capOf mx cap 0) es)
    | l + 1 => match Nat.blt (l + 1) (mx.getD (cap.getD len)) with
      | true => some (.sl b v (off + (l + 1) * es) (hi.getD len - (l + 1)) (capOf mx cap (l + 1)) es)
      | false => match Nat.beq (hi.getD len) (l + 1) with
        | true => some .empty
        | false => none
  | false => none
theorem cutOf_spec {b v off len es c : Nat} {cap : Option Nat} {loc : Loc} {lo hi mx : Option Nat} (h : cutOf b v off len cap es lo hi mx = some d) (hl : C.at_ b v = some loc) (hlo : loc.lo ≤ off) (hlc : len ≤ c) (hc : c ≤ 9223372036854775807)
    (hcap : ∀ k, cap = some k → c = k) (hroom : loc.off + (off - loc.lo) + c * es ≤ loc.sz) :
    ∃ l h m, Bnd lo hi mx len c l h m ∧ Den C d (.slice (some (if m = l then loc.ad off else (loc.ad off).add (l * es))) (h - l) (m - l)) := by
  have hlim : cap.getD len ≤ c := by
    cases cap with
    | none => simpa using hlc
    | some k => have := hcap k rfl; simp; omega
  unfold cutOf at h
  split at h
  · rename_i hb
    have hB := bndA_spec hb hlim
    refine ⟨_, _, _, hB, ?_⟩
    obtain ⟨_, _, _, h4, h5, h6, _⟩ := hB
    generalize hl0 : lo.getD 0 = l0 at *
    generalize hh0 : hi.getD len = h0 at *
    have hcap' : ∀ k, capOf mx cap l0 = some k → mx.getD c - l0 = k := by
      intro k hk
      unfold capOf at hk
      split at hk
      · cases hk; rfl
      · split at hk
        · rename_i k'; cases hk; have := hcap k' rfl; subst this; rfl
        · cases hk
    split at h
    · split at h
      · cases h
        have : h0 = 0 := by simp at h5; omega
        subst this
        simp only [Option.getD_some]
        exact .empty _ _
      · cases h
        have ha : (if mx.getD c = 0 then loc.ad off else (loc.ad off).add (0 * es)) = loc.ad off := by
          split
          · rfl
          · rw [Loc.add _ _ _ hlo]; simp
        rw [ha]
        refine .sl hl hlo ?_ ?_ ?_ ?_
        · omega
        · omega
        · simpa using hcap'
        · have : (mx.getD c - 0) * es ≤ c * es := Nat.mul_le_mul_right _ (by omega)
          omega
    · rename_i l _
      split at h
      · rename_i hlt
        cases h
        have hlt' : l + 1 < mx.getD (cap.getD len) := by simpa [Nat.blt_eq] using hlt
        have hne : mx.getD c ≠ l + 1 := by
          cases mx with
          | none => simp at hlt' ⊢; omega
          | some m => simp at hlt' ⊢; omega
        rw [if_neg hne, Loc.add _ _ _ hlo]
        refine .sl hl (by omega) ?_ ?_ hcap' ?_
        · omega
        · omega
        · have e1 : (l + 1) * es + (mx.getD c - (l + 1)) * es ≤ c * es := by
            rw [← Nat.add_mul]; exact Nat.mul_le_mul_right _ (by omega)
          show loc.off + (off + (l + 1) * es - loc.lo) + (mx.getD c - (l + 1)) * es ≤ loc.sz
          omega
      · split at h
        · rename_i hbe
          cases h
          have : h0 = l + 1 := Nat.eq_of_beq_eq_true hbe
          subst this
          rw [Nat.sub_self]
          exact .empty _ _
        · cases h
  · cases h
noncomputable def cutA (P : Program) (H : Heap) (ρ : Operand → Option AV) (t : TypeId) (x : Operand) (lo hi mx : Option Operand) : Option AV := match natO ρ lo, natO ρ hi, natO ρ mx with
  | some lo, some hi, some mx => match ρ x, runQ P (underlying t) with
    | some (.sl b v off len cap es), some (.slice elem) => match sizeA P elem with
      | some size => match Nat.beq size es with
        | true => cutOf b v off len cap es lo hi mx
        | false => none
      | none => none
    | some .empty, some (.slice elem) => match sizeA P elem, bndA lo hi mx 0 0 with
      | some _, true => some .empty
      | _, _ => none
    | some (.ptr b v off), some (.array len elem) => match sizeA P elem, rowA H b v with
      | some (size + 1), some (B, n) => match Nat.ble (off + len * (size + 1)) n, Nat.ble len 9223372036854775807, Nat.blt 0 len with
        | true, true, true => cutOf b v off len (some len) (size + 1) lo hi mx
        | _, _, _ => none
      | _, _ => none
    | _, _ => none
  | _, _, _ => none
theorem g_cut (hM : Mem C H base w) (hf : Fine C ρ e) {t : TypeId} {x : Operand} {lo hi mx : Option Operand} (ho : o.op = .slice t x lo hi mx) (h : cutA P H ρ t x lo hi mx = some d) : Gives P C e o d := by
  unfold cutA at h
  split at h
  · rename_i lo' hi' mx' n1 n2 n3
    split at h
    · rename_i b v off len cap es elem hx hu
      split at h
      · rename_i size hs
        split at h
        · rename_i hb
          obtain rfl := Nat.eq_of_beq_eq_true hb
          have r1 := runQ_spec P _ _ hu
          have r2 := runQ_spec P _ _ (show runQ P (sizeOf elem) = some size from hs)
          have hv := hf x _ hx
          generalize hbx : e x = vx at hv
          cases hv with
          | @sl _ _ _ _ _ _ loc c h0 h1 h3 h4 h5 h6 =>
            obtain ⟨l, hh, m, hB, hD⟩ := cutOf_spec h h0 h1 h3 h4 h5 h6
            refine ⟨_, hD, fun w => ?_⟩
            simp only [execOp, ho, Instr.sliceAt, Sem.run_bind, r1, Result.andThen_ok, Instr.slice, hbx, run_bounds hf n1 n2 n3 hB, r2, Sem.run_pure]
            split <;> rfl
        · cases h
      · cases h
    · rename_i elem hx hu
      split at h
      · rename_i size hs hb
        cases h
        have r1 := runQ_spec P _ _ hu
        have r2 := runQ_spec P _ _ (show runQ P (sizeOf elem) = some size from hs)
        have hv := hf x _ hx
        generalize hbx : e x = vx at hv
        cases hv with
        | empty a c =>
          have hB := bndA_spec hb (Nat.zero_le c)
          have h0 : hi'.getD 0 = 0 := by
            have := hB.hm
            cases mx' with
            | none =>
              unfold bndA at hb
              simp only [Bool.and_eq_true] at hb
              exact Nat.le_zero.1 (Nat.le_of_ble_eq_true hb.2)
            | some m =>
              unfold bndA at hb
              split at hb
              · rename_i he; cases he
              · split at hb
                · rename_i m' he h'
                  simp only [Bool.and_eq_true] at hb
                  have h2 := Nat.le_of_ble_eq_true hb.2.1
                  have h3 := Nat.le_of_ble_eq_true hb.2.2
                  simp; omega
                · cases hb
          have h1 : lo'.getD 0 = 0 := by have := hB.lh; omega
          refine ⟨.slice (some (if mx'.getD c = lo'.getD 0 then a else a.add (lo'.getD 0 * size))) 0 (mx'.getD c - lo'.getD 0), .empty _ _, fun w => ?_⟩
          simp only [execOp, ho, Instr.sliceAt, Sem.run_bind, r1, Result.andThen_ok, Instr.slice, hbx, run_bounds hf n1 n2 n3 hB, r2, Sem.run_pure, h0, h1, Nat.zero_sub]
          split <;> rfl
      · cases h
    · rename_i b v off len elem hx hu
      split at h
      · rename_i size B n hs hrow
        split at h
        · rename_i hb1 hb2 hb3
          have r1 := runQ_spec P _ _ hu
          have r2 := runQ_spec P _ _ (show runQ P (sizeOf elem) = some (size + 1) from hs)
          have hv := hf x _ hx
          generalize hbx : e x = vx at hv
          cases hv with
          | @ptr _ _ _ loc hl hlo =>
            obtain ⟨hB, hvm⟩ := rowA_spec hrow
            have L := (hM.blk _ B hB).2
            obtain ⟨arr, flo, fhi, q1, q2, q3⟩ := L.obj v n loc hvm hl
            have hle := Nat.le_of_ble_eq_true hb1
            have hpos : 0 < len * (size + 1) := Nat.mul_pos (by simpa [Nat.blt_eq] using hb3) (Nat.succ_pos _)
            obtain ⟨d', u, _, hu', _⟩ := L.cell v n loc hvm hl (off + len * (size + 1) - 1) (by omega) (by omega)
            have e2 : w.cell? (loc.ad (off + len * (size + 1) - 1)) = arr[loc.off + (off + len * (size + 1) - 1 - loc.lo)]? := by simp [World.cell?, Loc.ad, q1]
            rw [e2] at hu'
            have e3 := (Array.getElem?_eq_some_iff.1 hu').1
            obtain ⟨l, hh, m, hBn, hD⟩ := cutOf_spec h hl hlo (Nat.le_refl _) (Nat.le_of_ble_eq_true hb2) (fun k hk => by cases hk; rfl) (by omega)
            refine ⟨_, hD, fun w => ?_⟩
            simp only [execOp, ho, Instr.sliceAt, Sem.run_bind, r1, Result.andThen_ok, Instr.sureAddr, hbx, run_bounds hf n1 n2 n3 hBn, r2, Sem.run_pure]
        · cases h
      · cases h
    · cases h
  · cases h
end
end Go.EV
