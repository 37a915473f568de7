/- Texts that the proof of a law rests on, put together: part 7. -/
import Derived.Test.YtajnboigikdefaaDoorFg6
import Derived.Laws.BytesString
import Derived.Laws.RangeString
namespace Go.EV
open Go Go.RowKit
set_option linter.unusedVariables false
set_option linter.unusedSimpArgs false
section
variable {P : Program} {C : Cx} {H H' : Heap} {base : Nat} {w w' : World} {ρ : Operand → Option AV} {e : Operand → Value} {o : Oper} {d : AV}
noncomputable def srcA (H : Heap) (size m : Nat) : AV → Option (List AV)
  | .lit (.slice none 0 _) => match m with
    | 0 => some []
    | _ => none
  | .empty => match m with
    | 0 => some []
    | _ => none
  | .sl b v off len _ _ => match Nat.ble m len, rowA H b v with
    | true, some (B, n) => match Nat.ble (off + m * size) n with
      | true => some ((B.cells.drop off).take (m * size))
      | false => none
    | _, _ => none
  | .lit (.string s) => match Nat.beq m s.size with
    | true => some (s.data.toList.map fun b => .lit (.int .u8 b.toNat))
    | false => none
  | _ => none
theorem map_lits {α : Type} (C : Cx) (f : α → Value) : ∀ l : List α, Dens C (l.map fun x => .lit (f x)) (l.map f)
  | [] => .nil C
  | x :: r => (map_lits C f r).cons (.lit _)
theorem src_spec (hM : Mem C H base w) {size m : Nat} {x : AV} {u : Value} {cs : List AV} (h : srcA H size m x = some cs) (hx : Den C x u) :
    ∃ us, Dens C cs us ∧ ∀ w' : World, (∀ k, k < w.heap.size → w'.heap[k]? = w.heap[k]?) → (Builtin.firstCells size m u).run P w' = .ok us.toArray w' := by
  unfold srcA at h
  split at h
  · split at h
    · cases h; cases hx
      exact ⟨[], .nil C, fun w' _ => by simp [Builtin.firstCells]⟩
    · cases h
  · split at h
    · cases h
      cases hx with
      | empty a c => exact ⟨[], .nil C, fun w' _ => by simp [Builtin.firstCells, loadCells, loadCellsFrom]⟩
    · cases h
  · split at h
    · rename_i B n hb hrow
      split at h
      · rename_i hb2
        cases h
        obtain ⟨hB, hv⟩ := rowA_spec hrow
        cases hx with
        | @sl _ _ _ _ _ _ loc c h0 h1 h3 h4 h5 h6 =>
          obtain ⟨us, q1, q2, q3, q4⟩ := hM.read hB hv h0 (k := m * size) h1 (Nat.le_of_ble_eq_true hb2)
          refine ⟨us, q1, fun w' hw => ?_⟩
          exact run_firstCells_some (P := P) w' size m (loc.ad _) _ c us q2 (q4 w' (hw _ ((hM.blk _ B hB).2.ver _ _ h0).2))
      · cases h
    · cases h
  · rename_i s
    split at h
    · rename_i hb
      cases h
      cases hx
      refine ⟨s.data.toList.map fun b => .int .u8 b.toNat, map_lits C _ _, fun w' _ => ?_⟩
      have hm : m = s.size := Nat.eq_of_beq_eq_true hb
      subst hm
      have : (s.extract 0 s.size) = s := by
        rw [ByteArray.extract_zero_size]
      simp only [Builtin.firstCells, this, Sem.run_pure]
      congr 1
      apply Array.ext'; simp
    · cases h
  · cases h
def lenS : AV → Option Nat
  | .lit (.slice none n _) => some n
  | .empty => some 0
  | .sl _ _ _ len _ _ => some len
  | .lit (.string s) => some s.size
  | _ => none
theorem lenS_spec {x : AV} {u : Value} {m : Nat} (h : lenS x = some m) (hx : Den C x u) (w : World) : (Builtin.lenOf u).run P w = .ok m w := by
  unfold lenS at h
  split at h <;> cases h <;> cases hx <;> simp [Builtin.lenOf]
def notInt : TypeDesc → Bool
  | .slice _ | .string => true
  | _ => false
theorem notInt_spec {d : TypeDesc} (h : notInt d = true) : (∃ T, d = .slice T) ∨ d = .string := by cases d <;> simp_all [notInt]
def apTypes (P : Program) (c : Call) : Option (TypeId × Nat × Nat × Operand × Operand) := match c.callee, c.args.toList, c.argTypes.toList with
  | .builtin .append, [s, x], [t, t2] => match runQ P (underlying t), runQ P (underlying t2) with
    | some (.slice elem), some d2 => match notInt d2, runQ P (typeInfo elem) with
      | true, some i => some (elem, i.size, i.bytes, s, x)
      | _, _ => none
    | _, _ => none
  | _, _, _ => none
theorem run_app_room {t t2 ty elem : TypeId} {d2 : TypeDesc} {i : TypeInfo} (w : World) (h1 : ∀ w, (underlying t).run P w = .ok (.slice elem) w) (h2 : ∀ w, (underlying t2).run P w = .ok d2 w) (hn : notInt d2 = true) (h3 : ∀ w, (typeInfo elem).run P w = .ok i w)
    (bs : Option Addr) (len c m : Nat) (x : Value) (us : List Value) (hm : (Builtin.lenOf x).run P w = .ok m w) (hus : (Builtin.firstCells i.size m x).run P w = .ok us.toArray w) (hroom : len + m ≤ c) {w' : World}
    (hst : match bs with | some a => (storeCells (a.add (len * i.size)) us).run P w = .ok () w' | none => w' = w) : (Builtin.append_ #[t, t2] ty #[.slice bs len c, x]).run P w = .ok (.slice bs (len + m) c) w' := by
  have hsz : ∀ w, (sizeOf elem).run P w = .ok i.size w := fun w => by simp [sizeOf, h3]
  cases bs with
  | none =>
    simp only at hst
    subst hst
    rcases notInt_spec hn with ⟨T, rfl⟩ | rfl <;> simp [Builtin.append_, h1, h2, hsz, hm, hroom, hus]
  | some a =>
    simp only at hst
    rcases notInt_spec hn with ⟨T, rfl⟩ | rfl <;> simp [Builtin.append_, h1, h2, hsz, hm, hroom, hus, hst]
theorem run_app_grow {t t2 ty elem : TypeId} {d2 : TypeDesc} {i : TypeInfo} {z : Value} (w : World) (h1 : ∀ w, (underlying t).run P w = .ok (.slice elem) w) (h2 : ∀ w, (underlying t2).run P w = .ok d2 w) (hn : notInt d2 = true) (h3 : ∀ w, (typeInfo elem).run P w = .ok i w) (hz : i.zero = some z)
    (bs : Option Addr) (len c m : Nat) (x : Value) (olds us : List Value) (hm : (Builtin.lenOf x).run P w = .ok m w) (hus : (Builtin.firstCells i.size m x).run P w.drew = .ok us.toArray w.drew)
    (hold : (Builtin.firstCells i.size len (.slice bs len c)).run P w.drew = .ok olds.toArray w.drew) (hroom : ¬ len + m ≤ c) (h63 : len + m ≤ 9223372036854775807) (hlim : (len + m) * i.bytes ≤ 140737488355328) :
    (Builtin.append_ #[t, t2] ty #[.slice bs len c, x]).run P w = .ok (.slice (some ⟨w.heap.size, 0, none⟩) (len + m) (grownCap w (len + m) c elem))
      (w.drew.alloc (.cells (olds.toArray ++ (us.toArray ++ Builtin.zeroCells z.cells (grownCap w (len + m) c elem - (len + m)))) elem)) := by
  have hsz : ∀ w, (sizeOf elem).run P w = .ok i.size w := fun w => by simp [sizeOf, h3]
  have hzv : ∀ w, (zeroValue elem).run P w = .ok z w := fun w => by simp [zeroValue, h3, hz]
  have h63' : ¬ (9223372036854775807 < ((len : Int) + (m : Int))) := by omega
  have hfit := growslice_fits (need := len + m) (old := c) (bytes := i.bytes) (by omega) hlim
  have h48' : ¬ (281474976710656 < Builtin.nextslicecap (len + m) c * i.bytes) := by omega
  rcases notInt_spec hn with ⟨T, rfl⟩ | rfl <;> simp [Builtin.append_, h1, h2, h3, hsz, hzv, hm, hroom, hus, hold, h63', h48', Question.forced, newRow, grownCap]
end
end Go.EV
