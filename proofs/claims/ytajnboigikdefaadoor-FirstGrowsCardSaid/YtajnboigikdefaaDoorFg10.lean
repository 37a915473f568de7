/- Texts that the proof of a law rests on, put together: part 10. -/
import Derived.Test.YtajnboigikdefaaDoorFg9
namespace Go.EV
open Go Go.RowKit
set_option linter.unusedVariables false
set_option linter.unusedSimpArgs false
section
variable {P : Program} {C : Cx} {H H' : Heap} {base : Nat} {w w' : World} {ρ : Operand → Option AV} {e : Operand → Value} {o : Oper} {d : AV}
def natA : AV → Option Nat
  | .lit (.int _ (.ofNat n)) => some n
  | _ => none
theorem natA_spec {d : AV} {n : Nat} {u : Value} (h : natA d = some n) (hd : Den C d u) : ∃ k, u = .int k (n : Int) := by
  unfold natA at h
  split at h
  · cases h; cases hd; exact ⟨_, rfl⟩
  · cases h
noncomputable def makeSliceA (P : Program) (H : Heap) (t : TypeId) (l c : AV) : Option (AV × Heap) := match natA l, natA c, runQ P (underlying t), roomA H with
  | some l, some c, some (.slice elem), true => match runQ P (typeInfo elem), zerosA P elem with
    | some i, some z => match Nat.beq z.length i.size, Nat.ble l c, Nat.ble c 9223372036854775807, Nat.ble (i.bytes * c) 281474976710656 with
      | true, true, true, true => some (.sl H.nb 0 0 l (some c) i.size, H.push (newBlk (repA z c) elem))
      | _, _, _, _ => none
    | _, _ => none
  | _, _, _, _ => none
theorem d_makeSlice (hM : Mem C H base w) (hf : Fine C ρ e) {t : TypeId} {l c : Operand} {dl dc : AV} (ho : o.op = .makeSlice t l c) (hl : ρ l = some dl) (hc : ρ c = some dc) (h : makeSliceA P H t dl dc = some (d, H')) : Does P C H H' base w e o (some d) := by
  unfold makeSliceA at h
  split at h
  · rename_i ln cn elem h1 h2 hu hroom
    split at h
    · rename_i i z hi hz
      split at h
      · rename_i hb1 hb2 hb3 hb4
        cases h
        obtain ⟨kl, hel⟩ := natA_spec h1 (hf l _ hl)
        obtain ⟨kc, hec⟩ := natA_spec h2 (hf c _ hc)
        have r1 := runQ_spec P _ _ hu
        have r3 := runQ_spec P _ _ hi
        obtain ⟨zv, hzr, hzd⟩ := zerosA_spec (C := C) hz
        have hzs : zv.cells.size = i.size := by rw [← Nat.eq_of_beq_eq_true hb1, ← hzd.1]; simp
        have e1 := Nat.le_of_ble_eq_true hb2
        have e2 := Nat.le_of_ble_eq_true hb3
        have e3 := Nat.le_of_ble_eq_true hb4
        have hrep := rep_spec hzd cn
        rw [hzs] at hrep
        obtain ⟨C', hS, hat⟩ := new_spec hM hroom ((Array.range (cn * i.size)).map (zv.cells[· % zv.cells.size]!)) elem (by rw [hzs]; exact hrep)
        have hsz : ((Array.range (cn * i.size)).map (zv.cells[· % zv.cells.size]!)).size = cn * i.size := by simp
        refine ⟨C', _, hS, .slice (some ⟨w.heap.size, 0, none⟩) ln cn, .sl (loc := ⟨w.heap.size, 0, 0, ((Array.range (cn * i.size)).map (zv.cells[· % zv.cells.size]!)).size, (repA z cn).length⟩) (c := cn) hat (Nat.zero_le _) e1 e2 (fun k hk => by cases hk; rfl) (by rw [hsz]; simp), ?_⟩
        have wl : IntKind.i64.wrap (ln : Int) = (ln : Int) := by rw [IntKind.wrap_i64]; omega
        have wc : IntKind.i64.wrap (cn : Int) = (cn : Int) := by rw [IntKind.wrap_i64]; omega
        have t1 : ¬ ((281474976710656 : Int) < (i.bytes : Int) * (cn : Int)) := by
          have h5 : ((i.bytes * cn : Nat) : Int) ≤ ((281474976710656 : Nat) : Int) := Int.ofNat_le.2 e3
          rw [Int.natCast_mul] at h5
          generalize (i.bytes : Int) * (cn : Int) = m at h5 ⊢
          omega
        have hsize : ∀ w, (sizeOf elem).run P w = .ok i.size w := fun w => by simp [sizeOf, r3]
        have hlt : ¬ ((cn : Int) < (ln : Int)) := by omega
        have hc0 : ¬ ((cn : Int) < 0) := by omega
        have hl0 : ¬ ((ln : Int) < 0) := by omega
        by_cases hn : cn * i.size = 0
        · have hr0 : Array.range 0 = #[] := by apply Array.eq_empty_of_size_eq_zero; simp
          simp [execOp, ho, Instr.makeSlice, r1, hel, hec, asInt, asIntOf, r3, wl, wc, t1, hlt, hc0, hl0, askRoom, hsize, hn, hr0, newRow, newObj, Sem.run]
          all_goals (split <;> rfl)
        · simp [execOp, ho, Instr.makeSlice, r1, hel, hec, asInt, asIntOf, r3, wl, wc, t1, hlt, hc0, hl0, askRoom, hsize, hn, hzr, newRow, newObj, Sem.run]
          all_goals (split <;> rfl)
      · cases h
    · cases h
  · cases h
def bytesA : List AV → Option (List Int)
  | [] => some []
  | .lit (.int .u8 n) :: r => match bytesA r with
    | some l => some (n :: l)
    | none => none
  | _ => none
theorem bytesA_spec : ∀ {l : List AV} {ns : List Int} {us : List Value}, bytesA l = some ns → Dens C l us → us = ns.map (Value.int .u8)
  | [], ns, us, h, hd => by simp only [bytesA, Option.some.injEq] at h; subst h; rw [hd.nil_inv]; rfl
  | x :: r, ns, us, h, hd => by
    unfold bytesA at h
    split at h
    · rename_i he; cases he
    · rename_i n r' he
      cases he
      split at h
      · rename_i m hm
        cases h
        obtain ⟨u, vs, rfl, h1, h2⟩ := hd.cons_inv
        cases h1
        rw [bytesA_spec hm h2]; rfl
      · cases h
    · cases h
def pushAll (ns : List Int) : ByteArray := ns.foldl (fun r n => r.push (UInt8.ofNat n.toNat)) ByteArray.empty
noncomputable def textA (P : Program) (H : Heap) (src dst : TypeId) (x : AV) : Option AV := match runQ P (underlying src), runQ P (underlying dst) with
  | some (.slice elem), some .string => match runQ P (underlying elem), x with
    | some (.int .u8), .sl b v off len _ _ => match rowA H b v with
      | some (B, n) => match Nat.ble (off + len) n with
        | true => match bytesA ((B.cells.drop off).take len) with
          | some ns => some (.lit (.string (pushAll ns)))
          | none => none
        | false => none
      | none => none
    | _, _ => none
  | _, _ => none
theorem d_text (hM : Mem C H base w) (hf : Fine C ρ e) {src dst : TypeId} {x : Operand} {dx : AV} (ho : o.op = .convert src dst x) (hx : ρ x = some dx) (h : textA P H src dst dx = some d) : Does P C H H base w e o (some d) := by
  unfold textA at h
  split at h
  · rename_i elem hu1 hu2
    split at h
    · rename_i b v off len cap es hu3
      split at h
      · rename_i B n hrow
        split at h
        · rename_i hb
          split at h
          · rename_i ns hns
            cases h
            have hv := hf x _ hx
            generalize hbx : e x = vx at hv
            cases hv with
            | @sl _ _ _ _ _ _ loc c h0 h1 h3 h4 h5 h6 =>
              obtain ⟨hB, hvm⟩ := rowA_spec hrow
              obtain ⟨us, q1, q2, q3, _⟩ := hM.read hB hvm h0 (k := len) h1 (Nat.le_of_ble_eq_true hb)
              have hus := bytesA_spec hns q1
              subst hus
              have r1 := runQ_spec P _ _ hu1
              have r2 := runQ_spec P _ _ hu2
              have r3 := runQ_spec P _ _ hu3
              have r4 := run_loadCells_list (P := P) w (loc.ad off) (ns.map (Value.int .u8)) q3
              rw [q2] at r4
              have r5 := run_bytesToString w (loc.ad off) len c ns r4
              refine ⟨C, w, Step.refl hM, _, .lit _, ?_⟩
              simp [execOp, ho, convert, r1, r2, r3, hbx, r5, pushAll]
          · cases h
        · cases h
      · cases h
    · cases h
  · cases h
end
end Go.EV
