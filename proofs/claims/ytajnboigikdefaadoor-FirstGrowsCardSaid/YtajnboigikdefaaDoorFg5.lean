/- Texts that the proof of a law rests on, put together: part 5. -/
import Derived.Test.YtajnboigikdefaaDoorFg4
import Derived.Laws.Append
namespace Go.EV
open Go Go.RowKit
set_option linter.unusedVariables false
set_option linter.unusedSimpArgs false
section
variable {P : Program} {C : Cx} {H H' : Heap} {base : Nat} {w w' : World} {ρ : Operand → Option AV} {e : Operand → Value} {o : Oper} {d : AV}
def verN : List (Nat × Nat) → Nat → Option Nat
  | [], _ => none
  | (a, n) :: r, v => match Nat.beq a v with
    | true => some n
    | false => verN r v
theorem verN_mem : ∀ {l : List (Nat × Nat)} {v n : Nat}, verN l v = some n → (v, n) ∈ l
  | [], _, _, h => by simp [verN] at h
  | (a, m) :: r, v, n, h => by
    simp only [verN] at h
    split at h
    · rename_i hb
      cases h
      rw [Nat.eq_of_beq_eq_true hb]; exact List.mem_cons_self
    · exact List.mem_cons_of_mem _ (verN_mem h)
noncomputable def rowA (H : Heap) (b v : Nat) : Option (Blk × Nat) := match H.get b with
  | some B => match verN B.vers v with
    | some n => some (B, n)
    | none => none
  | none => none
theorem rowA_spec {b v n : Nat} {B : Blk} (h : rowA H b v = some (B, n)) : H.get b = some B ∧ (v, n) ∈ B.vers := by
  unfold rowA at h
  cases hB : H.get b with
  | none => rw [hB] at h; cases h
  | some B' =>
    rw [hB] at h
    simp only at h
    cases hn : verN B'.vers v with
    | none => rw [hn] at h; cases h
    | some n' => rw [hn] at h; cases h; exact ⟨rfl, verN_mem hn⟩
noncomputable def loadA (P : Program) (H : Heap) (t : TypeId) (d : AV) : Option (AV × Nat) := match d with
  | .ptr b v off => match rowA H b v, runQ P (isAgg t) with
    | some (B, n), some true => match sizeA P t with
      | some k => match Nat.ble (off + k) n with
        | true => some (.agg ((B.cells.drop off).take k), b)
        | false => none
      | none => none
    | some (B, n), some false => match Nat.ble (off + 1) n, B.cells[off]? with
      | true, some d => some (d, b)
      | _, _ => none
    | _, _ => none
  | _ => none
theorem load_spec (hM : Mem C H base w) {t : TypeId} {p : AV} {u : Value} {b : Nat} (h : loadA P H t p = some (d, b)) (hp : Den C p u) :
    ∃ v, Den C d v ∧ ∀ w' : World, (∀ ver loc, C.at_ b ver = some loc → w'.heap[loc.blk]? = w.heap[loc.blk]?) → (Instr.loadAt t u).run P w' = .ok v w' := by
  unfold loadA at h
  split at h
  · rename_i b' v off
    cases hp with
    | @ptr _ _ _ loc hl hlo =>
      split at h
      · rename_i B n hrow ha
        split at h
        · rename_i k hk
          split at h
          · rename_i hb
            cases h
            obtain ⟨hB, hv⟩ := rowA_spec hrow
            obtain ⟨us, h1, h2, h3, h4⟩ := hM.read hB hv hl (i := off) (k := k) hlo (Nat.le_of_ble_eq_true hb)
            have r1 := runQ_spec P _ _ ha
            have r2 := runQ_spec P _ _ (show runQ P (sizeOf t) = some k from hk)
            refine ⟨.agg us.toArray, .agg h1.1 h1.2, fun w' hw => ?_⟩
            have r3 := run_loadCells_list (P := P) w' (loc.ad off) us (h4 w' (hw _ _ hl))
            rw [h2] at r3
            simp [Instr.loadAt, Instr.sureAddr, loadVar, r1, r2, r3]
          · cases h
        · cases h
      · rename_i B n hrow ha
        split at h
        · rename_i d' hb hd
          cases h
          obtain ⟨hB, hv⟩ := rowA_spec hrow
          have r1 := runQ_spec P _ _ ha
          obtain ⟨d2, u, h1, h2, h3⟩ := (hM.blk _ B hB).2.cell v n loc hv hl off hlo (Nat.le_of_ble_eq_true hb)
          rw [hd] at h1; cases h1
          refine ⟨u, h3, fun w' hw => ?_⟩
          have h4 : w'.cell? (loc.ad off) = some u := by rw [cell_of_heap (w := w) (a := loc.ad off) (hw _ _ hl)]; exact h2
          simp [Instr.loadAt, Instr.sureAddr, loadVar, r1, load, Sem.run, h4]
        · cases h
      · cases h
  · cases h
def Does (P : Program) (C : Cx) (H H' : Heap) (base : Nat) (w : World) (e : Operand → Value) (o : Oper) (r : Option AV) : Prop :=
  ∃ C' w', Step C C' H H' base w w' ∧ match r with
    | some d => ∃ v, Den C' d v ∧ (execOp e o).run P w = .ok (.value v) w'
    | none => (execOp e o).run P w = .ok .skip w'
def roomA (H : Heap) : Bool := Nat.blt H.nb 1099511627775
theorem room_spec (h : roomA H = true) : H.nb < 2 ^ 40 - 1 := by
  have : H.nb < 1099511627775 := by simpa [roomA, Nat.blt_eq] using h
  omega
def newBlk (cells : List AV) (t : TypeId) : Blk := ⟨cells, t, [(0, cells.length)], 1, 0, false, 0, none⟩
noncomputable def forceL {α β : Type} (l : List α) : (List α → β) → β := List.rec (motive := fun _ => (List α → β) → β) (fun k => k []) (fun a _ ih k => ih (fun r => k (a :: r))) l
theorem forceL_eq {α β : Type} : ∀ (l : List α) (k : List α → β), forceL l k = k l
  | [], k => rfl
  | a :: r, k => forceL_eq r (fun r => k (a :: r))
noncomputable def setF (H : Heap) (b : Nat) (B : Blk) : Option Heap := forceL B.cells fun cs => forceL B.vers fun vs => some (H.set b ⟨cs, B.elem, vs, B.next, B.fz, B.ro, B.stamp, B.obj⟩)
theorem setF_eq (H : Heap) (b : Nat) (B : Blk) : setF H b B = some (H.set b B) := by
  unfold setF
  rw [forceL_eq, forceL_eq]
noncomputable def writeA (H : Heap) (b v off : Nat) (cs : List AV) : Option Heap := match rowA H b v, allLeaf cs, roomA H with
  | some (B, n), true, true => match Nat.ble (off + cs.length) n, B.ro, B.obj with
    | true, false, none => match Nat.ble B.fz off with
      | true => setF H b (B.wrote v off cs)
      | false => none
    | _, _, _ => none
  | _, _, _ => none
theorem write_spec (hM : Mem C H base w) {b v off : Nat} {loc : Loc} {cs : List AV} {us : List Value} (h : writeA H b v off cs = some H') (hl : C.at_ b v = some loc) (hlo : loc.lo ≤ off) (hd : Dens C cs us) :
    ∃ w', (storeCells (loc.ad off) us).run P w = .ok () w' ∧ Step C C H H' base w w' := by
  unfold writeA at h
  split at h
  · rename_i B n hrow hlf hroom
    split at h
    · rename_i hb hro hob
      split at h
      · rename_i hfz
        rw [setF_eq] at h
        cases h
        obtain ⟨hB, hv⟩ := rowA_spec hrow
        exact hM.write P (room_spec hroom) hB hv hl hro hob cs us hd hlo (Nat.le_of_ble_eq_true hb) (Nat.le_of_ble_eq_true hfz) (allLeaf_one cs us hlf hd)
      · cases h
    · cases h
  · cases h
noncomputable def storeA (P : Program) (H : Heap) (t : TypeId) (p x : AV) : Option Heap := match p, cellsA x, sizeA P t with
  | .ptr b v off, some cs, some k => match Nat.beq cs.length k with
    | true => writeA H b v off cs
    | false => none
  | _, _, _ => none
theorem d_store (hM : Mem C H base w) (hf : Fine C ρ e) {t : TypeId} {p x : Operand} {dp dx : AV} (ho : o.op = .store t p x) (h1 : ρ p = some dp) (h2 : ρ x = some dx) (h : storeA P H t dp dx = some H') : Does P C H H' base w e o none := by
  unfold storeA at h
  split at h
  · rename_i b v off cs k hcs hk
    split at h
    · rename_i hb
      have hv := hf p _ h1
      generalize hbp : e p = vp at hv
      cases hv with
      | @ptr _ _ _ loc hl hlo =>
        have hd := cellsA_spec hcs (hf x _ h2)
        obtain ⟨w', hr, hS⟩ := write_spec (P := P) hM h hl hlo hd
        have r2 := runQ_spec P _ _ (show runQ P (sizeOf t) = some k from hk)
        have hsz : (e x).cells.size = k := by rw [← Nat.eq_of_beq_eq_true hb, ← hd.1]; simp
        exact ⟨C, w', hS, by simp [execOp, ho, Instr.storeAt, Instr.sureAddr, hbp, storeVar, r2, hsz, hr]⟩
    · cases h
  · cases h
theorem new_spec (hM : Mem C H base w) (hroom : roomA H = true) {cells : List AV} (arr : Array Value) (t : TypeId) (hd : Dens C cells arr.toList) :
    ∃ C', Step C C' H (H.push (newBlk cells t)) base w (w.alloc (.cells arr t)) ∧ C'.at_ H.nb 0 = some ⟨w.heap.size, 0, 0, arr.size, cells.length⟩ := by
  have hlen : cells.length = arr.size := by rw [← hd.1]; simp
  exact hM.alloc (room_spec hroom) arr cells t (by rw [List.take_of_length_le (by simp [hlen])]; exact hd) (by omega) rfl rfl rfl rfl
noncomputable def allocA (P : Program) (H : Heap) (t : TypeId) : Option (AV × Heap) := match zerosA P t, roomA H with
  | some cs, true => some (.ptr H.nb 0 0, H.push (newBlk cs t))
  | _, _ => none
theorem d_alloc (hM : Mem C H base w) {t : TypeId} (ho : o.op = .alloc t) (h : allocA P H t = some (d, H')) : Does P C H H' base w e o (some d) := by
  unfold allocA at h
  split at h
  · rename_i cs hz hroom
    cases h
    obtain ⟨z, hr, hd⟩ := zerosA_spec (C := C) hz
    obtain ⟨C', hS, hat⟩ := new_spec hM hroom z.cells t hd
    refine ⟨C', _, hS, .pointer (some ⟨w.heap.size, 0, none⟩), .ptr (loc := ⟨w.heap.size, 0, 0, z.cells.size, cs.length⟩) hat (Nat.zero_le _), ?_⟩
    simp [execOp, ho, Instr.alloc, hr, newVar, newRow, newObj, Sem.run]
  · cases h
noncomputable def boxA (H : Heap) (t : TypeId) (x : AV) : Option (AV × Heap) := match cellsA x, roomA H with
  | some cs, true => some (.ptr H.nb 0 0, H.push (newBlk cs t))
  | _, _ => none
theorem d_box (hM : Mem C H base w) (hf : Fine C ρ e) {t : TypeId} {x : Operand} {dx : AV} (ho : o.op = .box t x) (hx : ρ x = some dx) (h : boxA H t dx = some (d, H')) : Does P C H H' base w e o (some d) := by
  unfold boxA at h
  split at h
  · rename_i cs hz hroom
    cases h
    have hd := cellsA_spec hz (hf x _ hx)
    obtain ⟨C', hS, hat⟩ := new_spec hM hroom (e x).cells t hd
    refine ⟨C', _, hS, .pointer (some ⟨w.heap.size, 0, none⟩), .ptr (loc := ⟨w.heap.size, 0, 0, (e x).cells.size, cs.length⟩) hat (Nat.zero_le _), ?_⟩
    simp [execOp, ho, Instr.box, newVar, newRow, newObj, Sem.run]
  · cases h
def repA (z : List AV) : Nat → List AV
  | 0 => []
  | n + 1 => z ++ repA z n
theorem rep_spec {z : List AV} {zs : Array Value} (hd : Dens C z zs.toList) : ∀ n, Dens C (repA z n) ((Array.range (n * zs.size)).map (zs[· % zs.size]!)).toList := by
  have hlen : z.length = zs.size := by rw [← hd.1]; simp
  have hrl : ∀ n, (repA z n).length = n * zs.size := by
    intro n
    induction n with
    | zero => simp [repA]
    | succ n ih => rw [repA, List.length_append, ih, hlen, Nat.succ_mul]; omega
  have hget : ∀ n i, i < n * zs.size → (repA z n)[i]? = z[i % zs.size]? := by
    intro n
    induction n with
    | zero => intro i hi; simp at hi
    | succ n ih =>
      intro i hi
      rw [repA]
      by_cases h1 : i < zs.size
      · rw [List.getElem?_append_left (by omega), Nat.mod_eq_of_lt h1]
      · rw [List.getElem?_append_right (by omega), hlen, ih (i - zs.size) (by rw [Nat.succ_mul] at hi; omega)]
        congr 1
        exact (Nat.mod_eq_sub_mod (by omega)).symm
  intro n
  refine ⟨by rw [hrl]; simp, fun i d u h1 h2 => ?_⟩
  have hi : i < n * zs.size := by rw [← hrl]; exact (List.getElem?_eq_some_iff.1 h1).1
  rw [hget n i hi] at h1
  have hz : 0 < zs.size := by
    rcases Nat.eq_zero_or_pos zs.size with h0 | h0
    · rw [h0] at hi; simp at hi
    · exact h0
  have hm : i % zs.size < zs.size := Nat.mod_lt _ hz
  have h3 : zs.toList[i % zs.size]? = some zs[i % zs.size]! := by simp [hm]
  have h4 : u = zs[i % zs.size]! := by
    simp only [Array.toList_map, Array.toList_range, List.getElem?_map, List.getElem?_range hi, Option.map_some, Option.some.injEq] at h2
    exact h2.symm
  rw [h4]
  exact hd.2 _ _ _ h1 h3
noncomputable def buildSliceA (P : Program) (ρ : Operand → Option AV) (H : Heap) (t : TypeId) (len : Nat) (parts : Array (Nat × Operand)) : Option (AV × Heap) := match runQ P (underlying t), roomA H, opdPs ρ parts.toList with
  | some (.slice elem), true, some ps => match sizeA P elem, zerosA P elem with
    | some size, some z => match Nat.beq z.length size, Nat.ble (len * size) 16777216, Nat.ble len 9223372036854775807, Nat.blt 0 (len * size), fillA (fun i => some (i * size, size)) (repA z len) ps with
      | true, true, true, true, some cs => some (.sl H.nb 0 0 len (some len) size, H.push (newBlk cs elem))
      | _, _, _, _, _ => none
    | _, _ => none
  | _, _, _ => none
theorem d_buildSlice (hM : Mem C H base w) (hf : Fine C ρ e) {t : TypeId} {len : Nat} {parts : Array (Nat × Operand)} (ho : o.op = .buildSlice t len parts) (h : buildSliceA P ρ H t len parts = some (d, H')) : Does P C H H' base w e o (some d) := by
  unfold buildSliceA at h
  split at h
  · rename_i elem ps hu hroom hps
    split at h
    · rename_i size z hs hz
      split at h
      · rename_i cs hb1 hb2 hb3 hb4 hfill
        cases h
        obtain ⟨zv, hzr, hzd⟩ := zerosA_spec (C := C) hz
        obtain ⟨h1, h2⟩ := opdPs_spec hf _ _ hps
        have hzs : zv.cells.size = size := by rw [← Nat.eq_of_beq_eq_true hb1, ← hzd.1]; simp
        have hrep := rep_spec hzd len
        obtain ⟨c, hc, hD⟩ := fill_spec _ ps _ (repA z len) cs _ h1 h2 hrep hfill
        have hparts : (parts.map fun (x : Nat × Operand) => (x.1, e x.2)).toList = parts.toList.map fun p => (p.1, e p.2) := by simp
        obtain ⟨C', hS, hat⟩ := new_spec hM hroom c elem hD
        have hpos : 0 < len * size := by simpa [Nat.blt_eq] using hb4
        have hcs : c.size = len * size := by
          have e1 : (Instr.fill (fun i => some (i * size, size)) ((Array.range (len * zv.cells.size)).map (zv.cells[· % zv.cells.size]!)) (parts.toList.map fun p => (p.1, e p.2))) = some c := hc
          have := hD.1
          have e2 := hrep.1
          rw [← Array.length_toList, hD.1]
          have key : ∀ (ps : List (Nat × AV)) (l m : List AV), fillA (fun i => some (i * size, size)) l ps = some m → m.length = l.length := by
            intro ps
            induction ps with
            | nil => intro l m h; simp only [fillA, Option.some.injEq] at h; rw [h]
            | cons q ps ih =>
              intro l m h
              obtain ⟨i, d⟩ := q
              simp only [fillA] at h
              split at h
              · split at h
                · have hsl : ∀ (cs l : List AV) (off : Nat), (setsA l off cs).length = l.length := by
                    intro cs
                    induction cs with
                    | nil => intro l off; rfl
                    | cons c cs ih => intro l off; rw [setsA, ih]; simp
                  rw [ih _ _ h, hsl]
                · cases h
              · cases h
          rw [key ps _ _ hfill, ← hrep.1]
          simp [hzs]
        have r1 := runQ_spec P _ _ hu
        have r2 := runQ_spec P _ _ (show runQ P (sizeOf elem) = some size from hs)
        refine ⟨C', _, hS, .slice (some ⟨w.heap.size, 0, none⟩) len len, .sl (loc := ⟨w.heap.size, 0, 0, c.size, cs.length⟩) (c := len) hat (Nat.zero_le _) (Nat.le_refl _) (Nat.le_of_ble_eq_true hb3) (fun k hk => by cases hk; rfl) (by rw [hcs]; simp), ?_⟩
        have h24 : ¬ (len * size > 2 ^ 24) := by have := Nat.le_of_ble_eq_true hb2; omega
        rw [hzs] at hc
        simp only [execOp, ho, Instr.buildSlice, Sem.run_bind, r1, Result.andThen_ok, r2, if_neg h24, Nat.pos_iff_ne_zero.1 hpos, if_false, hzr, hparts, Sem.run_pure, hzs, hc]
        simp [newRow, newObj, Sem.run]
      · cases h
    · cases h
  · cases h
end
end Go.EV
