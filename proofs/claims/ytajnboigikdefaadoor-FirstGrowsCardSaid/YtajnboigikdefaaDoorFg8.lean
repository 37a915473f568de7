/- Texts that the proof of a law rests on, put together: part 8. -/
import Derived.Test.YtajnboigikdefaaDoorFg7
namespace Go.EV
open Go Go.RowKit
set_option linter.unusedVariables false
set_option linter.unusedSimpArgs false
section
variable {P : Program} {C : Cx} {H H' : Heap} {base : Nat} {w w' : World} {ρ : Operand → Option AV} {e : Operand → Value} {o : Oper} {d : AV}
theorem app_grown (hM : Mem C H base w) (hroom : roomA H = true) {t t2 ty elem : TypeId} {d2 : TypeDesc} {i : TypeInfo} {z : Value} (h1 : ∀ w, (underlying t).run P w = .ok (.slice elem) w) (h2 : ∀ w, (underlying t2).run P w = .ok d2 w) (hn : notInt d2 = true)
    (h3 : ∀ w, (typeInfo elem).run P w = .ok i w) (hz : i.zero = some z) (hzs : z.cells.size = i.size) {b v n off len m c : Nat} {B : Blk} {loc : Loc} (hB : H.get b = some B) (hv : (v, n) ∈ B.vers) (hl : C.at_ b v = some loc)
    (hro : B.ro = false) (hob : B.obj = none) (hel : B.elem = elem) (hlo : loc.lo ≤ off) (he : off + len * i.size ≤ n) (hfz : B.fz ≤ off + len * i.size) (hce : off + len * i.size ≤ B.cells.length) (hlc : len ≤ c) (hc : c ≤ 9223372036854775807) (hsz : loc.off + (off - loc.lo) + c * i.size ≤ loc.sz)
    {x : Value} {cs : List AV} {us : List Value} (hm : ∀ w, (Builtin.lenOf x).run P w = .ok m w) (hD : Dens C cs us) (hlen : cs.length = m * i.size) (hone : ∀ u ∈ us, u.oneCell' = true)
    (hus : ∀ w' : World, (∀ k, k < w.heap.size → w'.heap[k]? = w.heap[k]?) → (Builtin.firstCells i.size m x).run P w' = .ok us.toArray w') (hpos : 0 < m) (h63 : len + m ≤ 9223372036854775807) (hlim : (len + m) * i.bytes ≤ 140737488355328) :
    ∃ C' w', Step C C' H (H.set b (B.grown (off + len * i.size) cs)) base w w' ∧ ∃ u, Den C' (.sl b B.next off (len + m) none i.size) u ∧ (Builtin.append_ #[t, t2] ty #[.slice (some (loc.ad off)) len c, x]).run P w = .ok u w' := by
  obtain ⟨hbn, L⟩ := hM.blk b B hB
  obtain ⟨arr, flo, fhi, q1, q2, q3⟩ := L.obj v n loc hv hl
  have hlu : us.length = m * i.size := by rw [hD.1, hlen]
  have hbb : b < 2 ^ 40 - 1 := by have := room_spec hroom; omega
  have hsplit : (len + m) * i.size = len * i.size + m * i.size := Nat.add_mul _ _ _
  by_cases hroomc : len + m ≤ c
  · -- in place
    have hcm : (len + m) * i.size ≤ c * i.size := Nat.mul_le_mul_right _ hroomc
    have hfit : loc.off + (off + len * i.size - loc.lo) + us.length ≤ arr.size := by rw [q2, hlu]; omega
    have hst := run_storeCells_atF P loc.blk (loc.off + (off + len * i.size - loc.lo)) B.elem (flo, fhi) us 0 arr w q1 (by simp only [Nat.add_zero]; omega) (by simp only [Nat.add_zero]; omega) hone
    simp only [Nat.add_zero] at hst
    have hrow := row_cell w q1 us (loc.off + (off + len * i.size - loc.lo))
    have hother : ∀ k, k ≠ loc.blk → (w.setRow loc.blk (arr.toList.take (loc.off + (off + len * i.size - loc.lo)) ++ us ++ arr.toList.drop (loc.off + (off + len * i.size - loc.lo) + us.length)).toArray).heap[k]? = w.heap[k]? := fun k hk => setRow_other w loc.blk k _ hk
    have hnew := setRow_heap w loc.blk arr (arr.toList.take (loc.off + (off + len * i.size - loc.lo)) ++ us ++ arr.toList.drop (loc.off + (off + len * i.size - loc.lo) + us.length)).toArray B.elem (flo, fhi) q1
    have hsize : (arr.toList.take (loc.off + (off + len * i.size - loc.lo)) ++ us ++ arr.toList.drop (loc.off + (off + len * i.size - loc.lo) + us.length)).toArray.size = arr.size := by
      simp only [List.size_toArray, List.length_append, List.length_take, List.length_drop, Array.length_toList]; omega
    have hrun := run_app_room (ty := ty) w h1 h2 hn h3 (some (loc.ad off)) len c m x us (hm w) (hus w (fun _ _ => rfl)) hroomc (w' := w.setRow loc.blk (arr.toList.take (loc.off + (off + len * i.size - loc.lo)) ++ us ++ arr.toList.drop (loc.off + (off + len * i.size - loc.lo) + us.length)).toArray)
      (by simp only; rw [Loc.add _ _ _ hlo]; exact hst)
    generalize hw' : w.setRow loc.blk (arr.toList.take (loc.off + (off + len * i.size - loc.lo)) ++ us ++ arr.toList.drop (loc.off + (off + len * i.size - loc.lo) + us.length)).toArray = w' at *
    have hws : w'.heap.size = w.heap.size := by rw [← hw']; exact setRow_size w _ _
    let loc' : Loc := { loc with n := off + len * i.size + cs.length }
    have hat : (C.more b B.next loc').at_ b B.next = some loc' := Cx.more_same _ _ _ _
    refine ⟨C.more b B.next loc', w', ?_, .slice (some (loc'.ad off)) (len + m) c, ?_, hrun⟩
    · refine hM.grown (room_spec hroom) hB hv hl hro cs he hob rfl (fun k _ hk => hother k hk) (by rw [← hw']; rfl) (by rw [← hw']; rfl) (by rw [← hw']; rfl) (by omega) (by rw [hws]; exact (L.ver v loc hl).2) (.inl ⟨rfl, rfl, rfl⟩)
        ⟨_, flo, fhi, hnew, by rw [hsize]; exact q2, q3⟩ (fun arr0 lo0 hi0 e0 => ?_) (fun o0 u0 ho0 hu0 => ?_) (by omega) (fun j hj1 hj2 => ?_)
      · rw [q1] at e0; cases e0
        exact ⟨_, hnew, hsize⟩
      · rw [hrow o0 hfit, if_pos ho0]; exact hu0
      · have hr := hrow (loc.off + (j - loc.lo)) hfit
        show ∃ d u, _ ∧ w'.cell? ⟨loc.blk, loc.off + (j - loc.lo), none⟩ = some u ∧ _
        have hj1' : loc.lo ≤ j := hj1
        by_cases hj : j < off + len * i.size
        · obtain ⟨d0, u0, p1, p2, p3⟩ := L.cell v n loc hv hl j hj1 (by omega)
          have hjc := (List.getElem?_eq_some_iff.1 p1).1
          refine ⟨d0, u0, ?_, ?_, p3⟩
          · rw [List.getElem?_append_left (by rw [List.length_take]; omega), List.getElem?_take, if_pos hj]; exact p1
          · rw [hr, if_pos (by omega)]; exact p2
        · have hcl : (B.cells.take (off + len * i.size)).length = off + len * i.size := by rw [List.length_take]; omega
          have hjm : j - (off + len * i.size) < cs.length := by omega
          have hdj : cs[j - (off + len * i.size)]? = some cs[j - (off + len * i.size)] := List.getElem?_eq_getElem hjm
          obtain ⟨u', hu', hD'⟩ := hD.at hdj
          refine ⟨_, u', ?_, ?_, hD'⟩
          · rw [List.getElem?_append_right (by omega), hcl]; exact hdj
          · rw [hr, if_neg (by omega), if_pos (by omega), ← hu']
            congr 1; omega
    · exact .sl hat hlo hroomc hc (fun k hk => by cases hk) hsz
  · -- a copy
    obtain ⟨olds, p1, p2, p3, p4⟩ := hM.read hB hv hl (i := off) (k := len * i.size) hlo he
    have hge := grownCap_ge w (len + m) c elem
    have hcm : grownCap w (len + m) c elem ≤ maxLen := grownCap_le_maxLen w (len + m) c elem (by simp only [maxLen]; omega)
    have hold := run_firstCells_some (P := P) w.drew i.size len (loc.ad off) len c olds p2 (p4 w.drew rfl)
    have hrun := run_app_grow (ty := ty) w h1 h2 hn h3 hz (some (loc.ad off)) len c m x olds us (hm w) (hus w.drew (fun _ _ => rfl)) hold hroomc h63 hlim
    generalize hcap : grownCap w (len + m) c elem = c' at *
    have hsz2 : (olds.toArray ++ (us.toArray ++ Builtin.zeroCells z.cells (c' - (len + m)))).size = c' * i.size := by
      have e1 : c' * i.size = len * i.size + (m * i.size + (c' - (len + m)) * i.size) := by
        rw [← Nat.add_mul, ← Nat.add_mul]; congr 1; omega
      simp only [Array.size_append, List.size_toArray, size_zeroCells, hzs, p2, hlu, e1]
    generalize harr : olds.toArray ++ (us.toArray ++ Builtin.zeroCells z.cells (c' - (len + m))) = arr2 at *
    have hget : ∀ j, j < len * i.size + us.length → arr2[j]? = (olds ++ us)[j]? := fun j hj => by
      rw [← harr, ← Array.append_assoc]
      rw [Array.getElem?_append_left (by simp only [Array.size_append, List.size_toArray, p2]; exact hj)]
      have e3 : olds.toArray ++ us.toArray = (olds ++ us).toArray := by apply Array.ext'; simp
      rw [e3, List.getElem?_toArray]
    let loc' : Loc := ⟨w.heap.size, 0, off, arr2.size, off + len * i.size + cs.length⟩
    have hat : (C.more b B.next loc').at_ b B.next = some loc' := Cx.more_same _ _ _ _
    have hpush : (w.drew.alloc (.cells arr2 elem)).heap = w.heap.push (.cells arr2 elem) := rfl
    have hkeep : ∀ k, k < w.heap.size → (w.drew.alloc (.cells arr2 elem)).heap[k]? = w.heap[k]? := fun k hk => by rw [hpush, Array.getElem?_push, if_neg (by omega)]
    have hhere : (w.drew.alloc (.cells arr2 elem)).heap[w.heap.size]? = some (.cells arr2 elem) := by rw [hpush, Array.getElem?_push, if_pos rfl]
    have hblt := (L.ver v loc hl).2
    refine ⟨C.more b B.next loc', w.drew.alloc (.cells arr2 elem), ?_, .slice (some (loc'.ad off)) (len + m) c', ?_, ?_⟩
    · refine hM.grown (room_spec hroom) hB hv hl hro cs he hob rfl (fun k hk _ => hkeep k hk) rfl rfl rfl (by rw [hpush]; simp) (by rw [hpush]; simp [loc']) (.inr rfl)
        ⟨arr2, 0, 0, by rw [hel]; exact hhere, rfl, Nat.zero_le _⟩ (fun arr0 lo0 hi0 e0 => ⟨arr0, by rw [hkeep _ hblt]; exact e0, rfl⟩) (fun o0 u0 _ hu0 => ?_) (by omega) (fun j hj1 hj2 => ?_)
      · rw [cell_of_heap (w := w) (a := ⟨loc.blk, o0, none⟩) (hkeep _ hblt)]; exact hu0
      · have hj1' : off ≤ j := hj1
        have hcell : (w.drew.alloc (.cells arr2 elem)).cell? (loc'.ad j) = arr2[j - off]? := by
          show (w.drew.alloc (.cells arr2 elem)).cell? ⟨w.heap.size, 0 + (j - off), none⟩ = _
          unfold World.cell?
          simp only [hhere]
          simp
        rw [hcell, hget (j - off) (by omega)]
        by_cases hj : j < off + len * i.size
        · have hjc : j < B.cells.length := by omega
          have e1 : ((B.cells.drop off).take (len * i.size))[j - off]? = some B.cells[j] := by
            rw [List.getElem?_take, if_pos (by omega), List.getElem?_drop, show off + (j - off) = j by omega]
            exact List.getElem?_eq_getElem hjc
          obtain ⟨u0, hu0, hD0⟩ := p1.at e1
          refine ⟨B.cells[j], u0, ?_, ?_, hD0⟩
          · rw [List.getElem?_append_left (by rw [List.length_take]; omega), List.getElem?_take, if_pos hj]; exact List.getElem?_eq_getElem hjc
          · rw [List.getElem?_append_left (by omega)]; exact hu0
        · have hcl : (B.cells.take (off + len * i.size)).length = off + len * i.size := by rw [List.length_take]; omega
          have hjm : j - (off + len * i.size) < cs.length := by omega
          have hdj : cs[j - (off + len * i.size)]? = some cs[j - (off + len * i.size)] := List.getElem?_eq_getElem hjm
          obtain ⟨u', hu', hD'⟩ := hD.at hdj
          refine ⟨_, u', ?_, ?_, hD'⟩
          · rw [List.getElem?_append_right (by omega), hcl]; exact hdj
          · rw [List.getElem?_append_right (by omega), p2, ← hu']
            congr 1; omega
    · exact .sl hat (Nat.le_refl _) hge (by simpa [maxLen] using hcm) (fun k hk => by cases hk) (by show 0 + (off - off) + c' * i.size ≤ arr2.size; omega)
    · have : loc'.ad off = ⟨w.heap.size, 0, none⟩ := by simp [Loc.ad, loc']
      rw [this]; exact hrun
def limA (len m bytes : Nat) : Bool := Nat.ble (len + m) 9223372036854775807 && Nat.ble ((len + m) * bytes) 140737488355328
theorem limA_spec {len m bytes : Nat} (h : limA len m bytes = true) : len + m ≤ 9223372036854775807 ∧ (len + m) * bytes ≤ 140737488355328 := by
  simp only [limA, Bool.and_eq_true] at h
  exact ⟨Nat.le_of_ble_eq_true h.1, Nat.le_of_ble_eq_true h.2⟩
noncomputable def freshA (H : Heap) (elem size m : Nat) (cs : List AV) : Option (AV × Heap) := some (.sl H.nb 0 0 m none size, H.push (newBlk cs elem))
noncomputable def appA (H : Heap) (elem size bytes zn : Nat) (ds : AV) (m : Nat) (cs : List AV) : Option (AV × Heap) := match m with
  | 0 => match ds with
    | .sl .. => some (ds, H)
    | .empty => some (ds, H)
    | .lit (.slice none 0 _) => some (ds, H)
    | _ => none
  | _ + 1 => match Nat.beq zn size, allLeaf cs, roomA H, Nat.beq cs.length (m * size) with
    | true, true, true, true => match ds with
      | .lit (.slice none 0 0) => match limA 0 m bytes with
        | true => freshA H elem size m cs
        | false => none
      | .sl b v off len (some k) es => match Nat.beq es size with
        | true => match Nat.ble (len + m) k with
          | true => match writeA H b v (off + len * size) cs with
            | some H' => some (.sl b v off (len + m) (some k) es, H')
            | none => none
          | false => match srcA H size len ds, limA len m bytes with
            | some olds, true => freshA H elem size (len + m) (olds ++ cs)
            | _, _ => none
        | false => none
      | .sl b v off len none es => match Nat.beq es size, rowA H b v, limA len m bytes with
        | true, some (B, n), true => match Nat.ble (off + len * size) n, Nat.ble B.fz (off + len * size), Nat.ble (off + len * size) B.cells.length, B.ro, B.obj, Nat.beq B.elem elem with
          | true, true, true, false, none, true => (setF H b (B.grown (off + len * size) cs)).map fun H' => (.sl b B.next off (len + m) none size, H')
          | _, _, _, _, _, _ => none
        | _, _, _ => none
      | _ => none
    | _, _, _, _ => none
def znA (P : Program) (t : TypeId) : Option Nat := match runQ P (zeroValue t) with
  | some z => some z.cells.size
  | none => none
noncomputable def appendA (P : Program) (ρ : Operand → Option AV) (H : Heap) (c : Call) : Option (AV × Heap) := match apTypes P c with
  | some (elem, size, bytes, s, x) => match ρ s, ρ x, znA P elem with
    | some ds, some dx, some zn => match lenS dx with
      | some m => match srcA H size m dx with
        | some cs => appA H elem size bytes zn ds m cs
        | none => none
      | none => none
    | _, _, _ => none
  | none => none
theorem fresh_app (hM : Mem C H base w) (hroom : roomA H = true) {t t2 ty elem : TypeId} {d2 : TypeDesc} {i : TypeInfo} {z : Value} (h1 : ∀ w, (underlying t).run P w = .ok (.slice elem) w) (h2 : ∀ w, (underlying t2).run P w = .ok d2 w) (hn : notInt d2 = true)
    (h3 : ∀ w, (typeInfo elem).run P w = .ok i w) (hz : i.zero = some z) (hzs : z.cells.size = i.size) {bs : Option Addr} {len m c : Nat} {x : Value} {ocs cs : List AV} {olds us : List Value} (hm : ∀ w, (Builtin.lenOf x).run P w = .ok m w) (hD0 : Dens C ocs olds) (hD : Dens C cs us)
    (hl0 : ocs.length = len * i.size) (hlen : cs.length = m * i.size) (hus : ∀ w' : World, (∀ k, k < w.heap.size → w'.heap[k]? = w.heap[k]?) → (Builtin.firstCells i.size m x).run P w' = .ok us.toArray w')
    (hold : ∀ w' : World, (∀ k, k < w.heap.size → w'.heap[k]? = w.heap[k]?) → (Builtin.firstCells i.size len (.slice bs len c)).run P w' = .ok olds.toArray w') (hroomc : ¬ len + m ≤ c) (h63 : len + m ≤ 9223372036854775807) (hlim : (len + m) * i.bytes ≤ 140737488355328) :
    ∃ C' w', Step C C' H (H.push (newBlk (ocs ++ cs) elem)) base w w' ∧ ∃ u, Den C' (.sl H.nb 0 0 (len + m) none i.size) u ∧ (Builtin.append_ #[t, t2] ty #[.slice bs len c, x]).run P w = .ok u w' := by
  have hrun := run_app_grow (ty := ty) w h1 h2 hn h3 hz bs len c m x olds us (hm w) (hus w.drew (fun _ _ => rfl)) (hold w.drew (fun _ _ => rfl)) hroomc h63 hlim
  have hge := grownCap_ge w (len + m) c elem
  have hcm : grownCap w (len + m) c elem ≤ maxLen := grownCap_le_maxLen w (len + m) c elem (by simp only [maxLen]; omega)
  generalize hcap : grownCap w (len + m) c elem = c' at *
  have hlo : olds.length = len * i.size := by rw [hD0.1, hl0]
  have hlu : us.length = m * i.size := by rw [hD.1, hlen]
  have hsz2 : (olds.toArray ++ (us.toArray ++ Builtin.zeroCells z.cells (c' - (len + m)))).size = c' * i.size := by
    have e1 : c' * i.size = len * i.size + (m * i.size + (c' - (len + m)) * i.size) := by
      rw [← Nat.add_mul, ← Nat.add_mul]; congr 1; omega
    simp only [Array.size_append, List.size_toArray, size_zeroCells, hzs, hlo, hlu, e1]
  have htake : (olds.toArray ++ (us.toArray ++ Builtin.zeroCells z.cells (c' - (len + m)))).toList.take (ocs ++ cs).length = olds ++ us := by
    have e2 : (ocs ++ cs).length = (olds ++ us).length := by rw [List.length_append, List.length_append, hD0.1, hD.1]
    rw [e2]
    simp only [Array.toList_append, List.toList_toArray, ← List.append_assoc]
    exact List.take_left
  have hle : (ocs ++ cs).length ≤ (olds.toArray ++ (us.toArray ++ Builtin.zeroCells z.cells (c' - (len + m)))).size := by
    rw [hsz2, List.length_append, hl0, hlen, ← Nat.add_mul]
    exact Nat.mul_le_mul_right _ hge
  obtain ⟨C', hS, hat⟩ := hM.alloc (w' := w.drew.alloc (.cells (olds.toArray ++ (us.toArray ++ Builtin.zeroCells z.cells (c' - (len + m)))) elem)) (room_spec hroom) _ (ocs ++ cs) elem (by rw [htake]; exact hD0.append hD) hle rfl rfl rfl rfl
  refine ⟨C', _, hS, _, ?_, hrun⟩
  have := Den.sl (C := C') (b := H.nb) (ver := 0) (off := 0) (len := len + m) (cap := none) (es := i.size) (c := c') hat (Nat.zero_le _) hge (by simpa [maxLen] using hcm) (fun k hk => by cases hk) (by show 0 + (0 - 0) + c' * i.size ≤ (olds.toArray ++ (us.toArray ++ Builtin.zeroCells z.cells (c' - (len + m)))).size; omega)
  exact this
theorem d_append (hM : Mem C H base w) (hf : Fine C ρ e) {c : Call} (ho : o.op = .call c) (h : appendA P ρ H c = some (d, H')) : Does P C H H' base w e o (some d) := by
  unfold appendA at h
  split at h
  · rename_i elem size bytes s x hty
    split at h
    · rename_i ds dx zn hs hx hzn
      split at h
      · rename_i m hm
        split at h
        · rename_i cs hcs
          obtain ⟨callee, args, argTypes⟩ := c
          unfold apTypes at hty
          split at hty
          · rename_i s' x' t t2 hc ha ht
            split at hty
            · rename_i elem' d2 hu1 hu2
              split at hty
              · rename_i i hn hi
                cases hty
                have ha2 := list_arr ha
                have ht2 := list_arr ht
                clear ha ht
                simp only at hc ha2 ht2
                subst hc; subst ha2; subst ht2
                have r1 := runQ_spec P _ _ hu1
                have r2 := runQ_spec P _ _ hu2
                have r3 := runQ_spec P _ _ hi
                have hvs := hf s _ hs
                have hvx := hf x _ hx
                have hlm : ∀ w, (Builtin.lenOf (e x)).run P w = .ok m w := fun w => lenS_spec hm hvx w
                obtain ⟨us, hD, hus⟩ := src_spec (P := P) hM hcs hvx
                obtain ⟨z, hz, hzn'⟩ : ∃ z, i.zero = some z ∧ z.cells.size = zn := by
                  unfold znA at hzn
                  split at hzn
                  · rename_i z hz
                    cases hzn
                    have r4 := runQ_spec P _ _ hz w
                    simp only [zeroValue, Sem.run_bind, r3, Result.andThen_ok] at r4
                    cases hiz : i.zero with
                    | none => rw [hiz] at r4; simp [unsupported, Sem.run] at r4
                    | some z' => rw [hiz] at r4; simp at r4; exact ⟨z', rfl, by rw [r4]⟩
                  · cases hzn
                have hexec : ∀ u w', (Builtin.append_ #[t, t2] o.type #[e s, e x]).run P w = .ok u w' → (execOp e o).run P w = .ok (.value u) w' := fun u w' hr => by
                  simp [execOp, ho, resolve, invoke, builtin, hr]
                unfold appA at h
                split at h
                · -- nothing is appended
                  have hnil : us = [] := by
                    have := hus w (fun _ _ => rfl)
                    have hcn : cs = [] := by
                      unfold srcA at hcs
                      split at hcs
                      · cases hcs; rfl
                      · cases hcs; rfl
                      · split at hcs
                        · split at hcs
                          · cases hcs; simp
                          · cases hcs
                        · cases hcs
                      · rename_i sb
                        split at hcs
                        · rename_i hb
                          cases hcs
                          have h0 : 0 = sb.size := Nat.eq_of_beq_eq_true hb
                          have : sb.data.toList = [] := List.eq_nil_of_length_eq_zero (by simpa using h0.symm)
                          rw [this]; rfl
                        · cases hcs
                      · cases hcs
                    rw [hcn] at hD
                    exact hD.nil_inv
                  subst hnil
                  have key : ∀ (bs : Option Addr) (len c : Nat), e s = .slice bs len c → len ≤ c → d = ds → H' = H → Does P C H H' base w e o (some d) := by
                    intro bs len c hes hlc hd hH
                    subst hd; subst hH
                    have hr := run_app_room (ty := o.type) w r1 r2 hn r3 bs len c 0 (e x) [] (hlm w) (hus w (fun _ _ => rfl)) (by omega) (w' := w) (by cases bs <;> simp [storeCells])
                    rw [← hes] at hr
                    exact ⟨C, w, Step.refl hM, e s, hvs, hexec _ _ (by rw [hr, hes]; rfl)⟩
                  split at h
                  · cases h
                    generalize hes : e s = vs at *
                    cases hvs with
                    | sl q1 q2 q3 q4 q5 q6 => exact key _ _ _ rfl q3 rfl rfl
                  · cases h
                    generalize hes : e s = vs at *
                    cases hvs with
                    | empty a c => exact key _ _ _ rfl (Nat.zero_le _) rfl rfl
                  · cases h
                    generalize hes : e s = vs at *
                    cases hvs
                    exact key _ _ _ rfl (Nat.zero_le _) rfl rfl
                  · cases h
                · rename_i m'
                  split at h
                  · rename_i hb1 hlf hroom hb2
                    have hzs : z.cells.size = i.size := by rw [hzn']; exact Nat.eq_of_beq_eq_true hb1
                    have hlen : cs.length = (m' + 1) * i.size := Nat.eq_of_beq_eq_true hb2
                    have hone := allLeaf_one cs us hlf hD
                    split at h
                    · split at h
                      · rename_i hlim
                        obtain ⟨l1, l2⟩ := limA_spec hlim
                        unfold freshA at h
                        cases h
                        generalize hes : e s = vs at *
                        cases hvs
                        obtain ⟨C', w', hS, u, hu, hr⟩ := fresh_app (ty := o.type) hM hroom r1 r2 hn r3 hz hzs (bs := none) (len := 0) (c := 0) hlm (.nil C) hD (by simp) hlen hus (fun w' _ => by simp [Builtin.firstCells]) (by omega) l1 l2
                        rw [Nat.zero_add] at hu
                        exact ⟨C', w', by simpa using hS, u, hu, hexec _ _ hr⟩
                      · cases h
                    · rename_i b v off len k es
                      split at h
                      · rename_i hes2
                        have hes3 : es = i.size := Nat.eq_of_beq_eq_true hes2
                        subst hes3
                        split at h
                        · rename_i hk
                          split at h
                          · rename_i H2 hw2
                            cases h
                            generalize hes : e s = vs at *
                            cases hvs with
                            | @sl _ _ _ _ _ _ loc c q1 q2 q3 q4 q5 q6 =>
                              have hck := q5 k rfl
                              subst hck
                              obtain ⟨w', hr, hS⟩ := write_spec (P := P) hM hw2 q1 (by omega) hD
                              have hkl := Nat.le_of_ble_eq_true hk
                              have hrun := run_app_room (ty := o.type) w r1 r2 hn r3 (some (loc.ad off)) len c (m' + 1) (e x) us (hlm w) (hus w (fun _ _ => rfl)) hkl (w' := w') (by simp only; rw [Loc.add _ _ _ q2]; exact hr)
                              exact ⟨C, w', hS, _, .sl q1 q2 hkl q4 q5 q6, hexec _ _ hrun⟩
                          · cases h
                        · rename_i hk
                          split at h
                          · rename_i olds hsrc hlim
                            obtain ⟨l1, l2⟩ := limA_spec hlim
                            unfold freshA at h
                            cases h
                            obtain ⟨ous, hDo, hfo⟩ := src_spec (P := P) hM hsrc hvs
                            have hlo : olds.length = len * i.size := by
                              unfold srcA at hsrc
                              simp only at hsrc
                              split at hsrc
                              · rename_i B n hb3 hrow
                                split at hsrc
                                · rename_i hb4
                                  cases hsrc
                                  obtain ⟨hB, hv⟩ := rowA_spec hrow
                                  generalize hes : e s = vs at *
                                  cases hvs with
                                  | @sl _ _ _ _ _ _ loc c q1 q2 q3 q4 q5 q6 =>
                                    obtain ⟨us', y1, y2, _⟩ := hM.read hB hv q1 (k := len * i.size) q2 (Nat.le_of_ble_eq_true hb4)
                                    rw [← y1.1]; exact y2
                                · cases hsrc
                              · cases hsrc
                            generalize hes : e s = vs at *
                            cases hvs with
                            | @sl _ _ _ _ _ _ loc c q1 q2 q3 q4 q5 q6 =>
                              have hck := q5 k rfl
                              subst hck
                              have hnk : ¬ len + (m' + 1) ≤ c := fun hle => by rw [Nat.ble_eq_true_of_le hle] at hk; cases hk
                              obtain ⟨C', w', hS, u, hu, hr⟩ := fresh_app (ty := o.type) hM hroom r1 r2 hn r3 hz hzs hlm hDo hD hlo hlen hus hfo hnk l1 l2
                              exact ⟨C', w', hS, u, hu, hexec _ _ hr⟩
                          · cases h
                      · cases h
                    · rename_i b v off len es
                      split at h
                      · rename_i B n hes2 hrow hlim
                        obtain ⟨l1, l2⟩ := limA_spec hlim
                        have hes3 : es = i.size := Nat.eq_of_beq_eq_true hes2
                        subst hes3
                        split at h
                        · rename_i g1 g2 g3 g4 g5 g6
                          rw [setF_eq] at h
                          cases h
                          obtain ⟨hB, hv⟩ := rowA_spec hrow
                          generalize hes : e s = vs at *
                          cases hvs with
                          | @sl _ _ _ _ _ _ loc c q1 q2 q3 q4 q5 q6 =>
                            obtain ⟨C', w', hS, u, hu, hr⟩ := app_grown (ty := o.type) hM hroom r1 r2 hn r3 hz hzs hB hv q1 g4 g5 (Nat.eq_of_beq_eq_true g6) q2 (Nat.le_of_ble_eq_true g1) (Nat.le_of_ble_eq_true g2) (Nat.le_of_ble_eq_true g3) q3 q4 q6 hlm hD hlen hone hus (Nat.succ_pos _) l1 l2
                            exact ⟨C', w', hS, u, hu, hexec _ _ hr⟩
                        · cases h
                      · cases h
                    · cases h
                  · cases h
              · cases hty
            · cases hty
          · cases hty
        · cases h
      · cases h
    · cases h
  · cases h
end
end Go.EV
