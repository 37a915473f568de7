/- Texts that the proof of a law rests on, put together: part 9. -/
import Derived.Test.YtajnboigikdefaaDoorFg8
namespace Go.EV
open Go Go.RowKit
set_option linter.unusedVariables false
set_option linter.unusedSimpArgs false
section
variable {P : Program} {C : Cx} {H H' : Heap} {base : Nat} {w w' : World} {ρ : Operand → Option AV} {e : Operand → Value} {o : Oper} {d : AV}
def objBlk (x : AObj) : Blk := ⟨[], 0, [], 1, 0, false, 0, some x⟩
theorem Mem.newObj (h : Mem C H base w) (hok : H.nb < 2 ^ 40 - 1) (x : AObj) (ob : Obj) (hx : ObjOk C x ob) :
    ∃ C', Step C C' H (H.push (objBlk x)) base w (w.alloc ob) ∧ C'.at_ H.nb 0 = some ⟨w.heap.size, 0, 0, 0, 0⟩ := by
  have hfresh : ∀ v loc, C.at_ H.nb v ≠ some loc := fun v loc hl => by
    obtain ⟨B, hB⟩ := h.known _ _ _ hl
    have := (h.blk _ B hB).1
    omega
  let loc : Loc := ⟨w.heap.size, 0, 0, 0, 0⟩
  have hE := C.more_ext (b := H.nb) (v := 0) loc (hfresh 0)
  have hnew : (C.more H.nb 0 loc).at_ H.nb 0 = some loc := Cx.more_same _ _ _ _
  have hat : ∀ v l, (C.more H.nb 0 loc).at_ H.nb v = some l → v = 0 ∧ l = loc := fun v l hl => by
    by_cases e : v = 0
    · subst e; rw [hnew] at hl; cases hl; exact ⟨rfl, rfl⟩
    · rw [Cx.more_ne C H.nb 0 loc (fun x => e x.2)] at hl
      exact absurd hl (hfresh v l)
  have hold : ∀ k, k < w.heap.size → (w.alloc ob).heap[k]? = w.heap[k]? := fun k hk => (by first | exact heap_alloc_old w _ k hk | exact heap_alloc_old w _ hk)
  refine ⟨C.more H.nb 0 loc, ⟨hE, ?_, ⟨rfl, rfl, rfl, by simp, fun k hk => hold k (Nat.lt_of_lt_of_le hk h.base)⟩, fun b B hB => ⟨B, ?_, Nat.le_refl _, fun _ v l hl => hold _ (((h.blk b B hB).2.ver v l hl).2)⟩, fun k hk hn => ⟨hold k hk, fun b v l hl => ?_⟩⟩, hnew⟩
  · refine h.upd hE (b := H.nb) (fun b' v hb' => Cx.more_ne C _ _ loc (fun x => hb' x.1)) (Heap.get_push_same H _ hok) (fun b' hb' => Heap.get_push_ne H b' _ hb') (Nat.le_succ _) (Nat.lt_succ_self _) ?_ (fun k hk _ => hold k hk) (by simp) (fun v l hl => ?_)
    · refine ⟨fun v n hv => by simp [objBlk] at hv, fun v l hl => ?_, fun v n l hv => by simp [objBlk] at hv, fun v n l hv => by simp [objBlk] at hv, fun v n v' n' l l' hv => by simp [objBlk] at hv, fun _ v l hl => ?_, fun a ha => ?_, fun l hl => by obtain ⟨_, rfl⟩ := hat 0 l hl; exact ⟨rfl, rfl⟩⟩
      · obtain ⟨rfl, rfl⟩ := hat v l hl
        exact ⟨Nat.zero_lt_one, by simp [loc]⟩
      · obtain ⟨_, rfl⟩ := hat v l hl
        exact h.base
      · simp only [objBlk, Option.some.injEq] at ha
        subst ha
        exact ⟨loc, ob, hnew, heap_alloc_new w _, hx.mono hE, rfl, rfl⟩
    · obtain ⟨_, rfl⟩ := hat v l hl
      exact .inr (.inl (Nat.le_refl _))
  · rw [Heap.get_push_ne H b _ (by have := (h.blk b B hB).1; omega)]; exact hB
  · by_cases e : b = H.nb ∧ v = 0
    · obtain ⟨rfl, rfl⟩ := e
      rw [hnew] at hl; cases hl
      show w.heap.size ≠ k
      omega
    · rw [Cx.more_ne C H.nb 0 loc e] at hl
      exact hn b v l hl
def Blk.told (B : Blk) (x : AObj) : Blk := { B with vers := [], obj := some x, stamp := B.stamp + 1 }
theorem Mem.setObj (h : Mem C H base w) (hok : H.nb < 2 ^ 40 - 1) {b : Nat} {B : Blk} {loc : Loc} (hB : H.get b = some B) (hl : C.at_ b 0 = some loc) (h0 : loc.off = 0) (h1 : loc.lo = 0) (hro : B.ro = false) (x : AObj) (ob : Obj) (hx : ObjOk C x ob) :
    Step C C H (H.set b (B.told x)) base w { w with heap := w.heap.setIfInBounds loc.blk ob } := by
  obtain ⟨hbn, L⟩ := h.blk b B hB
  have hlt := (L.ver 0 loc hl).2
  have hother : ∀ k, k ≠ loc.blk → (w.heap.setIfInBounds loc.blk ob)[k]? = w.heap[k]? := fun k hk => by simp [Array.getElem?_setIfInBounds_ne (Ne.symm hk)]
  have hob : base ≤ loc.blk := L.own hro 0 loc hl
  refine ⟨.refl C, ?_, ⟨rfl, rfl, rfl, by simp, fun k hk => hother k (by omega)⟩, fun b' B' hB' => ?_, fun k hk hn => ⟨hother k (fun e => hn b 0 loc hl e.symm), hn⟩⟩
  · refine h.upd (.refl C) (b := b) (fun _ _ _ => rfl) (Heap.get_set_same H b _ (by omega)) (fun b' hb => Heap.get_set_ne H b b' _ hb) (Nat.le_refl _) hbn ?_ (fun k hk hne => hother k (fun e => hne 0 loc hl e.symm)) (by simp) (fun v l hl => .inl ⟨v, l, hl, rfl⟩)
    refine ⟨fun v n hv => by simp [Blk.told] at hv, fun v l hl => ?_, fun v n l hv => by simp [Blk.told] at hv, fun v n l hv => by simp [Blk.told] at hv, fun v n v' n' l l' hv => by simp [Blk.told] at hv, L.own, fun a ha => ?_, L.at0⟩
    · have := L.ver v l hl
      exact ⟨this.1, by simpa using this.2⟩
    · simp only [Blk.told, Option.some.injEq] at ha
      subst ha
      exact ⟨loc, ob, hl, by simp [hlt], hx, h0, h1⟩
  · by_cases e : b' = b
    · subst e
      rw [hB] at hB'; cases hB'
      exact ⟨_, Heap.get_set_same H b' _ (by omega), Nat.le_succ _, fun e => absurd e (by show B.stamp + 1 ≠ B.stamp; omega)⟩
    · refine ⟨B', by rw [Heap.get_set_ne H b b' _ e]; exact hB', Nat.le_refl _, fun _ v' l hl' => hother _ (h.sep b' v' l b 0 loc hl' hl e)⟩
noncomputable def rangeA (P : Program) (H : Heap) (t : TypeId) (x : AV) : Option (AV × Heap) := match x, runQ P (underlying t), roomA H with
  | .lit (.string s), some .string, true => some (.ptr H.nb 0 0, H.push (objBlk (.iter s 0)))
  | _, _, _ => none
theorem d_range (hM : Mem C H base w) (hf : Fine C ρ e) {t : TypeId} {x : Operand} {dx : AV} (ho : o.op = .range t x) (hx : ρ x = some dx) (h : rangeA P H t dx = some (d, H')) : Does P C H H' base w e o (some d) := by
  unfold rangeA at h
  split at h
  · rename_i s hu hroom
    cases h
    have hv := hf x _ hx
    generalize hb : e x = vx at hv
    cases hv
    have r1 := runQ_spec P _ _ hu
    obtain ⟨C', hS, hat⟩ := hM.newObj (room_spec hroom) (.iter s 0) (.stringIter s 0) (.iter s 0)
    refine ⟨C', _, hS, .pointer (some ⟨w.heap.size, 0, none⟩), .ptr (loc := ⟨w.heap.size, 0, 0, 0, 0⟩) hat (Nat.zero_le _), ?_⟩
    simp [execOp, ho, Instr.range, r1, hb, newObj, Sem.run]
  · cases h
noncomputable def nextA (H : Heap) (x : AV) (isString : Bool) : Option (AV × Heap) := match x, isString with
  | .ptr b 0 0, true => match H.get b, roomA H with
    | some B, true => match B.obj, B.ro with
      | some (.iter s pos), false => match Nat.blt pos s.size with
        | true => some (.tup [.lit (.bool true), .lit (.int .i64 pos), .lit (.int .i32 (Utf8.decode s pos).1)], H.set b (B.told (.iter s (pos + (Utf8.decode s pos).2))))
        | false => some (.tup [.lit (.bool false)], H)
      | _, _ => none
    | _, _ => none
  | _, _ => none
theorem d_next (hM : Mem C H base w) (hf : Fine C ρ e) {x : Operand} {b : Bool} {dx : AV} (ho : o.op = .next x b) (hx : ρ x = some dx) (h : nextA H dx b = some (d, H')) : Does P C H H' base w e o (some d) := by
  unfold nextA at h
  split at h
  · rename_i b'
    split at h
    · rename_i B hB hroom
      split at h
      · rename_i s pos hobj hro
        have hv := hf x _ hx
        generalize hb : e x = vx at hv
        cases hv with
        | @ptr _ _ _ loc hl hlo =>
          obtain ⟨loc', ob, e1, e2, e3, e4, e5⟩ := (hM.blk _ B hB).2.objs _ hobj
          rw [hl] at e1; cases e1
          cases e3
          have had : loc.ad 0 = ⟨loc.blk, 0, none⟩ := by simp [Loc.ad, e4]
          rw [had] at hb
          have hget : ∀ {α : Type} (k : Obj → Sem α), (getObj loc.blk >>= k).run P w = (k (.stringIter s pos)).run P w := fun k => by
            simp [getObj, Sem.run, e2]
          split at h
          · rename_i hlt
            cases h
            have hlt' : pos < s.size := by simpa [Nat.blt_eq] using hlt
            have hS := hM.setObj (room_spec hroom) hB hl e4 e5 hro (.iter s (pos + (Utf8.decode s pos).2)) (.stringIter s (pos + (Utf8.decode s pos).2)) (.iter _ _)
            refine ⟨C, _, hS, .tuple #[.bool true, .int .i64 pos, .int .i32 (Utf8.decode s pos).1], ?_, ?_⟩
            · have := ((Dens.nil C).cons (.lit (.int .i32 ((Utf8.decode s pos).1 : Int)))).cons (.lit (.int .i64 (pos : Int))) |>.cons (.lit (.bool true))
              exact .tup (vs := [.bool true, .int .i64 pos, .int .i32 (Utf8.decode s pos).1]) this.1 this.2
            · simp [execOp, ho, Instr.next, hb, getObj, setObj, Sem.run, e2, hlt', goInt]
          · rename_i hlt
            cases h
            have hlt' : ¬ pos < s.size := fun hh => by rw [show Nat.blt pos s.size = true from by simpa [Nat.blt_eq] using hh] at hlt; cases hlt
            refine ⟨C, w, Step.refl hM, .tuple #[.bool false], ?_, ?_⟩
            · have := (Dens.nil C).cons (.lit (.bool false))
              exact .tup (vs := [.bool false]) this.1 this.2
            · simp [execOp, ho, Instr.next, hb, getObj, setObj, Sem.run, e2, hlt']
      · cases h
    · cases h
  · cases h
end
end Go.EV
