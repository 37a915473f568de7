/- Texts that the proof of a law rests on, put together: part 17. -/
import Derived.Test.YtajnboigikdefaaDoorFg16
namespace Go.EV
open Go Go.RowKit
set_option linter.unusedVariables false
set_option linter.unusedSimpArgs false
inductive FS where
  | ptr
  | sl (len cap size : Nat)
def valF : FS → Nat → AV
  | .ptr, b => .ptr b 0 0
  | .sl len cap size, b => .sl b 0 0 len (some cap) size
def concF : FS → Nat → Value
  | .ptr, g => .pointer (some ⟨g, 0, none⟩)
  | .sl len cap _, g => .slice (some ⟨g, 0, none⟩) len cap
def okF : FS → Array Value → Prop
  | .ptr, _ => True
  | .sl len cap size, arr => len ≤ cap ∧ cap ≤ 9223372036854775807 ∧ cap * size ≤ arr.size
def floatA (P : Program) (ρ : Operand → Option AV) (o : Oper) : Option (FS × List AV × TypeId) := match o.op with
  | .alloc t => match zerosA P t with
    | some cs => some (.ptr, cs, t)
    | none => none
  | .box t x => match ρ x with
    | some dx => match cellsA dx with
      | some cs => some (.ptr, cs, t)
      | none => none
    | none => none
  | .buildSlice t len parts => match none0 len parts.toList with
    | true => match runQ P (underlying t) with
      | some (.slice elem) => match sizeA P elem with
        | some size => some (.sl 0 0 size, [], elem)
        | none => none
      | _ => none
    | false => match runQ P (underlying t), opdPs ρ parts.toList with
      | some (.slice elem), some ps => match sizeA P elem, zerosA P elem with
        | some size, some z => match Nat.beq z.length size, Nat.ble (len * size) 16777216, Nat.ble len 9223372036854775807, Nat.blt 0 (len * size), fillA (fun i => some (i * size, size)) (repA z len) ps with
          | true, true, true, true, some cs => some (.sl len len size, cs, elem)
          | _, _, _, _, _ => none
        | _, _ => none
      | _, _ => none
  | .makeSlice t l c => match (ρ l).bind natA, (ρ c).bind natA, runQ P (underlying t) with
    | some l, some c, some (.slice elem) => match runQ P (typeInfo elem), zerosA P elem with
      | some i, some z => match Nat.beq z.length i.size, Nat.ble l c, Nat.ble c 9223372036854775807, Nat.ble (i.bytes * c) 281474976710656 with
        | true, true, true, true => some (.sl l c i.size, repA z c, elem)
        | _, _, _, _ => none
      | _, _ => none
    | _, _, _ => none
  | _ => none
def floatK : Op → Bool
  | .alloc _ | .box .. | .buildSlice .. | .makeSlice .. => true
  | _ => false
def isFloatO (o : Oper) : Bool := floatK o.op && (o.guard.isNone && o.dst.isSome)
section
variable {P : Program} {C : Cx} {H H' : Heap} {base n : Nat} {w w' : World} {ρ ρ' : Operand → Option AV} {e : Operand → Value} {o : Oper} {cf : CF} {ops : Array Oper} {s : St} {rs : List (XE × St)}
theorem opdPs_congr : ∀ (l : List (Nat × Operand)), (∀ x ∈ l.map (·.2), ρ x = ρ' x) → opdPs ρ l = opdPs ρ' l
  | [], _ => rfl
  | (i, x) :: r, h => by
    simp only [opdPs]
    rw [h x (by simp), opdPs_congr r (fun y hy => h y (by simp [hy]))]
theorem floatA_congr (h : ∀ x ∈ o.op.operands.toList, ρ x = ρ' x) : floatA P ρ o = floatA P ρ' o := by
  unfold floatA
  cases hop : o.op with
  | box t x =>
    have : ρ x = ρ' x := h x (by simp [hop, Op.operands])
    simp only [this]
  | buildSlice t len parts =>
    have : opdPs ρ parts.toList = opdPs ρ' parts.toList := opdPs_congr _ (fun x hx => h x (by simpa [hop, Op.operands] using hx))
    simp only [this]
  | makeSlice t l c =>
    have h1 : ρ l = ρ' l := h l (by simp [hop, Op.operands])
    have h2 : ρ c = ρ' c := h c (by simp [hop, Op.operands])
    simp only [h1, h2]
  | _ => rfl
theorem float_run (hf : Fine C ρ e) {fs : FS} {cs : List AV} {el : TypeId} (h : floatA P ρ o = some (fs, cs, el)) : ∃ arr : Array Value, Dens C cs arr.toList ∧ okF fs arr ∧ ∀ w, (execOp e o).run P w = .ok (.value (concF fs w.heap.size)) (w.alloc (.cells arr el)) := by
  unfold floatA at h
  split at h
  · rename_i t hop
    split at h
    · rename_i cs' hz
      cases h
      obtain ⟨z, hr, hd⟩ := zerosA_spec (C := C) hz
      exact ⟨z.cells, hd, trivial, fun w => by simp [execOp, hop, Instr.alloc, hr, newVar, newRow, newObj, Sem.run, concF]⟩
    · cases h
  · rename_i t x hop
    split at h
    · rename_i dx hx
      split at h
      · rename_i cs' hz
        cases h
        exact ⟨(e x).cells, cellsA_spec hz (hf x _ hx), trivial, fun w => by simp [execOp, hop, Instr.box, newVar, newRow, newObj, Sem.run, concF]⟩
      · cases h
    · cases h
  · rename_i t len parts hop
    split at h
    · rename_i h0
      split at h
      · rename_i elem hu
        split at h
        · rename_i size hs
          cases h
          obtain ⟨rfl, hp⟩ := none0_spec h0
          have hp' : parts = #[] := by apply Array.ext'; simpa using hp
          subst hp'
          have r1 := runQ_spec P _ _ hu
          have r2 := runQ_spec P _ _ (show runQ P (sizeOf el) = some size from hs)
          exact ⟨#[], .nil C, ⟨Nat.le_refl _, by omega, by simp⟩, fun w => by simp [execOp, hop, run_build0 r1 r2, concF]⟩
        · cases h
      · cases h
    · split at h
      · rename_i elem ps hu hps
        split at h
        · rename_i size z hs hz
          split at h
          · rename_i cs' hb1 hb2 hb3 hb4 hfill
            cases h
            obtain ⟨zv, hzr, hzd⟩ := zerosA_spec (C := C) hz
            obtain ⟨h1, h2⟩ := opdPs_spec hf _ _ hps
            have hzs : zv.cells.size = size := by rw [← Nat.eq_of_beq_eq_true hb1, ← hzd.1]; simp
            have hrep := rep_spec hzd len
            obtain ⟨c, hc, hD⟩ := fill_spec _ ps _ (repA z len) cs _ h1 h2 hrep hfill
            have hparts : (parts.map fun (x : Nat × Operand) => (x.1, e x.2)).toList = parts.toList.map fun p => (p.1, e p.2) := by simp
            have hpos : 0 < len * size := by simpa [Nat.blt_eq] using hb4
            have hcs : c.size = len * size := by
              rw [← Array.length_toList, hD.1]
              have key : ∀ (ps : List (Nat × AV)) (l m : List AV), fillA (fun i => some (i * size, size)) l ps = some m → m.length = l.length := by
                intro ps
                induction ps with
                | nil => intro l m h; simp only [fillA, Option.some.injEq] at h; rw [h]
                | cons q ps ih =>
                  intro l m h
                  obtain ⟨i, d⟩ := q
                  simp only [fillA] at h
                  split at h
                  · split at h
                    · have hsl : ∀ (cs l : List AV) (off : Nat), (setsA l off cs).length = l.length := by
                        intro cs
                        induction cs with
                        | nil => intro l off; rfl
                        | cons c cs ih => intro l off; rw [setsA, ih]; simp
                      rw [ih _ _ h, hsl]
                    · cases h
                  · cases h
              rw [key ps _ _ hfill, ← hrep.1]
              simp [hzs]
            have r1 := runQ_spec P _ _ hu
            have r2 := runQ_spec P _ _ (show runQ P (sizeOf el) = some size from hs)
            refine ⟨c, hD, ⟨Nat.le_refl _, Nat.le_of_ble_eq_true hb3, by rw [hcs]; omega⟩, fun w => ?_⟩
            have h24 : ¬ (len * size > 2 ^ 24) := by have := Nat.le_of_ble_eq_true hb2; omega
            rw [hzs] at hc
            simp only [execOp, hop, Instr.buildSlice, Sem.run_bind, r1, Result.andThen_ok, r2, if_neg h24, Nat.pos_iff_ne_zero.1 hpos, if_false, hzr, hparts, Sem.run_pure, hzs, hc]
            simp [newRow, newObj, Sem.run, concF]
          · cases h
        · cases h
      · cases h
  · rename_i t l c hop
    split at h
    · rename_i ln cn elem hl hc hu
      split at h
      · rename_i i z hi hz
        split at h
        · rename_i hb1 hb2 hb3 hb4
          cases h
          obtain ⟨dl, hdl, hl2⟩ := Option.bind_eq_some_iff.1 hl
          obtain ⟨dc, hdc, hc2⟩ := Option.bind_eq_some_iff.1 hc
          obtain ⟨kl, hel⟩ := natA_spec hl2 (hf l _ hdl)
          obtain ⟨kc, hec⟩ := natA_spec hc2 (hf c _ hdc)
          have r1 := runQ_spec P _ _ hu
          have r3 := runQ_spec P _ _ hi
          obtain ⟨zv, hzr, hzd⟩ := zerosA_spec (C := C) hz
          have hzs : zv.cells.size = i.size := by rw [← Nat.eq_of_beq_eq_true hb1, ← hzd.1]; simp
          have e1 := Nat.le_of_ble_eq_true hb2
          have e2 := Nat.le_of_ble_eq_true hb3
          have e3 := Nat.le_of_ble_eq_true hb4
          have hrep := rep_spec hzd cn
          rw [hzs] at hrep
          have hsz : ((Array.range (cn * i.size)).map (zv.cells[· % i.size]!)).size = cn * i.size := by simp
          refine ⟨(Array.range (cn * i.size)).map (zv.cells[· % i.size]!), hrep, ⟨e1, e2, by rw [hsz]; omega⟩, fun w => ?_⟩
          have wl : IntKind.i64.wrap (ln : Int) = (ln : Int) := by rw [IntKind.wrap_i64]; omega
          have wc : IntKind.i64.wrap (cn : Int) = (cn : Int) := by rw [IntKind.wrap_i64]; omega
          have t1 : ¬ ((281474976710656 : Int) < (i.bytes : Int) * (cn : Int)) := by
            have h5 : ((i.bytes * cn : Nat) : Int) ≤ ((281474976710656 : Nat) : Int) := Int.ofNat_le.2 e3
            rw [Int.natCast_mul] at h5
            generalize (i.bytes : Int) * (cn : Int) = m at h5 ⊢
            omega
          have hsize : ∀ w, (sizeOf el).run P w = .ok i.size w := fun w => by simp [sizeOf, r3]
          have hlt : ¬ ((cn : Int) < (ln : Int)) := by omega
          have hc0 : ¬ ((cn : Int) < 0) := by omega
          have hl0 : ¬ ((ln : Int) < 0) := by omega
          by_cases hn : cn * i.size = 0
          · have hr0 : Array.range 0 = #[] := by apply Array.eq_empty_of_size_eq_zero; simp
            simp [execOp, hop, Instr.makeSlice, r1, hel, hec, asInt, asIntOf, r3, wl, wc, t1, hlt, hc0, hl0, askRoom, hsize, hn, hr0, newRow, newObj, Sem.run, concF]
            all_goals (split <;> rfl)
          · simp [execOp, hop, Instr.makeSlice, r1, hel, hec, asInt, asIntOf, r3, wl, wc, t1, hlt, hc0, hl0, askRoom, hsize, hn, hzr, hzs, newRow, newObj, Sem.run, concF]
            all_goals (split <;> rfl)
        · cases h
      · cases h
    · cases h
  · cases h
theorem float_does {r : Option AV} (hk : floatK o.op = true) (h : doesA P H ρ o = some (r, H')) : ∃ fs cs el, floatA P ρ o = some (fs, cs, el) ∧ r = some (valF fs H.nb) ∧ H' = H.push (newBlk cs el) ∧ roomA H = true := by
  unfold doesA at h
  cases hop : o.op <;> rw [hop] at hk <;> simp [floatK] at hk
  · rename_i t
    rw [hop] at h
    simp only at h
    unfold allocA at h
    unfold floatA
    rw [hop]
    simp only
    split at h
    · rename_i d H2 h1
      cases h
      split at h1
      · rename_i cs hz hroom
        cases h1
        exact ⟨.ptr, cs, t, by rw [hz], rfl, rfl, hroom⟩
      · cases h1
    · cases h
  · rename_i t x
    rw [hop] at h
    simp only at h
    unfold boxA at h
    unfold floatA
    rw [hop]
    simp only
    split at h
    · rename_i dx hx
      split at h
      · rename_i d H2 h1
        cases h
        split at h1
        · rename_i cs hz hroom
          cases h1
          exact ⟨.ptr, cs, t, by rw [hx]; simp only [hz], rfl, rfl, hroom⟩
        · cases h1
      · cases h
    · cases h
  · rename_i t len parts
    rw [hop] at h
    simp only at h
    unfold floatA
    rw [hop]
    simp only
    split at h
    · rename_i d H2 h1
      cases h
      unfold buildAny at h1
      split at h1
      · rename_i h0
        rw [h0]
        unfold build0 at h1
        split at h1
        · rename_i elem hu hroom
          split at h1
          · rename_i size hs
            cases h1
            exact ⟨.sl 0 0 size, [], elem, by rw [hu]; simp only [hs], rfl, rfl, hroom⟩
          · cases h1
        · cases h1
      · rename_i h0
        rw [h0]
        unfold buildSliceA at h1
        split at h1
        · rename_i elem ps hu hroom hps
          split at h1
          · rename_i size z hs hz
            split at h1
            · rename_i cs hb1 hb2 hb3 hb4 hfill
              cases h1
              exact ⟨.sl len len size, cs, elem, by rw [hu, hps]; simp only [hs, hz, hb1, hb2, hb3, hb4, hfill], rfl, rfl, hroom⟩
            · cases h1
          · cases h1
        · cases h1
    · cases h
  · rename_i t l c
    rw [hop] at h
    simp only at h
    unfold floatA
    rw [hop]
    simp only
    split at h
    · rename_i dl dc hdl hdc
      split at h
      · rename_i d H2 h1
        cases h
        unfold makeSliceA at h1
        split at h1
        · rename_i ln cn elem g1 g2 hu hroom
          split at h1
          · rename_i i z hi hz
            split at h1
            · rename_i hb1 hb2 hb3 hb4
              cases h1
              exact ⟨.sl ln cn i.size, repA z cn, elem, by rw [hdl, hdc]; simp only [Option.bind, g1, g2, hu, hi, hz, hb1, hb2, hb3, hb4], rfl, rfl, hroom⟩
            · cases h1
          · cases h1
        · cases h1
      · cases h
    · cases h
theorem float_step {x : Nat} (ho : ops[x]? = some o) (hk : isFloatO o = true) (h : opStep P cf n ops x s = some rs) : ∃ fs cs el E', floatA P (opd s.E) o = some (fs, cs, el) ∧ putA n s.E o.dst (valF fs s.H.nb) = some E' ∧ rs = [(.normal, ⟨E', s.H.push (newBlk cs el), s.ds⟩)] ∧ roomA s.H = true := by
  simp only [isFloatO, Bool.and_eq_true] at hk
  have hg : o.guard = none := by simpa using hk.2.1
  unfold opStep at h
  rw [ho] at h
  simp only [stepO, hg] at h
  have hpl : plainA P s.H (opd s.E) o = none := by
    unfold plainA
    cases hop : o.op <;> rw [hop] at hk <;> simp [floatK] at hk <;> rfl
  have hfa : fastOp (opd s.E) o.op = none := by
    cases hop : o.op <;> rw [hop] at hk <;> simp [floatK] at hk <;> rfl
  have h2 : (match doesA P s.H (opd s.E) o with | some (r, H') => one n s o (r.getD undefA) H' | none => none) = some rs := by
    unfold goStep at h
    rw [hfa] at h
    simp only at h
    unfold slowStep at h
    cases hop : o.op <;> rw [hop] at hk h <;> simp [floatK] at hk <;> simp only [viaPlain, hpl, viaDoes] at h <;> exact h
  split at h2
  · rename_i r H2 hd
    obtain ⟨fs, cs, el, h3, rfl, rfl, h4⟩ := float_does hk.1 hd
    obtain ⟨E', hE, rfl⟩ := one_spec h2
    exact ⟨fs, cs, el, E', h3, hE, rfl, h4⟩
  · cases h2
theorem Mem.name (h : Mem C H base w) (hok : H.nb < 2 ^ 40 - 1) {g : Nat} {arr : Array Value} {cells : List AV} {elem : TypeId} (hd : Dens C cells arr.toList) (hg : w.heap[g]? = some (.cells arr elem)) (hb : base ≤ g) (hun : ∀ b v loc, C.at_ b v = some loc → loc.blk ≠ g) :
    ∃ C', Ext C C' ∧ Mem C' (H.push (newBlk cells elem)) base w ∧ C'.at_ H.nb 0 = some ⟨g, 0, 0, arr.size, cells.length⟩ ∧ (∀ b v loc, C'.at_ b v = some loc → C.at_ b v = some loc ∨ loc.blk = g) := by
  have hlen : cells.length = arr.size := by rw [← hd.1]; simp
  have hfresh : ∀ v loc, C.at_ H.nb v ≠ some loc := fun v loc hl => by
    obtain ⟨B, hB⟩ := h.known _ _ _ hl
    have := (h.blk _ B hB).1
    omega
  let loc : Loc := ⟨g, 0, 0, arr.size, cells.length⟩
  have hE := C.more_ext (b := H.nb) (v := 0) loc (hfresh 0)
  have hnew : (C.more H.nb 0 loc).at_ H.nb 0 = some loc := Cx.more_same _ _ _ _
  have hat : ∀ v l, (C.more H.nb 0 loc).at_ H.nb v = some l → v = 0 ∧ l = loc := fun v l hl => by
    by_cases e : v = 0
    · subst e; rw [hnew] at hl; cases hl; exact ⟨rfl, rfl⟩
    · rw [Cx.more_ne C H.nb 0 loc (fun x => e x.2)] at hl
      exact absurd hl (hfresh v l)
  have hgl : g < w.heap.size := (Array.getElem?_eq_some_iff.1 hg).1
  refine ⟨C.more H.nb 0 loc, hE, ?_, hnew, fun b v l hl => ?_⟩
  · refine h.upd hE (b := H.nb) (fun b' v hb' => Cx.more_ne C _ _ loc (fun x => hb' x.1)) (Heap.get_push_same H _ hok) (fun b' hb' => Heap.get_push_ne H b' _ hb') (Nat.le_succ _) (Nat.lt_succ_self _) ?_ (fun k hk _ => rfl) (Nat.le_refl _) (fun v l hl => ?_)
    · refine ⟨fun v n hv => ?_, fun v l hl => ?_, fun v n l hv hl => ?_, fun v n l hv hl i h1 h2 => ?_, fun v n v' n' l l' hv hv' hl hl' _ => ?_, fun _ v l hl => ?_, fun a ha => (by cases ha), fun l hl => by obtain ⟨_, rfl⟩ := hat 0 l hl; exact ⟨rfl, rfl⟩⟩
      · simp only [newBlk, List.mem_singleton, Prod.mk.injEq] at hv
        obtain ⟨rfl, rfl⟩ := hv
        exact ⟨loc, hnew, rfl⟩
      · obtain ⟨rfl, rfl⟩ := hat v l hl
        exact ⟨Nat.zero_lt_one, hgl⟩
      · obtain ⟨rfl, rfl⟩ := hat v l hl
        exact ⟨arr, 0, 0, hg, rfl, Nat.zero_le _⟩
      · obtain ⟨rfl, rfl⟩ := hat v l hl
        simp only [newBlk, List.mem_singleton, Prod.mk.injEq] at hv
        obtain ⟨_, rfl⟩ := hv
        have hcell : w.cell? (loc.ad i) = arr[i]? := by simp [World.cell?, Loc.ad, loc, hg]
        have hi : i < arr.size := by omega
        have hdi : cells[i]? = some cells[i] := List.getElem?_eq_getElem h2
        have hui : arr.toList[i]? = some arr[i] := by simp [hi]
        exact ⟨cells[i], arr[i], hdi, by rw [hcell]; simp [hi], (hd.2 i _ _ hdi hui).mono hE⟩
      · obtain ⟨_, rfl⟩ := hat v l hl
        obtain ⟨_, rfl⟩ := hat v' l' hl'
        rfl
      · obtain ⟨_, rfl⟩ := hat v l hl
        exact hb
    · obtain ⟨_, rfl⟩ := hat v l hl
      exact .inr (.inr (fun b' v' l' hl' => hun b' v' l' hl'))
  · by_cases e : b = H.nb ∧ v = 0
    · obtain ⟨rfl, rfl⟩ := e
      rw [hnew] at hl; cases hl
      exact .inr rfl
    · rw [Cx.more_ne C H.nb 0 loc e] at hl
      exact .inl hl
theorem valF_den {fs : FS} {arr : Array Value} {b g m : Nat} (hok : okF fs arr) (h : C.at_ b 0 = some ⟨g, 0, 0, arr.size, m⟩) : Den C (valF fs b) (concF fs g) := by
  cases fs with
  | ptr => exact .ptr (loc := ⟨g, 0, 0, arr.size, m⟩) h (Nat.zero_le _)
  | sl len cap size => exact .sl (loc := ⟨g, 0, 0, arr.size, m⟩) (c := cap) h (Nat.zero_le _) hok.1 hok.2.1 (fun k hk => by cases hk; rfl) (by have := hok.2.2; show 0 + (0 - 0) + cap * size ≤ arr.size; omega)
end
end Go.EV
