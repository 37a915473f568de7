/- Texts that the proof of a law rests on, put together: part 23. -/
import Derived.Test.YtajnboigikdefaaDoorFg22
namespace Go.EV
open Go Go.RowKit
open Go.XW (Imm Fits DD RepV SL LeafOk leafB Own Apart addI All2 Src Cells)
set_option linter.unusedVariables false
set_option linter.unusedSimpArgs false
section
variable {P : Program} {C : Cx} {M M' : SH} {base : Nat} {w : World} {ρ : Operand → Option AV} {e : Operand → Value} {o : Oper} {d : AV}
theorem run_append_zeros (w : World) (t tx ty T : TypeId) (i : TypeInfo) (z : Value) (ht : P.underlying t = some (.slice T)) (hx : P.underlying tx = some (.int .i64)) (hi : P.info? T = some i) (hz : i.zero = some z) (n : Nat) (h0 : 0 < n) (hs : 0 < i.size)
    (h48 : n * i.bytes ≤ 140737488355328) (h63 : (n : Int) ≤ 9223372036854775807) :
    (Builtin.append_ #[t, tx] ty #[.slice none 0 0, .int .i64 (n : Int)]).run P w = .ok (.slice (some ⟨w.heap.size, 0, none⟩) n (grownCap w n 0 T)) (w.drew.alloc (.cells (Builtin.zeroCells z.cells n ++ Builtin.zeroCells z.cells (grownCap w n 0 T - n)) T)) := by
  have hn : n ≠ 0 := by omega
  have hw : IntKind.i64.wrap (n : Int) = (n : Int) := by
    have h64 : ((2 : Int) ^ 64) = 18446744073709551616 := by decide
    have h63' : ((2 : Int) ^ 63) = 9223372036854775808 := by decide
    simp [IntKind.wrap, IntKind.bits, IntKind.signed, h64, h63']; omega
  have h1 : ¬ ((n : Int) < 0) := by omega
  have h2 : ¬ (281474976710656 < (n : Int) * (i.bytes : Int)) := by
    have : ((n * i.bytes : Nat) : Int) = (n : Int) * (i.bytes : Int) := Int.natCast_mul _ _
    omega
  have h3 : ¬ (9223372036854775807 < (n : Int)) := by omega
  have h4 : ¬ (281474976710656 < Builtin.nextslicecap n 0 * i.bytes) := by rw [nextslicecap_zero h0]; omega
  have h5 : ¬ (n * i.size = 0) := Nat.mul_ne_zero hn (by omega)
  simp [Builtin.append_, run_underlying ht, run_underlying hx, sizeOf, typeInfo, zeroValue, hi, hz, asInt, asIntOf, hw, h1, h2, hn, h3, h4, (show ¬ i.size = 0 by omega), Question.forced, run_firstCells_none, newRow, grownCap]
  exact fun h => absurd h h5
theorem own_zeros {I : Imm} {w' : World} {T : TypeId} {ty : Ty} {x0 : ty.den} {zs : Array Value} {g n c : Nat} {arr : Array Value} (hzl : zs.size = ty.cells) (hz : All2 I (ty.dd x0) zs.toList) (hb : base ≤ g) (hg : w'.heap[g]? = some (.cells arr T (0, 0)))
    (hnc : n ≤ c) (hc : c ≤ maxLen) (hsz : arr.size = c * ty.cells) (harr : arr.toList.take (n * ty.cells) = (Builtin.zeroCells zs n).toList) (haw : ∀ a : Addr, a.block = g → I a = none) :
    Own base I w' T ty.cells ty.dd (List.replicate n x0) (.slice (some ⟨g, 0, none⟩) n c) := by
  have hpos := ty.cells_pos
  refine ⟨⟨(Builtin.zeroCells zs n).toList, ⟨?_, .inr ⟨g, c, arr, by rw [List.length_replicate], hb, hg, by rw [List.length_replicate]; exact hnc, hc, hsz, by rw [List.length_replicate]; exact harr⟩⟩, ?_⟩, fun g' hg' a ha => ?_⟩
  · rw [Array.length_toList, size_zeroCells, hzl, List.length_replicate]
  · intro a b x q hx hq
    rw [List.getElem?_replicate] at hx
    split at hx
    · rename_i ha
      cases hx
      have hb' : b < ty.cells := by have := (List.getElem?_eq_some_iff.1 hq).1; rwa [(ty.leafOk x0).1] at this
      have hab : a * ty.cells + b < n * ty.cells := by
        have : (a + 1) * ty.cells ≤ n * ty.cells := Nat.mul_le_mul_right _ ha
        rw [Nat.add_mul, Nat.one_mul] at this; omega
      have hzb : zs.toList[b]? = some (zs.toList[b]'(by rw [Array.length_toList, hzl]; exact hb')) := List.getElem?_eq_getElem _
      refine ⟨_, ?_, hz.back.2 b q _ hq hzb⟩
      rw [Array.getElem?_toList]
      simp only [Builtin.zeroCells]
      rw [Array.getElem?_map, Array.getElem?_range, if_pos (by rw [hzl]; exact hab)]
      simp only [Option.map_some, Option.some.injEq]
      have hmod : (a * ty.cells + b) % zs.size = b := by rw [hzl, Nat.mul_comm, Nat.mul_add_mod, Nat.mod_eq_of_lt hb']
      have hbs : b < zs.size := by rw [hzl]; exact hb'
      rw [hmod, getElem!_pos zs b hbs, Array.getElem_toList]
    · cases hx
  · cases hg'; exact haw a ha
def sAppZ (P : Program) (M : SH) (ρ : Operand → Option AV) (c : Call) : Option (AV × SH × Option Prop) := match c.callee, c.args.toList, c.argTypes.toList with
  | .builtin .append, [s, x], [t, t2] => match runQ P (underlying t2), apEl P t, ρ s, ρ x with
    | some (.int .i64), some (el, size, bytes), some ds, some dx => match isNilA ds, asI dx, zerosA P el, tyOf P 6 el with
      | true, some (.i64, n), some z, some ty => match Nat.beq size ty.cells, ofAv M ty z with
        | true, some (x0, []) => let p := newR M ty el (List.replicate n.toNat x0) none
          some (p.1, p.2, some (0 ≤ n ∧ n * (bytes : Int) ≤ 140737488355328))
        | _, _ => none
      | _, _, _, _ => none
    | _, _, _, _ => none
  | _, _, _ => none
theorem d_sappz (hM : SMem C M base w) (hf : Fine C ρ e) {c : Call} (ho : o.op = .call c) {p : Option Prop} (h : sAppZ P M ρ c = some (d, M', p)) (hp : holds p) : DoesS P C M M' base w e o (some d) := by
  unfold sAppZ at h
  split at h
  · rename_i s x t t2 h1 h2 h3
    obtain ⟨callee, args, argTypes⟩ := c
    have e1 := list_arr h2
    have e2 := list_arr h3
    simp only at h1 e1 e2
    subst h1; subst e1; subst e2
    split at h
    · rename_i el size bytes ds dx hu hap hs hx
      have hu := und_of hu
      obtain ⟨i, zv, q1, q2, q3, q4, q5, q6, q7, q8⟩ := apEl_spec hap
      have hds := hf s _ hs
      have hdx := hf x _ hx
      have fin : ∀ {v' : Value} {w' : World}, (Builtin.append_ #[t, t2] o.type #[e s, e x]).run P w = .ok v' w' → (execOp e o).run P w = .ok (.value v') w' := fun hr => by
        simp only [execOp, ho, resolve, invoke, builtin, Sem.run_bind, Sem.run_pure, Result.andThen_ok, List.map_toArray, List.map_cons, List.map_nil, hr]
      split at h
      · rename_i n z ty hnil hn hz hty
        split at h
        · rename_i x0 hsz hof
          cases h
          obtain ⟨g0, g1⟩ := hp
          have esz := Nat.eq_of_beq_eq_true hsz
          have e1 := asI_spec hn hdx
          unfold isNilA at hnil
          split at hnil
          · generalize hv : e s = vs at hds
            cases hds
            rw [hv, e1] at fin
            obtain ⟨m, rfl⟩ : ∃ m : Nat, n = (m : Int) := ⟨n.toNat, by omega⟩
            have g2 : m * bytes ≤ 140737488355328 := by
              have : ((m * bytes : Nat) : Int) = (m : Int) * (bytes : Int) := Int.natCast_mul _ _
              omega
            have g3 : m ≤ 140737488355328 := by
              have : m * 1 ≤ m * bytes := Nat.mul_le_mul_left _ q7
              omega
            rw [Int.toNat_natCast]
            by_cases hm : m = 0
            · subst hm
              obtain ⟨C2, hS2, hD⟩ := newRow_of (cl := none) (v := .slice none 0 0) (w' := w) hM (Own.nil base C.unk.imm w el ty.cells ty.dd) (fun k hk => by cases hk) ⟨rfl, rfl, rfl, Nat.le_refl _, fun _ _ _ => rfl⟩ (fun g hg => by simp [Value.ownBlock] at hg)
              refine ⟨C2, w, hS2, _, hD, fin ?_⟩
              have hw : IntKind.i64.wrap 0 = 0 := by decide
              simp [Builtin.append_, run_underlying q1, run_underlying hu, sizeOf, typeInfo, q2, asInt, asIntOf, hw]
            · have hr := run_append_zeros (P := P) w t t2 o.type el i zv q1 hu q2 q3 m (by omega) (by rw [q4, esz]; exact ty.cells_pos) (by rw [q5]; exact g2) (by omega)
              obtain ⟨z', hz1, hz2⟩ := zerosA_spec (C := C) hz
              have : z' = zv := by have a := hz1 w; rw [q8 w] at a; cases a; rfl
              subst this
              obtain ⟨a, b, f1, f2, f3⟩ := ofAv_spec hM ty z x0 [] _ hof hz2
              rw [f3.nil_inv, List.append_nil] at f1
              rw [← f1] at f2
              have hzl : z'.cells.size = ty.cells := by rw [q6, esz]
              have hge := grownCap_ge w m 0 el
              have hle := grownCap_le_maxLen w m 0 el (by simp only [maxLen]; omega)
              have hown := own_zeros (base := base) (I := C.unk.imm) (T := el) (ty := ty) (x0 := x0) (g := w.heap.size) (n := m) hzl f2 hM.mem.base (heap_alloc_new w.drew (.cells (Builtin.zeroCells z'.cells m ++ Builtin.zeroCells z'.cells (grownCap w m 0 el - m)) el)) hge hle
                (by rw [Array.size_append, size_zeroCells, size_zeroCells, hzl, ← Nat.add_mul]; congr 1; omega)
                (by rw [Array.toList_append, List.take_append_of_le_length (by rw [Array.length_toList, size_zeroCells, hzl]; exact Nat.le_refl _), List.take_of_length_le (by rw [Array.length_toList, size_zeroCells, hzl]; exact Nat.le_refl _)])
                (fun a ha => by
                  cases hI : C.unk.imm a with
                  | none => rfl
                  | some u => have := hM.fits.lt hI; omega)
              obtain ⟨C2, hS2, hD⟩ := newRow_of (cl := none) hM hown (fun k hk => by cases hk) ⟨rfl, rfl, rfl, by simp, fun k hk _ => heap_alloc_old w.drew _ hk⟩ (fun g hg => by simp [Value.ownBlock] at hg; exact hg.symm)
              exact ⟨C2, _, hS2, _, hD, fin hr⟩
          · cases hnil
        · cases h
      · cases h
    · cases h
  · cases h
def isZ : AV → Bool
  | .lit (.int .i64 0) => true
  | _ => false
def sCut0 (P : Program) (M : SH) (ρ : Operand → Option AV) (t : TypeId) (x : AV) (lo hi mx : Option Operand) : Option (AV × SH) := match lo, hi, mx with
  | none, some h, none => match ρ h, asR M x, runQ P (underlying t) with
    | some dh, some (r, R), some (.slice el) => match isZ dh, sizeA P el with
      | true, some s => match Nat.beq s R.t.cells with
        | true => some (nextR M r R.t R.T [] none)
        | false => none
      | _, _ => none
    | _, _, _ => none
  | _, _, _ => none
theorem Own.nothing {α : Type} {I : Imm} {T e : Nat} {f : α → List DD} {l : List α} {A : Option Addr} {n c : Nat} (h : Own base I w T e f l (.slice A n c)) : Own base I w T e f [] (.slice A 0 c) := by
  obtain ⟨xs, ⟨h1, h2⟩, h3⟩ := h.row
  refine ⟨⟨[], ⟨by simp, ?_⟩, fun i j x q hx => by simp at hx⟩, fun g hg a ha => h.away g (by cases A <;> exact hg) a ha⟩
  rcases h2 with ⟨e1, _⟩ | ⟨g, cap, cur, e1, hb, hg, hn, hc, hs, ht⟩
  · cases e1; exact .inl ⟨rfl, rfl⟩
  · cases e1; exact .inr ⟨g, c, cur, rfl, hb, hg, Nat.zero_le _, hc, hs, by simp⟩
theorem d_scut0 (hM : SMem C M base w) (hf : Fine C ρ e) {t : TypeId} {x : Operand} {lo hi mx : Option Operand} (ho : o.op = .slice t x lo hi mx) {dx : AV} (hx : ρ x = some dx) (h : sCut0 P M ρ t dx lo hi mx = some (d, M')) : DoesS P C M M' base w e o (some d) := by
  have h1 := hf x _ hx
  unfold sCut0 at h
  split at h
  · rename_i hop
    split at h
    · rename_i dh r R el hh hR hu
      have r1 := runQ_spec P _ _ hu
      split at h
      · rename_i s hz hs
        split at h
        · rename_i hb
          cases h
          have es := Nat.eq_of_beq_eq_true hb
          have r2 := runQ_spec P _ _ (show runQ P (sizeOf el) = some s from hs)
          obtain ⟨q1, q2, q3, q4, q5, q6⟩ := asR_spec hM hR h1
          have eh : e hop = .int .i64 0 := by
            have := hf hop _ hh
            unfold isZ at hz
            split at hz
            · generalize hv : e hop = u at this; cases this; rfl
            · cases hz
          obtain ⟨A, cp, e1, hle, hmx⟩ := q5.form
          rw [e1] at q5 q4
          have hown := Own.nothing q5
          have hbb := XW.run_sliceBounds' (P := P) w true R.xs.length cp none (some (.int .i64 0)) 0 0 (.inl ⟨rfl, rfl⟩) (.inr ⟨_, rfl⟩) (Int.le_refl _) (Int.le_refl _) (by omega)
          have hblk : ∀ g, (Value.slice A 0 cp).ownBlock = some g → (Value.slice A R.xs.length cp).ownBlock = some g := fun g hg => by cases A <;> exact hg
          have hlt := hown.lt
          refine ⟨_, w, hM.newRow ⟨R.t, R.T, [], none, false⟩ (.slice A 0 cp) (rowDel r M.rows) (fun j Q h => (rowGet_del h).1) (Value.slice A R.xs.length cp).ownBlock ⟨fun _ => hown, (fun h => by cases h), fun n hn => by cases hn⟩ ⟨rfl, rfl, rfl, Nat.le_refl _, fun _ _ _ => rfl⟩ (fun g hg => .inl (hblk g hg)) (fun g hg => (hlt g hg).2) rfl
            (fun g hg => ⟨r, R, _, q2, q3, q4, hg, fun Q hQ => (rowGet_del hQ).2 rfl⟩), .slice A 0 cp, .sym (.rs (Cx.withRow_same _ _ _)), ?_⟩
          simp only [execOp, ho, e1, Instr.sliceAt]
          cases A <;> simp [r1, Instr.slice, hbb, r2, eh, XW.add_0]
        · cases h
      · cases h
    · cases h
  · cases h
end
end Go.EV
