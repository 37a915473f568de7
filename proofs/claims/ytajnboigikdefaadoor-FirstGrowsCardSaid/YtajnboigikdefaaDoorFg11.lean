/- Texts that the proof of a law rests on, put together: part 11. -/
import Derived.Test.YtajnboigikdefaaDoorFg10
import Derived.Laws.Externs
import Derived.Lib.MakeNoZero
import Derived.Lib.UnsafeStr
namespace Go.EV
open Go Go.RowKit
set_option linter.unusedVariables false
set_option linter.unusedSimpArgs false
section
variable {P : Program} {C : Cx} {H H' : Heap} {base : Nat} {w w' : World} {ρ : Operand → Option AV} {e : Operand → Value} {o : Oper} {d : AV}
def natK : AV → Option Nat
  | .lit (.int .i64 (.ofNat n)) => match Nat.ble n 9223372036854775807 with
    | true => some n
    | false => none
  | _ => none
theorem natK_spec {d : AV} {n : Nat} {u : Value} (h : natK d = some n) (hd : Den C d u) : u = .int .i64 (n : Int) := by
  unfold natK at h
  split at h
  · split at h
    · cases h; cases hd; rfl
    · cases h
  · cases h
theorem natK_le {d : AV} {n : Nat} (h : natK d = some n) : n ≤ 9223372036854775807 := by
  unfold natK at h
  split at h
  · split at h
    · rename_i hb
      cases h; exact Nat.le_of_ble_eq_true hb
    · cases h
  · cases h
theorem rowAt_mono {fits : TypeId → Bool} {d e c c' off n : Nat} (h : c ≤ c') (hr : rowAt P fits d e c off n = true) : rowAt P fits d e c' off n = true := by
  cases d with
  | zero => simp [rowAt] at hr
  | succ d =>
    simp only [rowAt] at hr ⊢
    split at hr
    · cases hr
    · rename_i hz
      rw [if_neg hz]
      simp only [Bool.or_eq_true, Bool.and_eq_true, decide_eq_true_eq] at hr ⊢
      rcases hr with hr | hr
      · exact .inl ⟨⟨hr.1.1, by omega⟩, hr.2⟩
      · exact .inr ⟨by omega, hr.2⟩
theorem liesAt_mono {e c c' off : Nat} (h : c ≤ c') : ∀ {d u n : Nat}, liesAt P d e c off u n = true → liesAt P d e c' off u n = true
  | 0, _, _, hr => by simp [liesAt] at hr
  | d + 1, u, n, hr => by
    simp only [liesAt, Bool.or_eq_true] at hr ⊢
    rcases hr with hr | hr
    · exact .inl (rowAt_mono h hr)
    · right
      split at hr
      · rename_i m u' hu
        exact liesAt_mono h hr
      · cases hr
theorem row_fact (hM : Mem C H base w) {b v n : Nat} {B : Blk} {loc : Loc} (hB : H.get b = some B) (hv : (v, n) ∈ B.vers) (hl : C.at_ b v = some loc) {i : Nat} (hi : loc.lo ≤ i) (hn : i < n) :
    ∃ arr lo hi, w.heap[loc.blk]? = some (.cells arr B.elem (lo, hi)) ∧ loc.off + (i - loc.lo) < arr.size := by
  obtain ⟨arr, lo, hi', h1, h2, h3⟩ := (hM.blk b B hB).2.obj v n loc hv hl
  obtain ⟨d, u, h4, h5, h6⟩ := (hM.blk b B hB).2.cell v n loc hv hl i hi hn
  refine ⟨arr, lo, hi', h1, ?_⟩
  have : w.cell? (loc.ad i) = arr[loc.off + (i - loc.lo)]? := by simp [World.cell?, Loc.ad, h1]
  rw [this] at h5
  exact (Array.getElem?_eq_some_iff.1 h5).1
noncomputable def seeA (P : Program) (H : Heap) (src dst : TypeId) (x : AV) : Option AV := match x with
  | .ptr b v off => match runQ P (underlying src), runQ P (underlying dst), rowA H b v with
    | some (.pointer t), some .unsafePointer, some (B, n) => match runQ P (sizeOf t), Nat.blt off n with
      | some (k + 1), true => some (.ptr b v off)
      | _, _ => none
    | some .unsafePointer, some (.pointer u), some (B, n) => match v, runQ P (sizeOf u), Nat.blt off n with
      | 0, some (k + 1), true => match liesAt P P.depth B.elem (n / P.cellsOf B.elem) off u 1 with
        | true => some (.ptr b v off)
        | false => none
      | _, _, _ => none
    | _, _, _ => none
  | _ => none
theorem shape_of {r : Nat} {arr : Array Value} {el : TypeId} {f : Nat × Nat} (h : w.heap[r]? = some (.cells arr el f)) : w.shape? r = some (el, arr.size) := by
  simp [World.shape?, h]
theorem d_see (hM : Mem C H base w) (hf : Fine C ρ e) {src dst : TypeId} {x : Operand} {dx : AV} (ho : o.op = .convert src dst x) (hx : ρ x = some dx) (h : seeA P H src dst dx = some d) : Does P C H H base w e o (some d) := by
  unfold seeA at h
  split at h
  · rename_i b v off
    have hv := hf x _ hx
    generalize hbx : e x = vx at hv
    cases hv with
    | @ptr _ _ _ loc hl hlo =>
      split at h
      · rename_i t B n hu1 hu2 hrow
        split at h
        · rename_i k hk hb
          cases h
          obtain ⟨hB, hvm⟩ := rowA_spec hrow
          obtain ⟨arr, lo, hi, h1, h2⟩ := row_fact hM hB hvm hl hlo (Nat.le_of_ble_eq_true hb)
          have r1 := runQ_spec P _ _ hu1
          have r2 := runQ_spec P _ _ hu2
          have r3 := runQ_spec P _ _ hk
          have hs : w.shape? (loc.ad off).block = some (B.elem, arr.size) := shape_of h1
          have hlt : ¬ arr.size ≤ (loc.ad off).off := by show ¬ arr.size ≤ loc.off + (off - loc.lo); omega
          refine ⟨C, w, Step.refl hM, _, .ptr hl hlo, ?_⟩
          simp [execOp, ho, convert, r1, r2, hbx, Conv.unsafePointer, Conv.seenAt, viewAt, cellsIn, hs, hlt, r3]
        · cases h
      · rename_i u B n hu1 hu2 hrow
        split at h
        · rename_i k hk hb
          split at h
          · rename_i hli
            cases h
            obtain ⟨hB, hvm⟩ := rowA_spec hrow
            have hbl : off < n := Nat.le_of_ble_eq_true hb
            obtain ⟨h00, h01⟩ := (hM.blk b B hB).2.at0 loc hl
            obtain ⟨arr, lo, hi, h1, h2⟩ := row_fact hM hB hvm hl (i := n - 1) (by omega) (by omega)
            have r1 := runQ_spec P _ _ hu1
            have r2 := runQ_spec P _ _ hu2
            have r3 := runQ_spec P _ _ hk
            have hs : w.shape? (loc.ad off).block = some (B.elem, arr.size) := shape_of h1
            have hoff : (loc.ad off).off = off := by show loc.off + (off - loc.lo) = off; omega
            have hli2 : liesAt P P.depth B.elem (arr.size / P.cellsOf B.elem) off u 1 = true := liesAt_mono (Nat.div_le_div_right (by omega)) hli
            refine ⟨C, w, Step.refl hM, _, .ptr hl hlo, ?_⟩
            simp [execOp, ho, convert, r1, r2, hbx, Conv.unsafePointer, Conv.seenAt, viewAt, variablesAt, hs, hoff, hli2, r3]
          · cases h
        · cases h
      · cases h
  · cases h
theorem noEscape_find {fn : Func} (hn : fn.name = "internal/abi.NoEscape") (ho : fn.origin = "") : Extern.findNext fn = none ∧ Extern.find fn = some Extern.AbiNoEscape.same := by
  have e1 : (Extern.allNextRows.lookup "internal/abi.NoEscape").isNone = true := by kernel_rfl
  have e2 : (Extern.allNextRows.lookup "").isNone = true := by kernel_rfl
  have e3 : (Extern.allGenericRows.lookup "internal/abi.NoEscape").isNone = true := by kernel_rfl
  have e4 : (Extern.allTypedRows.lookup "internal/abi.NoEscape").isNone = true := by kernel_rfl
  have e5 : Extern.allRows.lookup "internal/abi.NoEscape" = some Extern.AbiNoEscape.same := by kernel_rfl
  simp only [Option.isNone_iff_eq_none] at e1 e2 e3 e4
  constructor
  · simp [Extern.findNext, hn, ho, e1, e2]
  · simp [Extern.find, hn, ho, e3, e4, e5]
theorem makeNoZero_find {fn : Func} (hn : fn.name = "internal/bytealg.MakeNoZero") (ho : fn.origin = "") : Extern.findNext fn = none ∧ Extern.find fn = some (Extern.BytealgMakeNoZero.makeNoZero fn.params fn.resultTypes) := by
  have e1 : (Extern.allNextRows.lookup "internal/bytealg.MakeNoZero").isNone = true := by kernel_rfl
  have e2 : (Extern.allNextRows.lookup "").isNone = true := by kernel_rfl
  have e3 : (Extern.allGenericRows.lookup "internal/bytealg.MakeNoZero").isNone = true := by kernel_rfl
  have e4 : Extern.allTypedRows.lookup "internal/bytealg.MakeNoZero" = some Extern.BytealgMakeNoZero.makeNoZero := by kernel_rfl
  simp only [Option.isNone_iff_eq_none] at e1 e2 e3
  constructor
  · simp [Extern.findNext, hn, ho, e1, e2]
  · simp [Extern.find, hn, ho, e3, e4]
def bareA (P : Program) (ρ : Operand → Option AV) (c : Call) : Option (FuncId × Func × List AV) := match c.callee with
  | .value f => match ρ f, opds ρ c.args.toList with
    | some (.clo (.func fid) [] []), some args => match P.funcs[fid]? with
      | some fn => match fn.body with
        | none => match fn.origin == "" with
          | true => some (fid, fn, args)
          | false => none
        | some _ => none
      | none => none
    | _, _ => none
  | _ => none
theorem bare_spec (hf : Fine C ρ e) {c : Call} {fid : FuncId} {fn : Func} {l : List AV} (ho : o.op = .call c) (h : bareA P ρ c = some (fid, fn, l)) : ∃ vs, Dens C l vs ∧ P.funcs[fid]? = some fn ∧ fn.body.isNone = true ∧ fn.origin = "" ∧
    (execOp e o).run P w = (callFunc fid vs.toArray).run P w := by
  obtain ⟨callee, args, argTypes⟩ := c
  unfold bareA at h
  split at h
  · rename_i fo hc
    simp only at hc
    subst hc
    split at h
    · rename_i fid' args' hfo hargs
      split at h
      · rename_i fn' hfn
        split at h
        · rename_i hbd
          split at h
          · rename_i hor
            cases h
            have hA := opds_spec hf _ _ hargs
            have hv := hf fo _ hfo
            generalize hb : e fo = vf at hv
            cases hv with
            | @clo _ _ _ vs us hl hm h1 h2 =>
              have e1 : vs = [] := List.eq_nil_of_length_eq_zero (by simpa using hl)
              have e2 : us = [] := List.eq_nil_of_length_eq_zero (by simpa using hm)
              subst e1; subst e2
              refine ⟨args.toList.map e, hA, hfn, by rw [hbd]; rfl, by simpa using hor, ?_⟩
              have e3 : args.map e = (args.toList.map e).toArray := by apply Array.ext'; simp
              simp [execOp, ho, resolve, hb, Deferred.ofValue, invoke, e3]
          · cases h
        · cases h
      · cases h
    · cases h
  · cases h
noncomputable def externA (P : Program) (ρ : Operand → Option AV) (H : Heap) (c : Call) : Option (AV × Heap) := match bareA P ρ c with
  | some (fid, fn, [x]) => match fn.name == "internal/abi.NoEscape" with
    | true => some (x, H)
    | false => match fn.name == "internal/bytealg.MakeNoZero", fn.resultTypes.toList, natK x, roomA H with
      | true, [t], some n, true => match P.underlying t with
        | some (.slice el) => match Nat.ble n 281474976710656, runQ P (sizeOf el) with
          | true, some 1 => some (.sl H.nb 0 0 n none 1, H.push (newBlk [] el))
          | _, _ => none
        | _ => none
      | _, _, _, _ => none
  | _ => none
theorem d_extern (hM : Mem C H base w) (hf : Fine C ρ e) {c : Call} (ho : o.op = .call c) (h : externA P ρ H c = some (d, H')) : Does P C H H' base w e o (some d) := by
  unfold externA at h
  split at h
  · rename_i fid fn x hb
    obtain ⟨vs, hD, h1, h2, h3, h4⟩ := bare_spec (w := w) hf ho hb
    obtain ⟨u, us, rfl, hu, hn⟩ := hD.cons_inv
    obtain rfl := hn.nil_inv
    split at h
    · rename_i hnm
      cases h
      have hnm' : fn.name = "internal/abi.NoEscape" := by simpa using hnm
      obtain ⟨g1, g2⟩ := noEscape_find hnm' h3
      refine ⟨C, w, Step.refl hM, u, hu, ?_⟩
      rw [h4, run_callFunc_extern h1 (by rw [hnm']; rfl) h2 g1 g2]
      rfl
    · split at h
      · rename_i t n hnm hres hnat hroom
        split at h
        · rename_i el ht
          split at h
          · rename_i hle hsz
            cases h
            have hnm' : fn.name = "internal/bytealg.MakeNoZero" := by simpa using hnm
            obtain ⟨g1, g2⟩ := makeNoZero_find hnm' h3
            have hun := natK_spec hnat hu
            subst hun
            have hn48 := Nat.le_of_ble_eq_true hle
            have hres' : fn.resultTypes = #[t] := by apply Array.ext'; simpa using hres
            obtain ⟨cs, k1, k2, k3⟩ := Lib.run_makeNoZero (P := P) w fn.params t el ht n hn48
            obtain ⟨C', hS, hat⟩ := hM.alloc (w' := w.drew.drew.alloc (.cells cs el)) (room_spec hroom) cs [] el (.nil C) (Nat.zero_le _) rfl rfl rfl rfl
            refine ⟨C', _, hS, _, .sl (loc := ⟨w.heap.size, 0, 0, cs.size, 0⟩) (c := cs.size) hat (Nat.zero_le _) k2 (k3 (by simp only [maxLen]; omega)) (fun k hk => by cases hk) (by simp), ?_⟩
            rw [h4, run_callFunc_extern h1 (by rw [hnm']; rfl) h2 g1 g2, hres']
            show Result.andThen ((Extern.BytealgMakeNoZero.makeNoZero fn.params #[t] #[.int .i64 (n : Int)]).run P w) _ = _
            rw [k1]
            rfl
          · cases h
        · cases h
      · cases h
  · cases h
noncomputable def dataA : AV → Option AV
  | .lit (.slice none _ _) => some (.lit (.pointer none))
  | .sl b v off (_ + 1) _ _ => some (.ptr b v off)
  | .sl b v off 0 (some (_ + 1)) _ => some (.ptr b v off)
  | _ => none
theorem data_spec (hM : Mem C H base w) {x : AV} {u : Value} {ts : Array TypeId} {ty : TypeId} (h : dataA x = some d) (hx : Den C x u) : ∃ v, Den C d v ∧ (Builtin.unsafeSliceData_ ts ty #[u]).run P w = .ok v w := by
  unfold dataA at h
  split at h
  · cases h; cases hx
    exact ⟨_, .lit _, rfl⟩
  · cases h
    cases hx with
    | sl q1 q2 q3 q4 q5 q6 => exact ⟨_, .ptr q1 q2, Lib.run_unsafeSliceData_row w ts ty _ _ _ (by omega)⟩
  · cases h
    cases hx with
    | sl q1 q2 q3 q4 q5 q6 =>
      have := q5 _ rfl
      exact ⟨_, .ptr q1 q2, Lib.run_unsafeSliceData_row w ts ty _ _ _ (by omega)⟩
  · cases h
theorem run_bytesZ : ∀ (ns : List Int) (a : Addr) (acc : ByteArray), (∀ j x, ns[j]? = some x → w.cell? (a.add j) = some (.int .u8 x)) → (loadBytes a acc ns.length).run P w = .ok (ns.foldl (fun r n => r.push (UInt8.ofNat n.toNat)) acc) w
  | [], a, acc, _ => by simp [loadBytes]
  | x :: l, a, acc, h => by
    have h0 : w.cell? a = some (.int .u8 x) := by
      have := h 0 x rfl
      simpa [Addr.add] using this
    have ih := run_bytesZ l (a.add 1) (acc.push (UInt8.ofNat x.toNat)) (fun j y hy => by
      have := h (j + 1) y (by simpa using hy)
      have e : (a.add 1).add j = a.add (j + 1) := by
        unfold Addr.add
        by_cases hj : j = 0
        · subst hj; simp
        · simp [hj]; omega
      rw [e]; exact this)
    simp only [List.length_cons, loadBytes, Sem.run_bind, run_load, h0, Result.andThen]
    exact ih
def Blk.frozen (B : Blk) (k : Nat) : Blk := { B with fz := Nat.max B.fz k, stamp := B.stamp + 1 }
theorem freeze_heap {a : Addr} {m : Nat} (hm : m ≠ 0) {arr : Array Value} {el lo hi : Nat} (h : w.heap[a.block]? = some (.cells arr el (lo, hi))) :
    ∃ lo' hi', (w.freeze a m).heap[a.block]? = some (.cells arr el (lo', hi')) ∧ hi' ≤ Nat.max hi (a.off + m) ∧ ∀ k, k ≠ a.block → (w.freeze a m).heap[k]? = w.heap[k]? := by
  have hlt := (Array.getElem?_eq_some_iff.1 h).1
  have hget := (Array.getElem?_eq_some_iff.1 h).2
  have hother : ∀ k, k ≠ a.block → (w.freeze a m).heap[k]? = w.heap[k]? := fun k hk => by
    simp only [World.freeze, if_neg hm]
    rw [Array.getElem?_modify, if_neg (fun e => hk e.symm)]
  by_cases he : lo = hi
  · refine ⟨a.off, a.off + m, ?_, Nat.le_max_right _ _, hother⟩
    simp only [World.freeze, if_neg hm]
    rw [Array.getElem?_modify, if_pos rfl, h]
    simp [he]
  · refine ⟨min lo a.off, max hi (a.off + m), ?_, Nat.le_refl _, hother⟩
    simp only [World.freeze, if_neg hm]
    rw [Array.getElem?_modify, if_pos rfl, h]
    simp [he]
theorem Mem.freeze (h : Mem C H base w) (hok : H.nb < 2 ^ 40 - 1) {b v n off m : Nat} {B : Blk} {loc : Loc} (hB : H.get b = some B) (hv : (v, n) ∈ B.vers) (hl : C.at_ b v = some loc) (hro : B.ro = false) (hob : B.obj = none) (hlo : loc.lo ≤ off) (hm : m ≠ 0) (hn : off + m ≤ n) :
    Step C C H (H.set b (B.frozen (off + m))) base w (w.freeze (loc.ad off) m) := by
  obtain ⟨hbn, L⟩ := h.blk b B hB
  obtain ⟨arr, lo, hi, h1, h2, h3⟩ := L.obj v n loc hv hl
  obtain ⟨lo', hi', g1, g2, g3⟩ := freeze_heap (w := w) (a := loc.ad off) hm h1
  have g2' : hi' ≤ Nat.max hi (loc.off + (off - loc.lo) + m) := g2
  have hsz : (w.freeze (loc.ad off) m).heap.size = w.heap.size := by simp [World.freeze, hm]
  have hos : (w.freeze (loc.ad off) m).os = w.os ∧ (w.freeze (loc.ad off) m).tape = w.tape ∧ (w.freeze (loc.ad off) m).output = w.output := by simp [World.freeze, hm]
  generalize w.freeze (loc.ad off) m = w' at *
  have hown := L.own hro v loc hl
  have hcell : ∀ a : Addr, w'.cell? a = w.cell? a := fun a => by
    by_cases ha : a.block = loc.blk
    · have e1 : w.heap[a.block]? = some (.cells arr B.elem (lo, hi)) := by rw [ha]; exact h1
      have e2 : w'.heap[a.block]? = some (.cells arr B.elem (lo', hi')) := by rw [ha]; exact g1
      simp [World.cell?, e1, e2]
    · exact cell_of_heap (g3 a.block ha)
  refine ⟨.refl C, ?_, ⟨hos.1, hos.2.1, hos.2.2, by omega, fun k hk => g3 k (by show k ≠ loc.blk; omega)⟩, fun b' B' hB' => ?_, fun k hk hn => ⟨g3 k (fun e => hn b v loc hl e.symm), hn⟩⟩
  · refine h.upd (.refl C) (b := b) (fun _ _ _ => rfl) (Heap.get_set_same H b _ (by omega)) (fun b' hb => Heap.get_set_ne H b b' _ hb) (Nat.le_refl _) hbn ?_ (fun k hk hne => g3 k (fun e => hne v loc hl e.symm)) (by omega) (fun v l hl => .inl ⟨v, l, hl, rfl⟩)
    refine ⟨L.dom, fun v' l hl' => ?_, fun v' n' l hv' hl' => ?_, fun v' n' l hv' hl' i i1 i2 => ?_, L.fam, L.own, fun a ha => (by rw [show (B.frozen (off + m)).obj = B.obj from rfl, hob] at ha; cases ha), L.at0⟩
    · have := L.ver v' l hl'
      exact ⟨this.1, by omega⟩
    · obtain ⟨arr', lo2, hi2, k1, k2, k3⟩ := L.obj v' n' l hv' hl'
      show ∃ arr lo hi, w'.heap[l.blk]? = some (.cells arr B.elem (lo, hi)) ∧ arr.size = l.sz ∧ hi ≤ l.off + (Nat.max B.fz (off + m) - l.lo)
      have hmx1 : B.fz ≤ Nat.max B.fz (off + m) := Nat.le_max_left _ _
      have hmx2 : off + m ≤ Nat.max B.fz (off + m) := Nat.le_max_right _ _
      by_cases eb : l.blk = loc.blk
      · have hfam := L.fam v n v' n' loc l hv hv' hl hl' eb.symm
        rw [eb] at k1 ⊢
        have e0 : w.heap[loc.blk]? = some (.cells arr B.elem (lo, hi)) := h1
        rw [e0] at k1
        cases k1
        refine ⟨arr, lo', hi', g1, k2, ?_⟩
        generalize Nat.max B.fz (off + m) = mx at *
        have hmx3 : Nat.max hi (loc.off + (off - loc.lo) + m) ≤ l.off + (mx - l.lo) := Nat.max_le.2 ⟨by omega, by omega⟩
        omega
      · refine ⟨arr', lo2, hi2, by rw [g3 l.blk eb]; exact k1, k2, ?_⟩
        generalize Nat.max B.fz (off + m) = mx at *
        omega
    · obtain ⟨d, u, k1, k2, k3⟩ := L.cell v' n' l hv' hl' i i1 i2
      exact ⟨d, u, k1, by rw [hcell]; exact k2, k3⟩
  · by_cases eb : b' = b
    · subst eb
      rw [hB] at hB'; cases hB'
      exact ⟨_, Heap.get_set_same H b' _ (by omega), Nat.le_succ _, fun e => absurd e (by show B.stamp + 1 ≠ B.stamp; omega)⟩
    · refine ⟨B', by rw [Heap.get_set_ne H b b' _ eb]; exact hB', Nat.le_refl _, fun _ v' l hl' => g3 _ (fun e => h.sep b' v' l b v loc hl' hl eb e)⟩
noncomputable def shareA (P : Program) (H : Heap) (el : TypeId) (p x : AV) : Option (AV × Heap) := match p, natK x with
  | .ptr b v off, some (m + 1) => match rowA H b v, roomA H with
    | some (B, n), true => match Nat.beq B.elem el, Nat.beq (P.cellsOf el) 1, Nat.ble (off + (m + 1)) n, B.ro, B.obj with
      | true, true, true, false, none => match bytesA ((B.cells.drop off).take (m + 1)) with
        | some ns => some (.lit (.string (pushAll ns)), H.set b (B.frozen (off + (m + 1))))
        | none => none
      | _, _, _, _, _ => none
    | _, _ => none
  | .lit (.pointer none), some 0 => some (.lit (.string .empty), H)
  | .ptr _ _ _, some 0 => some (.lit (.string .empty), H)
  | _, _ => none
theorem liesAt_bytesAt {el : TypeId} (hc : P.cellsOf el = 1) (count off n : Nat) (hn : off + n ≤ count) : liesAt P P.depth el count off el n = true := by
  have hd : P.depth = (2 * (P.types.size + Made.depth) + 1) + 1 := rfl
  rw [hd]
  simp only [liesAt, Bool.or_eq_true]
  left
  rw [hd]
  simp [rowAt, hc, hn, sameLayout, Nat.mod_one]
theorem share_spec (hM : Mem C H base w) {el pt ty : TypeId} {ts : Array TypeId} {p x : AV} {u1 u2 : Value} (h : shareA P H el p x = some (d, H')) (hp : Den C p u1) (hx : Den C x u2) (ht : ts[0]? = some pt) (he : ∀ w, (elemOf pt).run P w = .ok el w) :
    ∃ v w', Step C C H H' base w w' ∧ Den C d v ∧ (Builtin.unsafeString_ ts ty #[u1, u2]).run P w = .ok v w' := by
  unfold shareA at h
  split at h
  · rename_i b v off m hm
    split at h
    · rename_i B n hrow hroom
      split at h
      · rename_i c1 c2 c3 c4 c5
        split at h
        · rename_i ns hns
          cases h
          obtain ⟨hB, hvm⟩ := rowA_spec hrow
          have hu2 := natK_spec hm hx
          subst hu2
          have e1 := Nat.eq_of_beq_eq_true c1
          have e2 := Nat.eq_of_beq_eq_true c2
          have e3 := Nat.le_of_ble_eq_true c3
          subst e1
          cases hp with
          | @ptr _ _ _ loc hl hlo =>
            obtain ⟨arr, lo, hi, h1, h2⟩ := row_fact hM hB hvm hl (i := off + m) (by omega) (by omega)
            obtain ⟨us, q1, q2, q3, _⟩ := hM.read hB hvm hl (k := m + 1) hlo e3
            have hus := bytesA_spec hns q1
            have hlen : ns.length = m + 1 := by have := q2; rw [hus, List.length_map] at this; exact this
            have hcells : ∀ j y, ns[j]? = some y → w.cell? ((loc.ad off).add j) = some (.int .u8 y) := fun j y hy => q3 j _ (by rw [hus, List.getElem?_map, hy]; rfl)
            have hrun := run_bytesZ (P := P) (w := w) ns (loc.ad off) .empty hcells
            rw [hlen] at hrun
            have hS := hM.freeze (room_spec hroom) hB hvm hl c4 c5 hlo (Nat.succ_ne_zero m) e3
            have hs : w.shape? (loc.ad off).block = some (B.elem, arr.size) := shape_of h1
            have hli : liesAt P P.depth B.elem (arr.size / P.cellsOf B.elem) (loc.ad off).off B.elem (m + 1) = true := by
              rw [e2, Nat.div_one]
              exact liesAt_bytesAt e2 _ _ _ (by show loc.off + (off - loc.lo) + (m + 1) ≤ arr.size; omega)
            refine ⟨_, _, hS, .lit _, ?_⟩
            have hb : ¬ ((9223372036854775807 : Int) < ((m + 1 : Nat) : Int)) := by
              have := natK_le hm
              omega
            have hz : ¬ (((m + 1 : Nat) : Int) < 0) := by omega
            have hz2 : ¬ (((m + 1 : Nat) : Int) = 0) := by omega
            have htn : (((m + 1 : Nat) : Int)).toNat = m + 1 := rfl
            have hw : IntKind.max .i64 = 9223372036854775807 := rfl
            change Sem.run P (asInt (.int .i64 ((m + 1 : Nat) : Int)) >>= _) w = _
            simp only [asInt, asIntOf, Sem.run_bind, Sem.run_pure, Result.andThen_ok, ht, if_neg hz, hw, if_neg hb, if_neg hz2, he, variablesAt, run_program, run_shape, hs, htn, hli, if_true, hrun, run_freeze]
            rfl
        · cases h
      · cases h
    · cases h
  · rename_i hm
    cases h
    have hu2 := natK_spec hm hx
    subst hu2
    cases hp
    refine ⟨_, w, Step.refl hM, .lit _, ?_⟩
    change Sem.run P (asInt (.int .i64 ((0 : Nat) : Int)) >>= _) w = _
    simp [asInt, asIntOf, ht]
    try rfl
  · rename_i hm
    cases h
    have hu2 := natK_spec hm hx
    subst hu2
    cases hp with
    | ptr hl hlo =>
      refine ⟨_, w, Step.refl hM, .lit _, ?_⟩
      change Sem.run P (asInt (.int .i64 ((0 : Nat) : Int)) >>= _) w = _
      simp [asInt, asIntOf, ht]
      try rfl
  · cases h
theorem run_copy {t t2 ty elem : TypeId} {size : Nat} (w : World) (h1 : ∀ w, (underlying t).run P w = .ok (.slice elem) w) (h2 : ∀ w, (sizeOf elem).run P w = .ok size w) (bs : Option Addr) (dl c ls m : Nat) (x : Value) (us : List Value) (hl : (Builtin.lenOf x).run P w = .ok ls w) (hm : Nat.min ls dl = m)
    (hus : (Builtin.firstCells size m x).run P w = .ok us.toArray w) {w' : World} (hst : match bs with | some a => (storeCells a us).run P w = .ok () w' | none => w' = w) : (Builtin.copy_ #[t, t2] ty #[.slice bs dl c, x]).run P w = .ok (.int .i64 (m : Int)) w' := by
  have hm' : min ls dl = m := hm
  cases bs with
  | none =>
    simp only at hst
    subst hst
    simp [Builtin.copy_, h1, h2, hl, hm', hus, goInt]
  | some a =>
    simp only at hst
    simp [Builtin.copy_, h1, h2, hl, hm', hus, hst, goInt]
noncomputable def copyTo (H : Heap) (m : Nat) (cs : List AV) : AV → Option Heap
  | .lit (.slice none _ _) => some H
  | .empty => match m with
    | 0 => some H
    | _ => none
  | .sl b v off _ _ _ => match m with
    | 0 => some H
    | _ => writeA H b v off cs
  | _ => none
noncomputable def copyA (P : Program) (ρ : Operand → Option AV) (H : Heap) (c : Call) : Option (AV × Heap) := match c.callee, c.args.toList, c.argTypes.toList with
  | .builtin .copy, [s, x], [t, t2] => match runQ P (underlying t), ρ s, ρ x with
    | some (.slice elem), some ds, some dx => match runQ P (sizeOf elem), lenS ds, lenS dx with
      | some size, some dl, some ls => match srcA H size (Nat.min ls dl) dx with
        | some cs => match Nat.beq cs.length (Nat.min ls dl * size), copyTo H (Nat.min ls dl) cs ds with
          | true, some H' => some (.lit (.int .i64 (Int.ofNat (Nat.min ls dl))), H')
          | _, _ => none
        | none => none
      | _, _, _ => none
    | _, _, _ => none
  | _, _, _ => none
theorem d_copy (hM : Mem C H base w) (hf : Fine C ρ e) {c : Call} (ho : o.op = .call c) (h : copyA P ρ H c = some (d, H')) : Does P C H H' base w e o (some d) := by
  unfold copyA at h
  split at h
  · rename_i s x t t2 hc ha ht
    obtain ⟨callee, args, argTypes⟩ := c
    have ha2 := list_arr ha
    have ht2 := list_arr ht
    clear ha ht
    simp only at hc ha2 ht2
    subst hc; subst ha2; subst ht2
    split at h
    · rename_i elem ds dx hu hs hx
      split at h
      · rename_i size dl ls hsz hls hlx
        split at h
        · rename_i cs hcs
          split at h
          · rename_i H2 hbl hto
            cases h
            have r1 := runQ_spec P _ _ hu
            have r2 := runQ_spec P _ _ hsz
            have hvs := hf s _ hs
            have hvx := hf x _ hx
            obtain ⟨us, hD, hus⟩ := src_spec (P := P) hM hcs hvx
            have hlm := lenS_spec (P := P) hlx hvx w
            have hexec : ∀ u w', (Builtin.copy_ #[t, t2] o.type #[e s, e x]).run P w = .ok u w' → (execOp e o).run P w = .ok (.value u) w' := fun u w' hr => by
              simp [execOp, ho, resolve, invoke, builtin, hr]
            generalize hmm : Nat.min ls dl = m at *
            have hnil : m = 0 → us = [] := fun h0 => by
              have hb := Nat.eq_of_beq_eq_true hbl
              rw [h0, Nat.zero_mul] at hb
              have hcn : cs = [] := List.eq_nil_of_length_eq_zero hb
              subst hcn
              exact hD.nil_inv
            unfold copyTo at hto
            split at hto
            · cases hto
              generalize hes : e s = vs at *
              cases hvs
              refine ⟨C, w, Step.refl hM, _, .lit _, hexec _ _ ?_⟩
              simp only [lenS, Option.some.injEq] at hls
              subst hls
              exact run_copy w r1 r2 none _ _ ls m (e x) us hlm hmm (hus w (fun _ _ => rfl)) rfl
            · split at hto
              · cases hto
                generalize hes : e s = vs at *
                cases hvs with
                | empty a c =>
                  refine ⟨C, w, Step.refl hM, _, .lit _, hexec _ _ ?_⟩
                  simp only [lenS, Option.some.injEq] at hls
                  subst hls
                  refine run_copy w r1 r2 (some a) 0 c ls 0 (e x) us hlm hmm (hus w (fun _ _ => rfl)) ?_
                  rw [hnil rfl]
                  rfl
              · cases hto
            · rename_i b v off len cap es
              generalize hes : e s = vs at *
              simp only [lenS, Option.some.injEq] at hls
              subst hls
              cases hvs with
              | @sl _ _ _ _ _ _ loc c q1 q2 q3 q4 q5 q6 =>
                split at hto
                · cases hto
                  refine ⟨C, w, Step.refl hM, _, .lit _, hexec _ _ ?_⟩
                  refine run_copy w r1 r2 (some (loc.ad off)) len c ls 0 (e x) us hlm hmm (hus w (fun _ _ => rfl)) ?_
                  rw [hnil rfl]
                  rfl
                · obtain ⟨w', hr, hS⟩ := write_spec (P := P) hM hto q1 q2 hD
                  refine ⟨C, w', hS, _, .lit _, hexec _ _ ?_⟩
                  exact run_copy w r1 r2 (some (loc.ad off)) len c ls m (e x) us hlm hmm (hus w (fun _ _ => rfl)) hr
            · cases hto
          · cases h
        · cases h
      · cases h
    · cases h
  · cases h
theorem run_appMake {t t2 ty elem : TypeId} {k : IntKind} {i : TypeInfo} {z : Value} (w : World) (h1 : ∀ w, (underlying t).run P w = .ok (.slice elem) w) (h2 : ∀ w, (underlying t2).run P w = .ok (.int k) w) (h3 : ∀ w, (typeInfo elem).run P w = .ok i w) (hz : i.zero = some z) (hzs : z.cells.size = i.size)
    (m : Nat) (hm : m ≠ 0) (hs : i.size ≠ 0) (h63 : m ≤ 9223372036854775807) (hlim : m * i.bytes ≤ 140737488355328) :
    (Builtin.append_ #[t, t2] ty #[.slice none 0 0, .int .i64 (m : Int)]).run P w = .ok (.slice (some ⟨w.heap.size, 0, none⟩) m (grownCap w m 0 elem))
      (w.drew.alloc (.cells (Builtin.zeroCells z.cells m ++ Builtin.zeroCells z.cells (grownCap w m 0 elem - m)) elem)) := by
  have hsz : ∀ w, (sizeOf elem).run P w = .ok i.size w := fun w => by simp [sizeOf, h3]
  have hzv : ∀ w, (zeroValue elem).run P w = .ok z w := fun w => by simp [zeroValue, h3, hz]
  have hwr : IntKind.i64.wrap (m : Int) = (m : Int) := by rw [IntKind.wrap_i64]; omega
  have h0 : ¬ ((m : Int) < 0) := by omega
  have h63' : ¬ ((9223372036854775807 : Int) < (m : Int)) := by omega
  have hfit := growslice_fits (need := m) (old := 0) (bytes := i.bytes) (by omega) hlim
  have h48' : ¬ (281474976710656 < Builtin.nextslicecap m 0 * i.bytes) := by omega
  have h48 : ¬ ((281474976710656 : Int) < (m : Int) * (i.bytes : Int)) := by
    have h5 : ((m * i.bytes : Nat) : Int) ≤ ((140737488355328 : Nat) : Int) := Int.ofNat_le.2 hlim
    rw [Int.natCast_mul] at h5
    generalize (m : Int) * (i.bytes : Int) = q at h5 ⊢
    omega
  have hms : ¬ (m * i.size = 0) := fun h => by rcases Nat.mul_eq_zero.1 h with h | h; exact hm h; exact hs h
  have hle : ¬ m ≤ 0 := by omega
  simp [Builtin.append_, h1, h2, h3, hsz, hzv, asInt, asIntOf, hwr, h0, h63', h48', h48, hms, hm, hs, Question.forced, newRow, grownCap, Builtin.firstCells]
noncomputable def appMakeA (P : Program) (ρ : Operand → Option AV) (H : Heap) (c : Call) : Option (AV × Heap) := match c.callee, c.args.toList, c.argTypes.toList with
  | .builtin .append, [s, x], [t, t2] => match runQ P (underlying t), runQ P (underlying t2), ρ s, (ρ x).bind natK, roomA H with
    | some (.slice elem), some (.int _), some (.lit (.slice none 0 0)), some (m + 1), true => match runQ P (typeInfo elem), zerosA P elem with
      | some i, some z => match i.size, Nat.beq z.length i.size, Nat.ble ((m + 1) * i.bytes) 140737488355328 with
        | k + 1, true, true => some (.sl H.nb 0 0 (m + 1) none (k + 1), H.push (newBlk (repA z (m + 1)) elem))
        | _, _, _ => none
      | _, _ => none
    | _, _, _, _, _ => none
  | _, _, _ => none
theorem d_appMake (hM : Mem C H base w) (hf : Fine C ρ e) {c : Call} (ho : o.op = .call c) (h : appMakeA P ρ H c = some (d, H')) : Does P C H H' base w e o (some d) := by
  unfold appMakeA at h
  split at h
  · rename_i s x t t2 hc ha ht
    obtain ⟨callee, args, argTypes⟩ := c
    have ha2 := list_arr ha
    have ht2 := list_arr ht
    clear ha ht
    simp only at hc ha2 ht2
    subst hc; subst ha2; subst ht2
    split at h
    · rename_i elem kk m hu hu2 hs hx hroom
      split at h
      · rename_i i z hi hz
        split at h
        · rename_i k hk hb1 hb2
          cases h
          have r1 := runQ_spec P _ _ hu
          have r2 := runQ_spec P _ _ hu2
          have r3 := runQ_spec P _ _ hi
          obtain ⟨zv, hzr, hzd⟩ := zerosA_spec (C := C) hz
          have hzs : zv.cells.size = i.size := by rw [← Nat.eq_of_beq_eq_true hb1, ← hzd.1]; simp
          have hiz : i.zero = some zv := by
            have r4 := hzr w
            simp only [zeroValue, Sem.run_bind, r3, Result.andThen_ok] at r4
            cases hiz : i.zero with
            | none => rw [hiz] at r4; simp [unsupported, Sem.run] at r4
            | some z' => rw [hiz] at r4; simp at r4; rw [r4]
          obtain ⟨dx, hdx, hnx⟩ := Option.bind_eq_some_iff.1 hx
          have hes : e s = .slice none 0 0 := by
            have := hf s _ hs
            generalize e s = q at this
            cases this; rfl
          have hex : e x = .int .i64 ((m + 1 : Nat) : Int) := natK_spec hnx (hf x _ hdx)
          have hb2' := Nat.le_of_ble_eq_true hb2
          have hle := natK_le hnx
          have hrun := run_appMake (ty := o.type) w r1 r2 r3 hiz hzs (m + 1) (by omega) (by omega) hle hb2'
          have hge := grownCap_ge w (m + 1) 0 elem
          have hcm : grownCap w (m + 1) 0 elem ≤ maxLen := grownCap_le_maxLen w (m + 1) 0 elem (by simp only [maxLen]; omega)
          generalize hcap : grownCap w (m + 1) 0 elem = c' at *
          have hrep := rep_spec hzd (m + 1)
          rw [hzs] at hrep
          have hzc : Builtin.zeroCells zv.cells (m + 1) = (Array.range ((m + 1) * i.size)).map (zv.cells[· % zv.cells.size]!) := by simp [Builtin.zeroCells, hzs]
          have hrl : (repA z (m + 1)).length = (m + 1) * i.size := by rw [← hrep.1]; simp
          have hsz2 : (Builtin.zeroCells zv.cells (m + 1) ++ Builtin.zeroCells zv.cells (c' - (m + 1))).size = c' * i.size := by
            have e1 : c' * i.size = (m + 1) * i.size + (c' - (m + 1)) * i.size := by rw [← Nat.add_mul]; congr 1; omega
            simp only [Array.size_append, size_zeroCells, hzs, e1]
          obtain ⟨C', hS, hat⟩ := hM.alloc (w' := w.drew.alloc (.cells (Builtin.zeroCells zv.cells (m + 1) ++ Builtin.zeroCells zv.cells (c' - (m + 1))) elem)) (room_spec hroom) _ (repA z (m + 1)) elem
            (by
              have e2 : (Builtin.zeroCells zv.cells (m + 1) ++ Builtin.zeroCells zv.cells (c' - (m + 1))).toList.take (repA z (m + 1)).length = (Builtin.zeroCells zv.cells (m + 1)).toList := by
                rw [hrl, Array.toList_append]
                have e3 : (Builtin.zeroCells zv.cells (m + 1)).toList.length = (m + 1) * i.size := by rw [Array.length_toList, size_zeroCells, hzs]
                rw [← e3]; exact List.take_left
              rw [e2, hzc, hzs]
              exact hrep)
            (by rw [hsz2, hrl]; exact Nat.mul_le_mul_right _ hge) rfl rfl rfl rfl
          refine ⟨C', _, hS, _, .sl (loc := _) (c := c') hat (Nat.zero_le _) hge (by simpa [maxLen] using hcm) (fun k hk => by cases hk) ?_, ?_⟩
          · rw [hsz2, hk]
            show 0 + (0 - 0) + c' * (k + 1) ≤ c' * (k + 1)
            simp
          · simp [execOp, ho, resolve, invoke, builtin, hes, hex]
            have := hrun
            simp at this
            rw [this]
            rfl
        · cases h
      · cases h
    · cases h
  · cases h
end
end Go.EV
