/- Texts that the proof of a law rests on, put together: part 13. -/
import Derived.Test.YtajnboigikdefaaDoorFg12
namespace Go.EV
open Go Go.RowKit
set_option linter.unusedVariables false
set_option linter.unusedSimpArgs false
section
variable {P : Program} {C : Cx} {H H' : Heap} {base : Nat} {w w' : World} {ρ : Operand → Option AV} {e : Operand → Value} {o : Oper} {d : AV}
def plainF (P : Program) (f : Field) (i : Nat) : Bool := match runQ P (underlying f.type), runQ P (isAgg f.type) with
  | some (.int .i64), some false => Nat.beq f.offset i && !(f.name == "_")
  | _, _ => false
def key3T (P : Program) (t : TypeId) : Bool := match runQ P (underlying t) with
  | some (.struct fs) => match fs.toList with
    | [f, g, h] => plainF P f 0 && (plainF P g 1 && (plainF P h 2 && !(P.stoodInHeld t)))
    | _ => false
  | _ => false
def val3 (a b c : Int) : Value := .agg #[.int .i64 a, .int .i64 b, .int .i64 c]
theorem plainF_spec {f : Field} {i : Nat} (h : plainF P f i = true) : (∀ w, (underlying f.type).run P w = .ok (.int .i64) w) ∧ (∀ w, (isAgg f.type).run P w = .ok false w) ∧ f.offset = i ∧ (f.name == "_") = false := by
  unfold plainF at h
  split at h
  · rename_i h1 h2
    simp only [Bool.and_eq_true, Bool.not_eq_true'] at h
    exact ⟨runQ_spec P _ _ h1, runQ_spec P _ _ h2, Nat.eq_of_beq_eq_true h.1, h.2⟩
  · cases h
theorem key3T_spec {t : TypeId} (h : key3T P t = true) : ∃ f1 f2 f3 : Field, (∀ w, (underlying t).run P w = .ok (.struct #[f1, f2, f3]) w) ∧ plainF P f1 0 = true ∧ plainF P f2 1 = true ∧ plainF P f3 2 = true ∧ P.stoodInHeld t = false := by
  unfold key3T at h
  split at h
  · rename_i fs hu
    split at h
    · rename_i f g k hl
      simp only [Bool.and_eq_true, Bool.not_eq_true'] at h
      have : fs = #[f, g, k] := by apply Array.ext'; simpa using hl
      subst this
      exact ⟨f, g, k, runQ_spec P _ _ hu, h.1, h.2.1, h.2.2.1, h.2.2.2⟩
    · cases h
  · cases h
theorem run_eqF {t : TypeId} (hu : ∀ w, (underlying t).run P w = .ok (.int .i64) w) (n : Nat) (a b : Int) (w : World) : (Op.equalIn (n + 1) t (.int .i64 a) (.int .i64 b)).run P w = .ok (a == b) w := by
  simp only [Op.equalIn, Sem.run_bind, hu, Result.andThen_ok]
  rfl
theorem run_part3 {t : TypeId} (ha : ∀ w, (isAgg t).run P w = .ok false w) (cs : Array Value) (i : Nat) (v : Value) (h : cs[i]? = some v) (w : World) : (part t cs i).run P w = .ok v w := by
  simp only [part, Sem.run_bind, ha, Result.andThen_ok, h]
  rfl
theorem run_equal3 {t : TypeId} (h : key3T P t = true) (a1 b1 c1 a2 b2 c2 : Int) (w : World) : (Op.equal t (val3 a1 b1 c1) (val3 a2 b2 c2)).run P w = .ok (a1 == a2 && (b1 == b2 && c1 == c2)) w := by
  obtain ⟨f1, f2, f3, hu, h1, h2, h3, hs⟩ := key3T_spec h
  obtain ⟨p1, p2, p3, p4⟩ := plainF_spec h1
  obtain ⟨q1, q2, q3, q4⟩ := plainF_spec h2
  obtain ⟨r1, r2, r3, r4⟩ := plainF_spec h3
  have p4' : f1.name ≠ "_" := by simpa using p4
  have q4' : f2.name ≠ "_" := by simpa using q4
  have r4' : f3.name ≠ "_" := by simpa using r4
  have hdef : Op.equal t (val3 a1 b1 c1) (val3 a2 b2 c2) = Op.equalIn (9998 + 1 + 1) t (val3 a1 b1 c1) (val3 a2 b2 c2) := rfl
  rw [hdef]
  generalize 9998 = n
  have k1 := fun (x y z : Int) => run_part3 p2 #[.int .i64 x, .int .i64 y, .int .i64 z] 0 (.int .i64 x) rfl
  have k2 := fun (x y z : Int) => run_part3 q2 #[.int .i64 x, .int .i64 y, .int .i64 z] 1 (.int .i64 y) rfl
  have k3 := fun (x y z : Int) => run_part3 r2 #[.int .i64 x, .int .i64 y, .int .i64 z] 2 (.int .i64 z) rfl
  have e1 := fun (x y : Int) => run_eqF p1 n x y
  have e2 := fun (x y : Int) => run_eqF q1 n x y
  have e3 := fun (x y : Int) => run_eqF r1 n x y
  unfold Op.equalIn
  simp only [val3, Sem.run_bind, hu, Result.andThen_ok]
  cases ea : (a1 == a2) with
  | false => simp [hs, p4', p3, k1, e1, ea]
  | true =>
    cases eb : (b1 == b2) with
    | false => simp [hs, p4', q4', p3, q3, k1, e1, k2, e2, ea, eb]
    | true =>
      cases ec : (c1 == c2) <;> simp [hs, p4', q4', r4', p3, q3, r3, k1, e1, k2, e2, k3, e3, ea, eb, ec]
theorem run_checkKey3 {t : TypeId} (h : key3T P t = true) (b : Bool) (a1 b1 c1 : Int) (w : World) : (Instr.checkKey b 10000 t (val3 a1 b1 c1)).run P w = .ok () w := by
  obtain ⟨f1, f2, f3, hu, h1, h2, h3, hs⟩ := key3T_spec h
  obtain ⟨p1, p2, p3, p4⟩ := plainF_spec h1
  obtain ⟨q1, q2, q3, q4⟩ := plainF_spec h2
  obtain ⟨r1, r2, r3, r4⟩ := plainF_spec h3
  have p4' : f1.name ≠ "_" := by simpa using p4
  have q4' : f2.name ≠ "_" := by simpa using q4
  have r4' : f3.name ≠ "_" := by simpa using r4
  show (Instr.checkKey b (9998 + 1 + 1) t _).run P w = _
  generalize 9998 = n
  simp only [val3, Instr.checkKey, Sem.run_bind, hu, Result.andThen_ok]
  simp [p4', q4', r4', part, p1, p2, p3, q1, q2, q3, r1, r2, r3, Instr.checkKey]
def k3A : AV → Option (Int × Int × Int)
  | .agg [.lit (.int .i64 a), .lit (.int .i64 b), .lit (.int .i64 c)] => some (a, b, c)
  | _ => none
theorem k3A_spec {d : AV} {k : Int × Int × Int} {u : Value} (h : k3A d = some k) (hd : Den C d u) : u = val3 k.1 k.2.1 k.2.2 := by
  unfold k3A at h
  split at h
  · rename_i a b c
    cases h
    cases hd with
    | @agg _ vs hl hh =>
      have hD : Dens C [.lit (.int .i64 a), .lit (.int .i64 b), .lit (.int .i64 c)] vs := ⟨hl, hh⟩
      obtain ⟨u1, r1, rfl, x1, hD⟩ := hD.cons_inv
      obtain ⟨u2, r2, rfl, x2, hD⟩ := hD.cons_inv
      obtain ⟨u3, r3, rfl, x3, hD⟩ := hD.cons_inv
      obtain rfl := hD.nil_inv
      cases x1; cases x2; cases x3
      rfl
  · cases h
def eqK (x y : Int × Int × Int) : Bool := match eqI x.1 y.1 with
  | true => match eqI x.2.1 y.2.1 with
    | true => eqI x.2.2 y.2.2
    | false => false
  | false => false
theorem eqK_eq (x y : Int × Int × Int) : eqK x y = (x.1 == y.1 && (x.2.1 == y.2.1 && x.2.2 == y.2.2)) := by
  unfold eqK
  simp only [eqI_eq]
  cases (x.1 == y.1) <;> cases (x.2.1 == y.2.1) <;> rfl
def findE (k : Int × Int × Int) : List (AV × AV × Nat) → Nat → Option (Option (Nat × AV))
  | [], _ => some none
  | (kd, vd, _) :: r, i => match k3A kd with
    | some k' => match eqK k k' with
      | true => some (some (i, vd))
      | false => findE k r (i + 1)
    | none => none
def FoundOk (C : Cx) (k : Int × Int × Int) (en : List MapEntry) (i : Nat) (r : Option (Nat × AV)) (r' : Option (Nat × Value)) : Prop := match r with
  | none => r' = none
  | some (j, d) => ∃ y, en[j - i]? = some y ∧ i ≤ j ∧ r' = some (j, y.val) ∧ Den C d y.val ∧ y.key = val3 k.1 k.2.1 k.2.2
theorem findE_run {t : TypeId} (h3 : key3T P t = true) {k : Int × Int × Int} : ∀ (es : List (AV × AV × Nat)) (en : List MapEntry) (i : Nat) (r : Option (Nat × AV)), en.length = es.length →
    (∀ (j : Nat) (x : AV × AV × Nat) (y : MapEntry), es[j]? = some x → en[j]? = some y → Den C x.1 y.key ∧ Den C x.2.1 y.val ∧ y.born = x.2.2) → findE k es i = some r →
    ∃ r', FoundOk C k en i r r' ∧ ∀ w, (Instr.findAsking t (val3 k.1 k.2.1 k.2.2) en i).run P w = .ok r' w
  | [], en, i, r, hl, _, h => by
    have : en = [] := List.eq_nil_of_length_eq_zero (by simpa using hl)
    subst this
    simp only [findE, Option.some.injEq] at h
    subst h
    exact ⟨none, rfl, fun w => rfl⟩
  | (kd, vd, bn) :: es, [], i, r, hl, _, h => by simp at hl
  | (kd, vd, bn) :: es, y :: en, i, r, hl, hh, h => by
    obtain ⟨h1, h2, _⟩ := hh 0 _ _ rfl rfl
    simp only [findE] at h
    split at h
    · rename_i k' hk
      have hy := k3A_spec hk h1
      have hr := fun w => run_equal3 (P := P) h3 k.1 k.2.1 k.2.2 k'.1 k'.2.1 k'.2.2 w
      rw [← eqK_eq] at hr
      split at h
      · rename_i he
        cases h
        have hkk : k = k' := by
          rw [eqK_eq] at he
          simp only [Bool.and_eq_true, beq_iff_eq] at he
          obtain ⟨a, b, c⟩ := k
          obtain ⟨a', b', c'⟩ := k'
          simp only at he
          rw [he.1, he.2.1, he.2.2]
        refine ⟨some (i, y.val), ⟨y, by simp, Nat.le_refl _, rfl, h2, by rw [hy, hkk]⟩, fun w => ?_⟩
        simp only [Instr.findAsking, Sem.run_bind, hy, hr, he, Result.andThen_ok]
        rfl
      · rename_i he
        obtain ⟨r', g1, g2⟩ := findE_run h3 es en (i + 1) r (by simpa using hl) (fun j x y' hx hy' => hh (j + 1) x y' hx hy') h
        refine ⟨r', ?_, fun w => ?_⟩
        · unfold FoundOk at g1 ⊢
          split at g1
          · exact g1
          · obtain ⟨y', q1, q2, q3, q4, q5⟩ := g1
            rename_i j d
            refine ⟨y', ?_, by omega, q3, q4, q5⟩
            rw [show j - i = (j - (i + 1)) + 1 by omega]
            simpa using q1
        · simp only [Instr.findAsking, Sem.run_bind, hy, hr, he, Result.andThen_ok]
          exact g2 w
    · cases h
theorem run_findKey3 {t : TypeId} (h : key3T P t = true) (v : Value) (en : List MapEntry) (w : World) : (Instr.findKey t v en).run P w = (Instr.findAsking t v en 0).run P w := by
  obtain ⟨f1, f2, f3, hu, _⟩ := key3T_spec h
  cases en with
  | nil => simp [Instr.findKey, hu, Instr.findNow, Instr.findAsking]
  | cons y r => simp [Instr.findKey, hu, Instr.findNow, Instr.sameNow]
def wrapA (ok : Bool) (d : AV) (b : Bool) : AV := match ok with
  | true => .tup [d, .lit (.bool b)]
  | false => d
theorem wrapA_den {ok : Bool} {d : AV} {v : Value} {b : Bool} (h : Den C d v) : Den C (wrapA ok d b) (if ok then .tuple #[v, .bool b] else v) := by
  cases ok with
  | true =>
    have := ((Dens.nil C).cons (.lit (.bool b))).cons h
    exact .tup (vs := [v, .bool b]) this.1 this.2
  | false => exact h
def zeroLeaf (P : Program) (t : TypeId) : Option AV := match runQ P (zeroValue t) with
  | some z => match z.oneCell' with
    | true => some (.lit z)
    | false => none
  | none => none
theorem zeroLeaf_spec {t : TypeId} (h : zeroLeaf P t = some d) : ∃ z, Den C d z ∧ ∀ w, (zeroValue t).run P w = .ok z w := by
  unfold zeroLeaf at h
  split at h
  · rename_i z hz
    split at h
    · cases h; exact ⟨z, .lit z, runQ_spec P _ _ hz⟩
    · cases h
  · cases h
noncomputable def lookupA (P : Program) (H : Heap) (t : TypeId) (x ix : AV) (ok : Bool) : Option AV := match runQ P (underlying t), k3A ix with
  | some (.map key elem), some k => match key3T P key with
    | true => match x with
      | .mp b => match H.get b with
        | some B => match B.obj with
          | some (.map es _) => match findE k es 0 with
            | some (some (_, vd)) => some (wrapA ok vd true)
            | some none => match zeroLeaf P elem with
              | some z => some (wrapA ok z false)
              | none => none
            | none => none
          | _ => none
        | none => none
      | .lit (.map none) => match zeroLeaf P elem with
        | some z => some (wrapA ok z false)
        | none => none
      | _ => none
    | false => none
  | _, _ => none
theorem run_lookup {t key elem : TypeId} (hu : ∀ w, (underlying t).run P w = .ok (.map key elem) w) (h3 : key3T P key = true) (k : Int × Int × Int) {r : Nat} {en : Array MapEntry} {cl : Nat} (hh : w.heap[r]? = some (.map en cl)) (ok : Bool)
    {r' : Option (Nat × Value)} (hr : ∀ w, (Instr.findAsking key (val3 k.1 k.2.1 k.2.2) en.toList 0).run P w = .ok r' w) {z : Value} (hz : r' = none → ∀ w, (zeroValue elem).run P w = .ok z w) :
    (Instr.lookup t (.map (some r)) (val3 k.1 k.2.1 k.2.2) ok).run P w = .ok (match r' with
      | some (_, v) => if ok then .tuple #[v, .bool true] else v
      | none => if ok then .tuple #[z, .bool false] else z) w := by
  have hck := fun b => run_checkKey3 (P := P) h3 b k.1 k.2.1 k.2.2 w
  cases r' with
  | none => cases ok <;> simp [Instr.lookup, hu, getObj, Sem.run, hh, hck, run_findKey3 h3, hr, hz rfl]
  | some q => cases ok <;> simp [Instr.lookup, hu, getObj, Sem.run, hh, hck, run_findKey3 h3, hr]
theorem run_lookup_nil {t key elem : TypeId} (hu : ∀ w, (underlying t).run P w = .ok (.map key elem) w) (h3 : key3T P key = true) (k : Int × Int × Int) (ok : Bool) {z : Value} (hz : ∀ w, (zeroValue elem).run P w = .ok z w) :
    (Instr.lookup t (.map none) (val3 k.1 k.2.1 k.2.2) ok).run P w = .ok (if ok then .tuple #[z, .bool false] else z) w := by
  have hck := fun b => run_checkKey3 (P := P) h3 b k.1 k.2.1 k.2.2 w
  cases ok <;> simp [Instr.lookup, hu, hck, run_findKey3 h3, Instr.findAsking, hz]
theorem d_lookup (hM : Mem C H base w) (hf : Fine C ρ e) {t : TypeId} {x ix : Operand} {dx dix : AV} {ok : Bool} (ho : o.op = .lookup t x ix ok) (hx : ρ x = some dx) (hix : ρ ix = some dix) (h : lookupA P H t dx dix ok = some d) : Does P C H H base w e o (some d) := by
  unfold lookupA at h
  split at h
  · rename_i key elem k hu hk
    split at h
    · rename_i h3
      have r1 := runQ_spec P _ _ hu
      have hik := k3A_spec hk (hf ix _ hix)
      have hvx := hf x _ hx
      split at h
      · rename_i b
        split at h
        · rename_i B hB
          split at h
          · rename_i es cl hobj
            obtain ⟨loc, ob, e1, e2, e3, e4, e5⟩ := (hM.blk _ B hB).2.objs _ hobj
            generalize hex : e x = vx at hvx
            cases hvx with
            | @mp _ loc' hl =>
              rw [hl] at e1; cases e1
              cases e3 with
              | @map _ _ en hlen hent =>
                split at h
                · rename_i j vd hfe
                  cases h
                  obtain ⟨r', g1, g2⟩ := findE_run h3 es en.toList 0 _ (by simpa using hlen) (fun j x y hx hy => hent j x y hx (by simpa using hy)) hfe
                  obtain ⟨y, q1, q2, q3, q4, q5⟩ := g1
                  have hrun := run_lookup (w := w) r1 h3 k e2 ok g2 (z := undef) (fun h => by rw [q3] at h; cases h)
                  subst q3
                  exact ⟨C, w, Step.refl hM, _, wrapA_den q4, by simp [execOp, ho, hex, hik, hrun]⟩
                · rename_i hfe
                  split at h
                  · rename_i z hz
                    cases h
                    obtain ⟨zv, z1, z2⟩ := zeroLeaf_spec (C := C) hz
                    obtain ⟨r', g1, g2⟩ := findE_run h3 es en.toList 0 _ (by simpa using hlen) (fun j x y hx hy => hent j x y hx (by simpa using hy)) hfe
                    have q3 : r' = none := g1
                    have hrun := run_lookup (w := w) r1 h3 k e2 ok g2 (z := zv) (fun _ => z2)
                    subst q3
                    exact ⟨C, w, Step.refl hM, _, wrapA_den z1, by simp [execOp, ho, hex, hik, hrun]⟩
                  · cases h
                · cases h
          · cases h
        · cases h
      · split at h
        · rename_i z hz
          cases h
          obtain ⟨zv, z1, z2⟩ := zeroLeaf_spec (C := C) hz
          generalize hex : e x = vx at hvx
          cases hvx
          have hrun := run_lookup_nil (w := w) r1 h3 k ok z2
          exact ⟨C, w, Step.refl hM, _, wrapA_den z1, by simp [execOp, ho, hex, hik, hrun]⟩
        · cases h
      · cases h
    · cases h
  · cases h
noncomputable def tellF (H : Heap) (b : Nat) (B : Blk) (es : List (AV × AV × Nat)) (cl : Nat) : Option Heap := forceL es fun es => some (H.set b (B.told (.map es cl)))
theorem tellF_eq (H : Heap) (b : Nat) (B : Blk) (es : List (AV × AV × Nat)) (cl : Nat) : tellF H b B es cl = some (H.set b (B.told (.map es cl))) := by
  unfold tellF
  rw [forceL_eq]
def modE (kd vd : AV) : List (AV × AV × Nat) → Nat → List (AV × AV × Nat)
  | [], _ => []
  | (_, _, b) :: r, 0 => (kd, vd, b) :: r
  | x :: r, i + 1 => x :: modE kd vd r i
theorem modE_get {kd vd : AV} : ∀ (l : List (AV × AV × Nat)) (i j : Nat), (modE kd vd l i)[j]? = if j = i then (l[j]?).map (fun x => (kd, vd, x.2.2)) else l[j]?
  | [], i, j => by simp [modE]
  | (a, b, c) :: r, 0, j => by cases j <;> simp [modE]
  | x :: r, i + 1, j => by
    cases j with
    | zero => simp [modE]
    | succ j => simp only [modE, List.getElem?_cons_succ, modE_get r i j]; simp
theorem modE_length {kd vd : AV} : ∀ (l : List (AV × AV × Nat)) (i : Nat), (modE kd vd l i).length = l.length
  | [], i => rfl
  | (a, b, c) :: r, 0 => rfl
  | x :: r, i + 1 => by simp [modE, modE_length r i]
noncomputable def updateA (P : Program) (H : Heap) (t : TypeId) (x k v : AV) : Option Heap := match runQ P (underlying t), k3A k, x with
  | some (.map key _), some kk, .mp b => match key3T P key, H.get b, roomA H with
    | true, some B, true => match B.obj, B.ro with
      | some (.map es cl), false => match findE kk es 0 with
        | some (some (i, _)) => tellF H b B (modE k v es i) cl
        | some none => tellF H b B (es ++ [(k, v, cl)]) (cl + 1)
        | none => none
      | _, _ => none
    | _, _, _ => none
  | _, _, _ => none
theorem run_stays (a b c : Int) (w : World) : (Instr.keyThatStays (val3 a b c) (val3 a b c)).run P w = .ok (val3 a b c) w := by
  have hs : Instr.sameBits (9999 + 1) (val3 a b c) (val3 a b c) = true := by
    generalize 9999 = n
    cases n <;> simp [val3, Instr.sameBits]
  have hs2 : Instr.sameBits 10000 (val3 a b c) (val3 a b c) = true := hs
  simp [Instr.keyThatStays, hs2]
theorem d_update (hM : Mem C H base w) (hf : Fine C ρ e) {t : TypeId} {x k v : Operand} {dx dk dv : AV} (ho : o.op = .mapUpdate t x k v ∨ o.op = .insert t x k v) (hx : ρ x = some dx) (hk : ρ k = some dk) (hv : ρ v = some dv) (h : updateA P H t dx dk dv = some H') : Does P C H H' base w e o none := by
  unfold updateA at h
  split at h
  · rename_i key elem kk b hu hkk
    split at h
    · rename_i B h3 hB hroom
      split at h
      · rename_i es cl hobj hro
        have r1 := runQ_spec P _ _ hu
        have hDk := hf k _ hk
        have hDv := hf v _ hv
        have hik := k3A_spec hkk hDk
        obtain ⟨loc, ob, e1, e2, e3, e4, e5⟩ := (hM.blk _ B hB).2.objs _ hobj
        have hvx := hf x _ hx
        generalize hex : e x = vx at hvx
        have hck := run_checkKey3 (P := P) h3 false kk.1 kk.2.1 kk.2.2 w
        cases hvx with
        | @mp _ loc' hl =>
          rw [hl] at e1; cases e1
          cases e3 with
          | @map _ _ en hlen hent =>
            split at h
            · rename_i i vd hfe
              rw [tellF_eq] at h
              cases h
              obtain ⟨r', g1, g2⟩ := findE_run h3 es en.toList 0 _ (by simpa using hlen) (fun j x y hx hy => hent j x y hx (by simpa using hy)) hfe
              obtain ⟨y, q1, q2, q3, q4, q5⟩ := g1
              subst q3
              have q1' : en[i]? = some y := by simpa using q1
              have hil : i < en.size := (Array.getElem?_eq_some_iff.1 q1').1
              have hx2 : ObjOk C (.map (modE dk dv es i) cl) (.map (en.modify i fun x => { x with key := e k, val := e v }) cl) := by
                refine .map (by simp [modE_length, hlen]) (fun j x y' hx hy => ?_)
                rw [modE_get] at hx
                rw [Array.getElem?_modify] at hy
                by_cases hji : j = i
                · subst hji
                  simp only [if_true] at hx hy
                  rw [q1'] at hy
                  obtain ⟨x0, hx0, rfl⟩ := Option.map_eq_some_iff.1 hx
                  simp only [Option.map_some, Option.some.injEq] at hy
                  subst hy
                  exact ⟨hDk, hDv, (hent j x0 y hx0 q1').2.2⟩
                · rw [if_neg hji] at hx
                  rw [if_neg (fun e => hji e.symm)] at hy
                  exact hent j x y' hx hy
              refine ⟨C, _, hM.setObj (room_spec hroom) hB hl e4 e5 hro _ _ hx2, ?_⟩
              have hkey : y.key = e k := by rw [q5, hik]
              have hst := run_stays (P := P) kk.1 kk.2.1 kk.2.2 w
              rcases ho with ho | ho <;> simp [execOp, ho, hex, hik, Instr.mapUpdate, r1, getObj, setObj, Sem.run, e2, hck, run_findKey3 h3, g2, q1', q5, hst]
            · rename_i hfe
              rw [tellF_eq] at h
              cases h
              obtain ⟨r', g1, g2⟩ := findE_run h3 es en.toList 0 _ (by simpa using hlen) (fun j x y hx hy => hent j x y hx (by simpa using hy)) hfe
              have q3 : r' = none := g1
              subst q3
              have hx2 : ObjOk C (.map (es ++ [(dk, dv, cl)]) (cl + 1)) (.map (en.push { key := e k, val := e v, born := cl }) (cl + 1)) := by
                refine .map (by simp [hlen]) (fun j x y' hx hy => ?_)
                by_cases hj : j < es.length
                · rw [List.getElem?_append_left hj] at hx
                  rw [Array.getElem?_push, if_neg (by omega)] at hy
                  exact hent j x y' hx hy
                · rw [List.getElem?_append_right (by omega)] at hx
                  have hj2 : j = es.length := by
                    have := (List.getElem?_eq_some_iff.1 hx).1
                    simp at this; omega
                  subst hj2
                  rw [Array.getElem?_push, if_pos hlen.symm] at hy
                  simp only [Nat.sub_self, List.getElem?_cons_zero, Option.some.injEq] at hx hy
                  subst hx; subst hy
                  exact ⟨hDk, hDv, rfl⟩
              refine ⟨C, _, hM.setObj (room_spec hroom) hB hl e4 e5 hro _ _ hx2, ?_⟩
              rcases ho with ho | ho <;> simp [execOp, ho, hex, hik, Instr.mapUpdate, r1, getObj, setObj, Sem.run, e2, hck, run_findKey3 h3, g2]
            · cases h
      · cases h
    · cases h
  · cases h
noncomputable def makeMapA (H : Heap) : Option (AV × Heap) := match roomA H with
  | true => some (.mp H.nb, H.push (objBlk (.map [] 0)))
  | false => none
theorem d_makeMap (hM : Mem C H base w) {t : TypeId} (ho : o.op = .makeMap t none) (h : makeMapA H = some (d, H')) : Does P C H H' base w e o (some d) := by
  unfold makeMapA at h
  split at h
  · rename_i hroom
    cases h
    obtain ⟨C', hS, hat⟩ := hM.newObj (room_spec hroom) (.map [] 0) (.map #[] 0) (.map rfl (fun i x y hx => by simp at hx))
    exact ⟨C', _, hS, .map (some w.heap.size), .mp (loc := ⟨w.heap.size, 0, 0, 0, 0⟩) hat, by simp [execOp, ho, Instr.makeMap, newObj, Sem.run]⟩
  · cases h
noncomputable def entryA (P : Program) (H : Heap) (t : TypeId) (x k : AV) : Option (AV × Heap) := match runQ P (underlying t), k3A k, x with
  | some (.map key elem), some kk, .mp b => match key3T P key, H.get b, roomA H with
    | true, some B, true => match B.obj, B.ro with
      | some (.map es cl), false => match findE kk es 0 with
        | some (some (i, vd)) => match es[i]? with
          | some y => (tellF H b B (modE k vd es i) cl).map fun H' => (.tup [vd, .lit (.int .i64 (Int.ofNat y.2.2))], H')
          | none => none
        | some none => match zeroLeaf P elem with
          | some z => (tellF H b B (es ++ [(k, z, cl)]) (cl + 1)).map fun H' => (.tup [z, .lit (.int .i64 (Int.ofNat cl))], H')
          | none => none
        | none => none
      | _, _ => none
    | _, _, _ => none
  | _, _, _ => none
theorem d_entry (hM : Mem C H base w) (hf : Fine C ρ e) {t : TypeId} {x k : Operand} {dx dk : AV} (ho : o.op = .mapEntry t x k) (hx : ρ x = some dx) (hk : ρ k = some dk) (h : entryA P H t dx dk = some (d, H')) : Does P C H H' base w e o (some d) := by
  unfold entryA at h
  split at h
  · rename_i key elem kk b hu hkk
    split at h
    · rename_i B h3 hB hroom
      split at h
      · rename_i es cl hobj hro
        have r1 := runQ_spec P _ _ hu
        have hDk := hf k _ hk
        have hik := k3A_spec hkk hDk
        obtain ⟨loc, ob, e1, e2, e3, e4, e5⟩ := (hM.blk _ B hB).2.objs _ hobj
        have hvx := hf x _ hx
        generalize hex : e x = vx at hvx
        have hck := run_checkKey3 (P := P) h3 false kk.1 kk.2.1 kk.2.2 w
        cases hvx with
        | @mp _ loc' hl =>
          rw [hl] at e1; cases e1
          cases e3 with
          | @map _ _ en hlen hent =>
            split at h
            · rename_i i vd hfe
              split at h
              · rename_i x0 hx0
                rw [tellF_eq] at h
                cases h
                obtain ⟨r', g1, g2⟩ := findE_run h3 es en.toList 0 _ (by simpa using hlen) (fun j x y hx hy => hent j x y hx (by simpa using hy)) hfe
                obtain ⟨y, q1, q2, q3, q4, q5⟩ := g1
                subst q3
                have q1' : en[i]? = some y := by simpa using q1
                have hbn := (hent i x0 y hx0 q1').2.2
                have hx2 : ObjOk C (.map (modE dk vd es i) cl) (.map (en.modify i fun x => { x with key := e k }) cl) := by
                  refine .map (by simp [modE_length, hlen]) (fun j x y' hx hy => ?_)
                  rw [modE_get] at hx
                  rw [Array.getElem?_modify] at hy
                  by_cases hji : j = i
                  · subst hji
                    simp only [if_true] at hx hy
                    rw [q1'] at hy
                    obtain ⟨x1, hx1, rfl⟩ := Option.map_eq_some_iff.1 hx
                    simp only [Option.map_some, Option.some.injEq] at hy
                    subst hy
                    exact ⟨hDk, q4, (hent j x1 y hx1 q1').2.2⟩
                  · rw [if_neg hji] at hx
                    rw [if_neg (fun e => hji e.symm)] at hy
                    exact hent j x y' hx hy
                have hst := run_stays (P := P) kk.1 kk.2.1 kk.2.2 w
                refine ⟨C, _, hM.setObj (room_spec hroom) hB hl e4 e5 hro _ _ hx2, .tuple #[y.val, .int .i64 (y.born : Int)], ?_, ?_⟩
                · have := ((Dens.nil C).cons (.lit (.int .i64 (Int.ofNat x0.2.2)))).cons q4
                  rw [hbn]
                  exact .tup (vs := [y.val, .int .i64 (Int.ofNat x0.2.2)]) this.1 this.2
                · simp [execOp, ho, hex, hik, Instr.mapEntry, r1, getObj, setObj, Sem.run, e2, hck, run_findKey3 h3, g2, q1', q5, hst, goInt]
              · cases h
            · rename_i hfe
              split at h
              · rename_i z hz
                rw [tellF_eq] at h
                cases h
                obtain ⟨zv, z1, z2⟩ := zeroLeaf_spec (C := C) hz
                obtain ⟨r', g1, g2⟩ := findE_run h3 es en.toList 0 _ (by simpa using hlen) (fun j x y hx hy => hent j x y hx (by simpa using hy)) hfe
                have q3 : r' = none := g1
                subst q3
                have hx2 : ObjOk C (.map (es ++ [(dk, z, cl)]) (cl + 1)) (.map (en.push { key := e k, val := zv, born := cl }) (cl + 1)) := by
                  refine .map (by simp [hlen]) (fun j x y' hx hy => ?_)
                  by_cases hj : j < es.length
                  · rw [List.getElem?_append_left hj] at hx
                    rw [Array.getElem?_push, if_neg (by omega)] at hy
                    exact hent j x y' hx hy
                  · rw [List.getElem?_append_right (by omega)] at hx
                    have hj2 : j = es.length := by
                      have := (List.getElem?_eq_some_iff.1 hx).1
                      simp at this; omega
                    subst hj2
                    rw [Array.getElem?_push, if_pos hlen.symm] at hy
                    simp only [Nat.sub_self, List.getElem?_cons_zero, Option.some.injEq] at hx hy
                    subst hx; subst hy
                    exact ⟨hDk, z1, rfl⟩
                refine ⟨C, _, hM.setObj (room_spec hroom) hB hl e4 e5 hro _ _ hx2, .tuple #[zv, .int .i64 (cl : Int)], ?_, ?_⟩
                · have := ((Dens.nil C).cons (.lit (.int .i64 (Int.ofNat cl)))).cons z1
                  exact .tup (vs := [zv, .int .i64 (Int.ofNat cl)]) this.1 this.2
                · simp [execOp, ho, hex, hik, Instr.mapEntry, r1, getObj, setObj, Sem.run, e2, hck, run_findKey3 h3, g2, z2, goInt]
              · cases h
            · cases h
      · cases h
    · cases h
  · cases h
def bornAt (s : Nat) : List (AV × AV × Nat) → Nat → Option Nat
  | [], _ => none
  | (_, _, b) :: r, i => match Nat.beq b s with
    | true => some i
    | false => bornAt s r (i + 1)
def setE (vd : AV) : List (AV × AV × Nat) → Nat → List (AV × AV × Nat)
  | [], _ => []
  | (k, _, b) :: r, 0 => (k, vd, b) :: r
  | x :: r, i + 1 => x :: setE vd r i
theorem setE_get {vd : AV} : ∀ (l : List (AV × AV × Nat)) (i j : Nat), (setE vd l i)[j]? = if j = i then (l[j]?).map (fun x => (x.1, vd, x.2.2)) else l[j]?
  | [], i, j => by simp [setE]
  | (a, b, c) :: r, 0, j => by cases j <;> simp [setE]
  | x :: r, i + 1, j => by
    cases j with
    | zero => simp [setE]
    | succ j => simp only [setE, List.getElem?_cons_succ, setE_get r i j]; simp
theorem setE_length {vd : AV} : ∀ (l : List (AV × AV × Nat)) (i : Nat), (setE vd l i).length = l.length
  | [], i => rfl
  | (a, b, c) :: r, 0 => rfl
  | x :: r, i + 1 => by simp [setE, setE_length r i]
theorem bornAt_spec {s : Nat} : ∀ (es : List (AV × AV × Nat)) (en : List MapEntry) (i j : Nat), en.length = es.length → (∀ (j : Nat) (x : AV × AV × Nat) (y : MapEntry), es[j]? = some x → en[j]? = some y → y.born = x.2.2) → bornAt s es i = some j →
    ∃ m, j = i + m ∧ en.findIdx? (fun e => (e.born : Int) == (s : Int)) = some m
  | [], en, i, j, _, _, h => by simp [bornAt] at h
  | (a, b, c) :: es, [], i, j, hl, _, h => by simp at hl
  | (a, b, c) :: es, y :: en, i, j, hl, hh, h => by
    have h0 : y.born = c := hh 0 _ _ rfl rfl
    simp only [bornAt] at h
    split at h
    · rename_i hb
      cases h
      have := Nat.eq_of_beq_eq_true hb
      refine ⟨0, rfl, ?_⟩
      simp [List.findIdx?_cons, h0, this]
    · rename_i hb
      obtain ⟨m, h1, h2⟩ := bornAt_spec es en (i + 1) j (by simpa using hl) (fun j x y' hx hy => hh (j + 1) x y' hx hy) h
      have hne : ¬ (c = s) := fun e => by subst e; rw [Nat.beq_refl] at hb; cases hb
      refine ⟨m + 1, by omega, ?_⟩
      have hne2 : ¬ ((c : Int) = (s : Int)) := by omega
      simp [List.findIdx?_cons, h0, hne2, h2]
noncomputable def storeEntryA (H : Heap) (x s v : AV) : Option Heap := match x, natK s with
  | .mp b, some s => match H.get b, roomA H with
    | some B, true => match B.obj, B.ro with
      | some (.map es cl), false => match bornAt s es 0 with
        | some i => tellF H b B (setE v es i) cl
        | none => none
      | _, _ => none
    | _, _ => none
  | _, _ => none
theorem d_storeEntry (hM : Mem C H base w) (hf : Fine C ρ e) {t : TypeId} {x s v : Operand} {dx ds dv : AV} (ho : o.op = .entryStore t x s v) (hx : ρ x = some dx) (hs : ρ s = some ds) (hv : ρ v = some dv) (h : storeEntryA H dx ds dv = some H') : Does P C H H' base w e o none := by
  unfold storeEntryA at h
  split at h
  · rename_i b sn hsn
    split at h
    · rename_i B hB hroom
      split at h
      · rename_i es cl hobj hro
        split at h
        · rename_i i hi
          rw [tellF_eq] at h
          cases h
          have hDv := hf v _ hv
          have hes := natK_spec hsn (hf s _ hs)
          obtain ⟨loc, ob, e1, e2, e3, e4, e5⟩ := (hM.blk _ B hB).2.objs _ hobj
          have hvx := hf x _ hx
          generalize hex : e x = vx at hvx
          cases hvx with
          | @mp _ loc' hl =>
            rw [hl] at e1; cases e1
            cases e3 with
            | @map _ _ en hlen hent =>
              obtain ⟨m, hm1, hm2⟩ := bornAt_spec es en.toList 0 i (by simpa using hlen) (fun j x y hx hy => (hent j x y hx (by simpa using hy)).2.2) hi
              have him : i = m := by omega
              subst him
              have hfi : en.findIdx? (fun e => (e.born : Int) == (sn : Int)) = some i := by
                rw [← List.findIdx?_toArray] at hm2
                simpa using hm2
              have hx2 : ObjOk C (.map (setE dv es i) cl) (.map (en.modify i fun x => { x with val := e v }) cl) := by
                refine .map (by simp [setE_length, hlen]) (fun j x y' hx hy => ?_)
                rw [setE_get] at hx
                rw [Array.getElem?_modify] at hy
                by_cases hji : j = i
                · subst hji
                  simp only [if_true] at hx hy
                  obtain ⟨x1, hx1, rfl⟩ := Option.map_eq_some_iff.1 hx
                  obtain ⟨y1, hy1, rfl⟩ := Option.map_eq_some_iff.1 hy
                  obtain ⟨k1, k2, k3⟩ := hent j x1 y1 hx1 hy1
                  exact ⟨k1, hDv, k3⟩
                · rw [if_neg hji] at hx
                  rw [if_neg (fun e => hji e.symm)] at hy
                  exact hent j x y' hx hy
              refine ⟨C, _, hM.setObj (room_spec hroom) hB hl e4 e5 hro _ _ hx2, ?_⟩
              simp [execOp, ho, hex, hes, Instr.entryStore, asInt, asIntOf, getObj, setObj, Sem.run, e2, hfi]
        · cases h
      · cases h
    · cases h
  · cases h
def none0 {α : Type} (len : Nat) (parts : List α) : Bool := match len, parts with
  | 0, [] => true
  | _, _ => false
theorem none0_spec {α : Type} {len : Nat} {parts : List α} (h : none0 len parts = true) : len = 0 ∧ parts = [] := by
  unfold none0 at h
  split at h
  · exact ⟨rfl, rfl⟩
  · cases h
noncomputable def build0 (P : Program) (H : Heap) (t : TypeId) : Option (AV × Heap) := match runQ P (underlying t), roomA H with
  | some (.slice elem), true => match sizeA P elem with
    | some size => some (.sl H.nb 0 0 0 (some 0) size, H.push (newBlk [] elem))
    | none => none
  | _, _ => none
theorem run_build0 {t elem : TypeId} {size : Nat} (hu : ∀ w, (underlying t).run P w = .ok (.slice elem) w) (hs : ∀ w, (sizeOf elem).run P w = .ok size w) (w : World) : (Instr.buildSlice t 0 #[]).run P w = .ok (.slice (some ⟨w.heap.size, 0, none⟩) 0 0) (w.alloc (.cells #[] elem)) := by
  have hr0 : Array.range 0 = #[] := by apply Array.eq_empty_of_size_eq_zero; simp
  simp [Instr.buildSlice, hu, hs, Instr.fill, hr0, newRow, newObj, Sem.run]
noncomputable def buildAny (P : Program) (ρ : Operand → Option AV) (H : Heap) (t : TypeId) (len : Nat) (parts : Array (Nat × Operand)) : Option (AV × Heap) := match none0 len parts.toList with
  | true => build0 P H t
  | false => buildSliceA P ρ H t len parts
theorem d_buildAny (hM : Mem C H base w) (hf : Fine C ρ e) {t : TypeId} {len : Nat} {parts : Array (Nat × Operand)} (ho : o.op = .buildSlice t len parts) (h : buildAny P ρ H t len parts = some (d, H')) : Does P C H H' base w e o (some d) := by
  unfold buildAny at h
  split at h
  · rename_i h0
    obtain ⟨rfl, hp⟩ := none0_spec h0
    have hp' : parts = #[] := by apply Array.ext'; simpa using hp
    subst hp'
    unfold build0 at h
    split at h
    · rename_i elem hu hroom
      split at h
      · rename_i size hs
        cases h
        have r1 := runQ_spec P _ _ hu
        have r2 := runQ_spec P _ _ (show runQ P (sizeOf elem) = some size from hs)
        obtain ⟨C', hS, hat⟩ := new_spec (cells := []) hM hroom #[] elem (.nil C)
        refine ⟨C', _, hS, .slice (some ⟨w.heap.size, 0, none⟩) 0 0, .sl (loc := ⟨w.heap.size, 0, 0, 0, 0⟩) (c := 0) hat (Nat.zero_le _) (Nat.le_refl _) (by omega) (fun k hk => by cases hk; rfl) (by simp), ?_⟩
        simp [execOp, ho, run_build0 r1 r2]
      · cases h
    · cases h
  · exact d_buildSlice hM hf ho h
end
end Go.EV
