/- Texts that the proof of a law rests on, put together: part 4. -/
import Derived.Test.YtajnboigikdefaaDoorFg3
namespace Go.EV
open Go Go.RowKit
set_option linter.unusedVariables false
set_option linter.unusedSimpArgs false
section
variable {P : Program} {C : Cx} {ρ : Operand → Option AV} {e : Operand → Value} {o : Oper} {d : AV}
def fieldOf (P : Program) (s : TypeId) (f : Nat) : Option Field := match runQ P (underlying s) with
  | some (.struct fields) => fields[f]?
  | _ => none
def sizeA (P : Program) (t : TypeId) : Option Nat := runQ P (sizeOf t)
def fieldAddrA (P : Program) (ρ : Operand → Option AV) (s : TypeId) (x : Operand) (f : Nat) : Option AV := match ρ x, fieldOf P s f with
  | some (.ptr b v off), some fd => match sizeA P fd.type with
    | some (_ + 1) => some (.ptr b v (off + fd.offset))
    | _ => none
  | _, _ => none
theorem g_fieldAddr (hf : Fine C ρ e) {s : TypeId} {x : Operand} {f : Nat} (ho : o.op = .fieldAddr s x f) (h : fieldAddrA P ρ s x f = some d) : Gives P C e o d := by
  unfold fieldAddrA at h
  split at h
  · rename_i b v off fd hx hfd
    split at h
    · rename_i m hs
      cases h
      unfold fieldOf at hfd
      split at hfd
      · rename_i fields hu
        have r1 := runQ_spec P _ _ hu
        have r2 := runQ_spec P _ _ (show runQ P (sizeOf fd.type) = some (m + 1) from hs)
        have hv := hf x _ hx
        generalize hb : e x = vx at hv
        cases hv with
        | @ptr _ _ _ loc h h1 =>
          refine ⟨.pointer (some (loc.ad (off + fd.offset))), .ptr h (by omega), fun w => ?_⟩
          simp [execOp, ho, Instr.fieldAt, r1, hfd, hb, Instr.sureAddr, fieldPlace, r2, Loc.add loc off fd.offset h1]
      · cases hfd
    · cases h
  · cases h
def partA (P : Program) (t : TypeId) (l : List AV) (off : Nat) : Option AV := match runQ P (isAgg t) with
  | some true => match sizeA P t with
    | some n => some (.agg ((l.drop off).take n))
    | none => none
  | some false => l[off]?
  | none => none
theorem part_spec {t : TypeId} {l : List AV} {vs : List Value} {off : Nat} (h : partA P t l off = some d) (hd : Dens C l vs) : ∃ v, Den C d v ∧ ∀ w, (part t vs.toArray off).run P w = .ok v w := by
  unfold partA at h
  split at h
  · rename_i ha
    split at h
    · rename_i n hn
      cases h
      have r1 := runQ_spec P _ _ ha
      have r2 := runQ_spec P _ _ (show runQ P (sizeOf t) = some n from hn)
      have hD := (hd.drop off).take n
      refine ⟨.agg ((vs.drop off).take n).toArray, .agg hD.1 hD.2, fun w => ?_⟩
      have he : vs.toArray.extract off (off + n) = ((vs.drop off).take n).toArray := by apply Array.ext'; simp [Array.toList_extract, List.extract]
      simp [part, r1, r2, he]
    · cases h
  · rename_i ha
    have r1 := runQ_spec P _ _ ha
    obtain ⟨u, hu, hD⟩ := hd.at h
    exact ⟨u, hD, fun w => by simp [part, r1, hu]⟩
  · cases h
def fieldA (P : Program) (ρ : Operand → Option AV) (s : TypeId) (x : Operand) (f : Nat) : Option AV := match ρ x, fieldOf P s f with
  | some (.agg l), some fd => partA P fd.type l fd.offset
  | _, _ => none
theorem g_field (hf : Fine C ρ e) {s : TypeId} {x : Operand} {f : Nat} (ho : o.op = .field s x f) (h : fieldA P ρ s x f = some d) : Gives P C e o d := by
  unfold fieldA at h
  split at h
  · rename_i l fd hx hfd
    unfold fieldOf at hfd
    split at hfd
    · rename_i fields hu
      have r1 := runQ_spec P _ _ hu
      have hv := hf x _ hx
      generalize hb : e x = vx at hv
      cases hv with
      | @agg _ vs hl hh =>
        obtain ⟨v, hv, hr⟩ := part_spec h (C := C) ⟨hl, hh⟩
        refine ⟨v, hv, fun w => ?_⟩
        simp [execOp, ho, Instr.field, r1, hfd, hb, asAgg, hr]
    · cases hfd
  · cases h
def intOfA : AV → Option Int
  | .lit (.int _ n) => some n
  | _ => none
theorem intOf_spec {d : AV} {n : Int} {u : Value} (h : intOfA d = some n) (hd : Den C d u) : ∃ k, u = .int k n := by
  unfold intOfA at h
  split at h
  · cases h; cases hd; exact ⟨_, rfl⟩
  · cases h
def idxA (i : Int) (n : Nat) : Option Nat := match i with
  | .ofNat k => match Nat.blt k n with
    | true => some k
    | false => none
  | _ => none
theorem idx_spec {i : Int} {n k : Nat} (h : idxA i n = some k) : i = (k : Int) ∧ k < n := by
  unfold idxA at h
  split at h
  · split at h
    · rename_i hb; cases h; exact ⟨rfl, by simpa [Nat.blt_eq] using hb⟩
    · cases h
  · cases h
def indexAddrA (P : Program) (ρ : Operand → Option AV) (t : TypeId) (x i : Operand) : Option AV := match ρ x, (ρ i).bind intOfA with
  | some (.sl b v off len _ _), some n => match runQ P (underlying t), idxA n len with
    | some (.slice elem), some k => match sizeA P elem with
      | some size => some (.ptr b v (off + k * size))
      | none => none
    | _, _ => none
  | some (.ptr b v off), some n => match runQ P (underlying t) with
    | some (.array len elem) => match sizeA P elem, idxA n len with
      | some size, some k => some (.ptr b v (off + k * size))
      | _, _ => none
    | _ => none
  | _, _ => none
theorem g_indexAddr (hf : Fine C ρ e) {t : TypeId} {x i : Operand} (ho : o.op = .indexAddr t x i) (h : indexAddrA P ρ t x i = some d) : Gives P C e o d := by
  unfold indexAddrA at h
  split at h
  · rename_i b v off len cap es n hx hi
    split at h
    · rename_i elem k hu hk
      split at h
      · rename_i size hs
        cases h
        obtain ⟨di, hdi, hni⟩ := Option.bind_eq_some_iff.1 hi
        obtain ⟨kk, hkk⟩ := intOf_spec hni (hf i _ hdi)
        obtain ⟨rfl, hlt⟩ := idx_spec hk
        have r1 := runQ_spec P _ _ hu
        have r2 := runQ_spec P _ _ (show runQ P (sizeOf elem) = some size from hs)
        have hv := hf x _ hx
        generalize hb : e x = vx at hv
        cases hv with
        | @sl _ _ _ _ _ _ loc c h h1 h3 h4 h5 h6 =>
          refine ⟨.pointer (some (loc.ad (off + k * size))), .ptr h (by omega), fun w => ?_⟩
          have hc : (0 : Int) ≤ (k : Int) ∧ (k : Int) < (len : Int) := ⟨by omega, by omega⟩
          simp [execOp, ho, Instr.indexAt, hkk, asIntOf, r1, hb, r2, hlt, Nat.not_le.2 hlt, Loc.add loc off (k * size) h1]
      · cases h
    · cases h
  · rename_i b v off n hx hi
    split at h
    · rename_i len elem hu
      split at h
      · rename_i size k hs hk
        cases h
        obtain ⟨di, hdi, hni⟩ := Option.bind_eq_some_iff.1 hi
        obtain ⟨kk, hkk⟩ := intOf_spec hni (hf i _ hdi)
        obtain ⟨rfl, hlt⟩ := idx_spec hk
        have r1 := runQ_spec P _ _ hu
        have r2 := runQ_spec P _ _ (show runQ P (sizeOf elem) = some size from hs)
        have hv := hf x _ hx
        generalize hb : e x = vx at hv
        cases hv with
        | @ptr _ _ _ loc h h1 =>
          refine ⟨.pointer (some (loc.ad (off + k * size))), .ptr h (by omega), fun w => ?_⟩
          have hc : (0 : Int) ≤ (k : Int) ∧ (k : Int) < (len : Int) := ⟨by omega, by omega⟩
          simp [execOp, ho, Instr.indexAt, hkk, asIntOf, r1, hb, r2, hlt, Nat.not_le.2 hlt, Instr.sureAddr, Loc.add loc off (k * size) h1]
      · cases h
    · cases h
  · cases h
def indexA (P : Program) (ρ : Operand → Option AV) (t : TypeId) (x i : Operand) : Option AV := match ρ x, (ρ i).bind intOfA with
  | some (.agg l), some n => match runQ P (underlying t) with
    | some (.array len elem) => match sizeA P elem, idxA n len with
      | some size, some k => partA P elem l (k * size)
      | _, _ => none
    | _ => none
  | _, _ => none
theorem g_index (hf : Fine C ρ e) {t : TypeId} {x i : Operand} (ho : o.op = .index t x i) (h : indexA P ρ t x i = some d) : Gives P C e o d := by
  unfold indexA at h
  split at h
  · rename_i l n hx hi
    split at h
    · rename_i len elem hu
      split at h
      · rename_i size k hs hk
        obtain ⟨di, hdi, hni⟩ := Option.bind_eq_some_iff.1 hi
        obtain ⟨kk, hkk⟩ := intOf_spec hni (hf i _ hdi)
        obtain ⟨rfl, hlt⟩ := idx_spec hk
        have r1 := runQ_spec P _ _ hu
        have r2 := runQ_spec P _ _ (show runQ P (sizeOf elem) = some size from hs)
        have hv := hf x _ hx
        generalize hb : e x = vx at hv
        cases hv with
        | @agg _ vs hl hh =>
          obtain ⟨v, hv, hr⟩ := part_spec h (C := C) ⟨hl, hh⟩
          refine ⟨v, hv, fun w => ?_⟩
          have hc : (0 : Int) ≤ (k : Int) ∧ (k : Int) < (len : Int) := ⟨by omega, by omega⟩
          simp [execOp, ho, Instr.index, hkk, asIntOf, r1, hb, r2, hlt, Nat.not_le.2 hlt, hr]
      · cases h
    · cases h
  · cases h
def extractA (ρ : Operand → Option AV) (t : Operand) (i : Nat) : Option AV := match ρ t with
  | some (.tup l) => l[i]?
  | _ => none
theorem g_extract (hf : Fine C ρ e) {t : Operand} {i : Nat} (ho : o.op = .extract t i) (h : extractA ρ t i = some d) : Gives P C e o d := by
  unfold extractA at h
  split at h
  · rename_i l hx
    have hv := hf t _ hx
    generalize hb : e t = vx at hv
    cases hv with
    | @tup _ vs hl hh =>
      obtain ⟨u, hu, hD⟩ := Dens.at (C := C) (l := l) (us := vs) ⟨hl, hh⟩ h
      exact ⟨u, hD, fun w => by simp [execOp, ho, Instr.extract, hb, hu]⟩
  · cases h
def ifaceA (P : Program) (ρ : Operand → Option AV) (t : TypeId) (x : Operand) : Option AV := match runQ P (underlying t), ρ x with
  | some (.interface _), _ => none
  | some _, some d => some (.iface t d)
  | _, _ => none
theorem g_iface (hf : Fine C ρ e) {t : TypeId} {x : Operand} (ho : o.op = .makeInterface t x) (h : ifaceA P ρ t x = some d) : Gives P C e o d := by
  unfold ifaceA at h
  split at h
  · cases h
  · rename_i u d' hne hu hx
    cases h
    have r1 := runQ_spec P _ _ hu
    refine ⟨.iface t (e x), .iface (hf x _ hx), fun w => ?_⟩
    simp only [execOp, ho, Instr.makeInterface, Sem.run_bind, r1, Result.andThen_ok]
    cases u <;> first | exact absurd rfl (hne _) | simp
  · cases h
def funcA (ρ : Operand → Option AV) (fn : Fn) (first captured : Array Operand) : Option AV := match opds ρ first.toList, opds ρ captured.toList with
  | some l, some m => some (.clo fn l m)
  | _, _ => none
theorem g_func (hf : Fine C ρ e) {fn : Fn} {first captured : Array Operand} (ho : o.op = .makeFunc fn first captured) (h : funcA ρ fn first captured = some d) : Gives P C e o d := by
  unfold funcA at h
  split at h
  · rename_i l m hl hm
    cases h
    have h1 := opds_spec hf _ _ hl
    have h2 := opds_spec hf _ _ hm
    refine ⟨.func fn (first.toList.map e).toArray (captured.toList.map e).toArray, .clo h1.1 h2.1 h1.2 h2.2, fun w => ?_⟩
    have e1 : first.map e = (first.toList.map e).toArray := by apply Array.ext'; simp
    have e2 : captured.map e = (captured.toList.map e).toArray := by apply Array.ext'; simp
    simp only [execOp, ho, Instr.makeFunc, e1, e2, Sem.run_bind, Sem.run_pure, Result.andThen_ok]
  · cases h
def zeroA (P : Program) (t : TypeId) : Option AV := match runQ P (zeroValue t) with
  | some z => absN 20 z
  | none => none
def assertA (P : Program) (ρ : Operand → Option AV) (x : Operand) (t : TypeId) (ok : Bool) : Option AV := match runQ P (underlying t), ρ x with
  | some (.interface _), _ => none
  | some _, some (.iface s d) => match Nat.beq s t, ok with
    | true, true => some (.tup [d, .lit (.bool true)])
    | true, false => some d
    | false, true => match zeroA P t with
      | some z => some (.tup [z, .lit (.bool false)])
      | none => none
    | _, _ => none
  | some _, some (.lit .nilIface) => match ok, zeroA P t with
    | true, some z => some (.tup [z, .lit (.bool false)])
    | _, _ => none
  | _, _ => none
theorem two_tup {C : Cx} {a b : AV} {u v : Value} (h1 : Den C a u) (h2 : Den C b v) : Den C (.tup [a, b]) (.tuple #[u, v]) := by
  have := (Dens.nil C).cons h2 |>.cons h1
  exact .tup (vs := [u, v]) this.1 this.2
theorem g_assert (hf : Fine C ρ e) {x : Operand} {xt t : TypeId} {ok : Bool} (ho : o.op = .typeAssert x xt t ok) (h : assertA P ρ x t ok = some d) : Gives P C e o d := by
  unfold assertA at h
  split at h
  · cases h
  · rename_i u s d' hne hu hx
    have r1 := runQ_spec P _ _ hu
    have hv := hf x _ hx
    generalize hb : e x = vx at hv
    cases hv with
    | @iface _ _ uv hh =>
      split at h
      · rename_i hs
        obtain rfl := Nat.eq_of_beq_eq_true hs
        cases h
        refine ⟨_, two_tup hh (.lit _), fun w => ?_⟩
        simp only [execOp, ho, Instr.typeAssert, hb, Sem.run_bind, r1, Result.andThen_ok]
        cases u <;> first | exact absurd rfl (hne _) | simp
      · rename_i hs
        obtain rfl := Nat.eq_of_beq_eq_true hs
        cases h
        refine ⟨_, hh, fun w => ?_⟩
        simp only [execOp, ho, Instr.typeAssert, hb, Sem.run_bind, r1, Result.andThen_ok]
        cases u <;> first | exact absurd rfl (hne _) | simp
      · rename_i hs
        have hne2 : s ≠ t := fun e' => by subst e'; simp at hs
        split at h
        · rename_i z hz
          cases h
          unfold zeroA at hz
          split at hz
          · rename_i zv hzv
            have r2 := runQ_spec P _ _ hzv
            refine ⟨_, two_tup (absN_spec C 20 _ _ hz) (.lit _), fun w => ?_⟩
            simp only [execOp, ho, Instr.typeAssert, hb, Sem.run_bind, r1, Result.andThen_ok]
            cases u <;> first | exact absurd rfl (hne _) | simp [hne2, r2]
          · cases hz
        · cases h
      · cases h
  · rename_i u hne hu hx
    have r1 := runQ_spec P _ _ hu
    have hv := hf x _ hx
    generalize hb : e x = vx at hv
    cases hv
    split at h
    · rename_i z hz
      cases h
      unfold zeroA at hz
      split at hz
      · rename_i zv hzv
        have r2 := runQ_spec P _ _ hzv
        refine ⟨_, two_tup (absN_spec C 20 _ _ hz) (.lit _), fun w => ?_⟩
        simp only [execOp, ho, Instr.typeAssert, hb, Sem.run_bind, r1, Result.andThen_ok]
        cases u <;> first | exact absurd rfl (hne _) | simp [r2]
      · cases hz
    · cases h
  · cases h
def lenA (P : Program) (ρ : Operand → Option AV) (c : Call) : Option AV := match c.callee, c.args.toList, c.argTypes.toList with
  | .builtin .len, [x], t :: _ => match ρ x, runQ P (underlying t) with
    | some (.sl _ _ _ len _ _), some (.slice _) => some (.lit (.int .i64 len))
    | some .empty, some (.slice _) => some (.lit (.int .i64 0))
    | _, _ => none
  | .builtin .cap, [x], t :: _ => match ρ x, runQ P (underlying t) with
    | some (.sl _ _ _ _ (some k) _), some (.slice _) => some (.lit (.int .i64 k))
    | _, _ => none
  | _, _, _ => none
theorem list_arr {α : Type} {a : Array α} {l : List α} (h : a.toList = l) : a = l.toArray := by apply Array.ext'; simpa using h
theorem g_len (hf : Fine C ρ e) {c : Call} (ho : o.op = .call c) (h : lenA P ρ c = some d) : Gives P C e o d := by
  obtain ⟨callee, args, argTypes⟩ := c
  unfold lenA at h
  split at h
  · rename_i x t r hc ha ht
    have ha2 := list_arr ha
    have ht2 := list_arr ht
    clear ha ht
    simp only at hc ha2 ht2
    subst hc; subst ha2; subst ht2
    split at h
    · rename_i hx hu
      cases h
      have r1 := runQ_spec P _ _ hu
      have hv := hf x _ hx
      generalize hb : e x = vx at hv
      cases hv
      exact ⟨_, .lit _, fun w => by simp [execOp, ho, resolve, invoke, builtin, Builtin.len_, hb, r1, goInt]⟩
    · rename_i hx hu
      cases h
      have r1 := runQ_spec P _ _ hu
      have hv := hf x _ hx
      generalize hb : e x = vx at hv
      cases hv
      exact ⟨_, .lit _, fun w => by simp [execOp, ho, resolve, invoke, builtin, Builtin.len_, hb, r1, goInt]⟩
    · cases h
  · rename_i x t r hc ha ht
    have ha2 := list_arr ha
    have ht2 := list_arr ht
    clear ha ht
    simp only at hc ha2 ht2
    subst hc; subst ha2; subst ht2
    split at h
    · rename_i hx hu
      cases h
      have r1 := runQ_spec P _ _ hu
      have hv := hf x _ hx
      generalize hb : e x = vx at hv
      cases hv with
      | sl h h1 h3 h4 h5 h6 =>
        have := h5 _ rfl
        subst this
        exact ⟨_, .lit _, fun w => by simp [execOp, ho, resolve, invoke, builtin, Builtin.cap_, hb, r1, goInt]⟩
    · cases h
  · cases h
end
end Go.EV
