/- Of no program: what a function comes to (nothing told; a result; a panic of its own), and small words of it. -/
import Derived.Test.YtcmffeaoailoiaaDoorXData
namespace Go.XW
open Go.RowKit
def chk {ρ : Type} (c : Prop) [Decidable c] (k : Option ρ) : Option ρ := if c then k else none
section
variable {α ρ : Type} {r : ρ}
theorem chk_elim {c : Prop} [Decidable c] {k : Option ρ} (h : chk c k = some r) : c ∧ k = some r := by
  unfold chk at h
  split at h
  · exact ⟨‹c›, h⟩
  · cases h
theorem chk_pos {c : Prop} [Decidable c] (k : Option ρ) (h : c) : chk c k = k := if_pos h
theorem bind_elim {q : Option α} {f : α → Option ρ} (h : q.bind f = some r) : ∃ x, q = some x ∧ f x = some r := Option.bind_eq_some_iff.1 h
theorem nt {b : Bool} (h : b = false) : ¬ (b = true) := by rw [h]; decide
end
/-- J says what I says, and speaks besides of blocks from n on alone. -/
structure Grow (I J : Imm) (n : Nat) : Prop where
  ext : Ext I J
  new : ∀ a v, J a = some v → I a = some v ∨ n ≤ a.block
theorem Grow.refl (I : Imm) (n : Nat) : Grow I I n := ⟨Ext.refl I, fun _ _ h => .inl h⟩
theorem Grow.trans {I J K : Imm} {n m : Nat} (h : Grow I J n) (k : Grow J K m) (hnm : n ≤ m) : Grow I K n :=
  ⟨h.ext.trans k.ext, fun a v hv => by
    rcases k.new a v hv with h1 | h1
    · exact h.new a v h1
    · exact .inr (by omega)⟩
/-- How a call ends: its result is a scalar. -/
def EndS (v : Value) (w : World) : Ending → World → Prop := fun e w' => e = .returned v ∧ Below w.heap.size w w'
/-- How a call ends: its result leads to memory. -/
def EndD (d : DD) (I : Imm) (w : World) : Ending → World → Prop := fun e w' => ∃ v J, e = .returned v ∧ Grow I J w.heap.size ∧ Fits J w' ∧ RepV J d v ∧ Below w.heap.size w w'
abbrev XI (k : IntKind) (x : Int) : List DD := [.val (.int k x)]
abbrev XB (x : Bool) : List DD := [.val (.bool x)]
abbrev XS (x : ByteArray) : List DD := [.val (.string x)]
abbrev XL {α : Type} (e : Nat) (f : α → List DD) (l : List α) : List DD := [.sl e (l.map f)]
abbrev SL {α : Type} (e : Nat) (f : α → List DD) (l : List α) : DD := .sl e (l.map f)

section
variable {I : Imm} {α : Type}
theorem SL_len {e : Nat} {f : α → List DD} {l : List α} {v : Value} (h : RepV I (SL e f l) v) : ∃ A c, v = .slice A l.length c ∧ l.length ≤ c ∧ l.length ≤ 9223372036854775807 := by
  obtain ⟨A, c, h1, h2⟩ := h.sl_inv
  rw [List.length_map] at h1 h2
  exact ⟨A, c, h1, h2⟩
theorem map_at {f : α → List DD} {l : List α} (i : Nat) (d : α) (h : i < l.length) : (l.map f)[i]? = some (f (l.getD i d)) := by
  rw [List.getElem?_map, List.getElem?_eq_getElem h]
  simp [List.getD, List.getElem?_eq_getElem h]
/-- Element number i of a slice. -/
theorem SL_at {e : Nat} {f : α → List DD} {l : List α} {A : Option Addr} {n c : Nat} (h : RepV I (SL e f l) (.slice A n c)) (d : α) (i : Int) (h0 : 0 ≤ i) (h1 : i < l.length) :
    ∃ ad, A = some ad ∧ ∀ (j : Nat) (q : DD), (f (l.getD i.toNat d))[j]? = some q → ∃ u, I ((ad.add (i.toNat * e)).add j) = some u ∧ RepV I q u := by
  obtain ⟨ad, ha, hc⟩ := h.sl_at i.toNat _ (map_at i.toNat d (by omega))
  exact ⟨ad, ha, fun j q hq => by obtain ⟨u, hu, hr⟩ := hc j q hq; exact ⟨u, by rw [addr_add_add]; exact hu, hr⟩⟩
theorem SL_nth {e : Nat} {f : α → List DD} {l : List α} {A : Option Addr} {n c : Nat} (h : RepV I (SL e f l) (.slice A n c)) {j : Nat} {x : α} (hx : l[j]? = some x) :
    ∃ ad, A = some ad ∧ ∀ (k : Nat) (q : DD), (f x)[k]? = some q → ∃ u, I ((ad.add (j * e)).add k) = some u ∧ RepV I q u := by
  obtain ⟨ad, ha, hc⟩ := h.sl_at j (f x) (by rw [List.getElem?_map, hx]; rfl)
  exact ⟨ad, ha, fun k q hq => by obtain ⟨u, hu, hr⟩ := hc k q hq; exact ⟨u, by rw [addr_add_add]; exact hu, hr⟩⟩
theorem drop_cons {l : List α} {j : Nat} (h : j < l.length) : ∃ x, l[j]? = some x ∧ l.drop j = x :: l.drop (j + 1) :=
  ⟨l[j], List.getElem?_eq_getElem h, List.drop_eq_getElem_cons h⟩
theorem drop_all {l : List α} {j : Nat} (h : ¬ j < l.length) : l.drop j = [] := List.drop_of_length_le (by omega)
theorem wrap_succ {j : Nat} {n : Nat} (h : j < n) (hn : n ≤ 9223372036854775807) : IntKind.i64.wrap ((j : Int) + 1) = ((j + 1 : Nat) : Int) := by
  rw [IntKind.wrap_i64]
  omega
def CF (I : Imm) (ad : Addr) (k : Nat) (vs : List Value) : Prop := ∀ (j : Nat) (v : Value), vs[j]? = some v → I (ad.add (k + j)) = some v
theorem CF.nil {ad : Addr} {k : Nat} : CF I ad k [] := fun j v h => by simp at h
theorem CF.cons {ad : Addr} {k : Nat} {v : Value} {vs : List Value} (h : I (ad.add k) = some v) (t : CF I ad (k + 1) vs) : CF I ad k (v :: vs) := fun j u hj => by
  cases j with
  | zero => simp at hj; subst hj; exact h
  | succ j => have := t j u (by simpa using hj); rw [show k + (j + 1) = k + 1 + j from by omega]; exact this
theorem CF.out {ad : Addr} {vs : List Value} (h : CF I ad 0 vs) : ∀ (j : Nat) (v : Value), vs[j]? = some v → I (ad.add j) = some v := fun j v hj => by have := h j v hj; rwa [Nat.zero_add] at this
/-- A struct out of its parts, and back. -/
def All2 (I : Imm) : List DD → List Value → Prop
  | [], [] => True
  | d :: l, v :: r => RepV I d v ∧ All2 I l r
  | _, _ => False
theorem All2.of : ∀ {l : List DD} {vs : List Value}, vs.length = l.length → (∀ (i : Nat) (d : DD) (u : Value), l[i]? = some d → vs[i]? = some u → RepV I d u) → All2 I l vs
  | [], [], _, _ => trivial
  | [], _ :: _, h, _ => by simp at h
  | _ :: _, [], h, _ => by simp at h
  | d :: l, v :: r, hl, h => ⟨h 0 d v rfl rfl, All2.of (by simpa using hl) (fun i d u hd hu => h (i + 1) d u (by simpa using hd) (by simpa using hu))⟩
theorem All2.back : ∀ {l : List DD} {vs : List Value}, All2 I l vs → vs.length = l.length ∧ ∀ (i : Nat) (d : DD) (u : Value), l[i]? = some d → vs[i]? = some u → RepV I d u
  | [], [], _ => ⟨rfl, fun i d u hd => by simp at hd⟩
  | [], _ :: _, h => h.elim
  | _ :: _, [], h => h.elim
  | d :: l, v :: r, h => ⟨by simp [(All2.back h.2).1], fun i d' u hd hu => by
      cases i with
      | zero => simp at hd hu; subst hd hu; exact h.1
      | succ i => exact (All2.back h.2).2 i d' u (by simpa using hd) (by simpa using hu)⟩
theorem agg_mk {l : List DD} {vs : List Value} (h : All2 I l vs) : RepV I (.agg l) (.agg vs.toArray) := .agg h.back.1 h.back.2
theorem tup_mk {l : List DD} {vs : List Value} (h : All2 I l vs) : RepV I (.tup l) (.tuple vs.toArray) := .tup h.back.1 h.back.2
theorem agg_of {l : List DD} {v : Value} (h : RepV I (.agg l) v) : ∃ vs : List Value, v = .agg vs.toArray ∧ All2 I l vs := by
  obtain ⟨vs, hv, hl, h⟩ := h.agg_inv
  exact ⟨vs, hv, All2.of hl h⟩
theorem tup_of {l : List DD} {v : Value} (h : RepV I (.tup l) v) : ∃ vs : List Value, v = .tuple vs.toArray ∧ All2 I l vs := by
  obtain ⟨vs, hv, hl, h⟩ := h.tup_inv
  exact ⟨vs, hv, All2.of hl h⟩
theorem All2.nil_inv {vs : List Value} (h : All2 I [] vs) : vs = [] := by cases vs with | nil => rfl | cons => exact h.elim
theorem All2.cons_inv {d : DD} {l : List DD} {vs : List Value} (h : All2 I (d :: l) vs) : ∃ v r, vs = v :: r ∧ RepV I d v ∧ All2 I l r := by
  cases vs with
  | nil => exact h.elim
  | cons v r => exact ⟨v, r, rfl, h.1, h.2⟩
end

/-! ### Calls -/
section
variable {P : Program} {n : Nat} {ds : List Deferred} {ops : Array Oper} {Q : Exit → Act → World → Prop} {E E' : Env} {a : Act} {w : World} {I : Imm}
theorem execOp_call (h : Sat n ds E a) {o : Oper} {f : FuncId} {fn : Func} {args : Array Operand} {tys : Array TypeId} {vs : List Value} (ho : o.op = .call { callee := .value (.func f), args, argTypes := tys })
    (hf : P.funcs[f]? = some fn) (hne : (fn.name == "runtime.NumGoroutine") = false) (hb : fn.body.isNone = false) (hv : args.toList.mapM (ev E) = some vs) : (execOp a.eval o).run P w = .ok (.enter f vs.toArray) w := by
  have hargs : args.map a.eval = vs.toArray := by
    have key : ∀ (l : List Operand) (vs : List Value), l.mapM (ev E) = some vs → l.map a.eval = vs := by
      intro l
      induction l with
      | nil => intro vs hv; simp at hv; subst hv; rfl
      | cons x l ih =>
        intro vs hv
        simp only [List.mapM_cons, Option.bind_eq_bind, Option.bind_eq_some_iff, Option.pure_def, Option.some.injEq] at hv
        obtain ⟨v, hx, r, hr, rfl⟩ := hv
        rw [List.map_cons, h.eval hx, ih r hr]
    have := key _ _ hv
    apply Array.ext'
    simpa using this
  have h1 : ¬ fn.name = "runtime.NumGoroutine" := fun e => by rw [e] at hne; simp at hne
  have h2 : ¬ fn.body = none := fun e => by rw [e] at hb; simp at hb
  simp only [execOp, ho, resolve, hargs]
  simp [Act.eval, Deferred.ofValue, invoke, callFunc, hf, h1, h2]
theorem wp_call (h : Sat n ds E a) {o : Oper} {f : FuncId} {fn : Func} {args : Array Operand} {tys : Array TypeId} (vs : List Value) (ho : o.op = .call { callee := .value (.func f), args, argTypes := tys })
    (hf : P.funcs[f]? = some fn) (hne : (fn.name == "runtime.NumGoroutine") = false) (hb : fn.body.isNone = false) (hv : args.toList.mapM (ev E) = some vs) {R : Ending → World → Prop} (hc : Calls P f vs.toArray w R)
    {K : Act → World → Prop} (hK : ∀ e w', R e w' → ∃ v E', e = .returned v ∧ dstE n E o.dst v = some E' ∧ ∀ a', Sat n ds E' a' → K a' w') : o.wp P a w K Q := by
  unfold Oper.wp
  rw [execOp_call h ho hf hne hb hv]
  refine hc.mono fun e w' hR => ?_
  obtain ⟨v, E', rfl, hd, hK⟩ := hK e w' hR
  exact hK _ (h.dst hd)
end
end Go.XW
