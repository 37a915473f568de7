/- Texts that the proof of a law rests on, put together: part 0. -/
import Derived.Below
import Derived.Calls
import Derived.Deep.Draws
import Derived.KernelRfl
import Derived.Laws.Append
import Derived.Laws.AppendOwn
import Derived.Laws.Build
import Derived.Laws.Cells
import Derived.Laws.CopyRow
import Derived.Laws.Entries
import Derived.Laws.MakeOwn
import Derived.Laws.OwnMore
import Derived.Laws.Slices
import Derived.Orders
import Derived.OrdersHeld
import Derived.RowKit3
import Derived.Tactics
import Derived.WalkKit
namespace Go.XW
open Go.RowKit
abbrev Env := List (Nat × Value)
def get : Env → Nat → Option Value
  | [], _ => none
  | (k, v) :: r, i => match Nat.beq k i with | true => some v | false => get r i
def ev (E : Env) : Operand → Option Value
  | .tmp t => get E t
  | .const v => some v
  | .global g => some (.pointer (some ⟨g, 0, none⟩))
  | .func f => some (.func (.func f) #[] #[])
structure Sat (n : Nat) (ds : List Deferred) (E : Env) (a : Act) : Prop where
  size : a.tmps.size = n
  defers : a.defers = ds
  slot : ∀ i v, get E i = some v → a.tmps[i]? = some v
def pick (E : Env) : List Nat → Option Env
  | [] => some []
  | i :: r => match get E i, pick E r with | some v, some l => some ((i, v) :: l) | _, _ => none
def isSelect : Op → Bool
  | .select .. => true
  | _ => false
def known (E : Env) (xs : List Operand) : Bool := xs.all fun x => (ev E x).isSome
def yieldOf : Value → Option Bool
  | .bool b => some b
  | _ => none
section
variable {P : Program} {n : Nat} {ds : List Deferred} {ops : Array Oper} {Q : Exit → Act → World → Prop} {E E' : Env} {a : Act} {w : World}
abbrev OI := Option Nat × List Nat × List Nat
def summ (ops : Array Oper) : List OI := ops.toList.map fun o => (o.dst, o.looksAt ops, o.after.toList.filterMap fun e => if Region.binds .any e then some e.on else none)
def memN (d : Nat) : List Nat → Bool
  | [] => false
  | x :: r => match Nat.beq x d with | true => true | false => memN d r
theorem memN_iff (d : Nat) : ∀ l, memN d l = true ↔ d ∈ l
  | [] => by simp [memN]
  | x :: r => by
    unfold memN
    cases hb : Nat.beq x d with
    | true => have := Nat.eq_of_beq_eq_true hb; subst this; simp
    | false =>
      have : x ≠ d := fun e => by subst e; simp at hb
      simp only [memN_iff d r, List.mem_cons]
      exact ⟨.inr, fun h => h.resolve_left (fun e => this e.symm)⟩
def noN (d : Option Nat) (l : List Nat) : Bool := match d with | some d => !(memN d l) | none => true
def apartI (x y : OI) : Bool := noN x.1 y.2.1 && (noN y.1 x.2.1 && match x.1, y.1 with | some a, some b => !(Nat.beq a b) | _, _ => true)
def freeGo (i : Nat) (x : OI) : Nat → List OI → List Bool → Bool
  | _, [], _ => true
  | _, _ :: _, [] => false
  | j, y :: r, b :: bs => (b || Nat.beq j i || memN i y.2.2 || apartI x y) && freeGo i x (j + 1) r bs
def doneN (L : List Bool) : List Nat → Bool
  | [] => true
  | e :: r => (L.getD e false) && doneN L r
def upI (is : List OI) (L : List Bool) (i : Nat) : Bool :=
  match is[i]? with
  | none => false
  | some x => !(L.getD i true) && (doneN L x.2.2 && freeGo i x 0 is L)
theorem apartI_spec {ops : Array Oper} {x y : Oper} {a b : List Nat} (h : apartI (x.dst, x.looksAt ops, a) (y.dst, y.looksAt ops, b) = true) : x.apart ops y = true := by
  unfold apartI noN at h
  unfold Oper.apart
  cases hx : x.dst with
  | none =>
    rw [hx] at h
    cases hy : y.dst with
    | none => simp
    | some d =>
      rw [hy] at h
      simp only [Bool.true_and, Bool.and_true, Bool.not_eq_true'] at h
      have : d ∉ x.looksAt ops := fun hm => by rw [(memN_iff d _).2 hm] at h; cases h
      simpa using this
  | some c =>
    rw [hx] at h
    cases hy : y.dst with
    | none =>
      rw [hy] at h
      simp only [Bool.and_true, Bool.not_eq_true'] at h
      have : c ∉ y.looksAt ops := fun hm => by rw [(memN_iff c _).2 hm] at h; cases h
      simpa using this
    | some d =>
      rw [hy] at h
      simp only [Bool.and_eq_true, Bool.not_eq_true'] at h
      have h1 : c ∉ y.looksAt ops := fun hm => by rw [(memN_iff c _).2 hm] at h; cases h.1
      have h2 : d ∉ x.looksAt ops := fun hm => by rw [(memN_iff d _).2 hm] at h; cases h.2.1
      have h3 : d ≠ c := fun e => by subst e; simp at h
      simp [h1, h2, h3]
theorem freeGo_spec {ops : Array Oper} {i : Nat} {x : OI} : ∀ (is : List OI) (L : List Bool) (j0 : Nat), freeGo i x j0 is L = true → ∀ (k : Nat) (y : OI), is[k]? = some y → (L.getD k true = true ∨ j0 + k = i ∨ i ∈ y.2.2 ∨ apartI x y = true)
  | [], _, _, _, k, y, hk => by simp at hk
  | z :: r, [], _, h, _, _, _ => by simp [freeGo] at h
  | z :: r, b :: bs, j0, h, k, y, hk => by
    simp only [freeGo, Bool.and_eq_true, Bool.or_eq_true] at h
    cases k with
    | zero =>
      simp only [List.getElem?_cons_zero, Option.some.injEq] at hk
      subst hk
      rcases h.1 with ((h1 | h1) | h1) | h1
      · exact .inl (by simpa using h1)
      · exact .inr (.inl (by simpa using Nat.eq_of_beq_eq_true h1))
      · exact .inr (.inr (.inl ((memN_iff _ _).1 h1)))
      · exact .inr (.inr (.inr h1))
    | succ k =>
      have := freeGo_spec (ops := ops) r bs (j0 + 1) h.2 k y (by simpa using hk)
      rcases this with h1 | h1 | h1
      · exact .inl (by simpa using h1)
      · exact .inr (.inl (by omega))
      · exact .inr (.inr h1)
theorem doneN_spec (L : List Bool) : ∀ l, doneN L l = true → ∀ e ∈ l, L.getD e false = true
  | [], _, e, he => by simp at he
  | x :: r, h, e, he => by
    simp only [doneN, Bool.and_eq_true] at h
    rcases List.mem_cons.1 he with rfl | he
    · exact h.1
    · exact doneN_spec L r h.2 e he
theorem upI_spec {ops : Array Oper} {is : List OI} (hs : summ ops = is) {L : Array Bool} {i : Nat} (h : upI is L.toList i = true) : Region.free .any ops L i = true ∧ (Region.ready .any ops L).contains i = true := by
  subst hs
  have gD : ∀ (k : Nat) (d : Bool), L.toList.getD k d = L.getD k d := fun k d => by simp [List.getD, Array.getD_eq_getD_getElem?]
  have gI : ∀ k : Nat, (summ ops)[k]? = (ops[k]?).map fun (o : Oper) => (o.dst, o.looksAt ops, o.after.toList.filterMap fun e => if Region.binds .any e then some e.on else none) := fun k => by unfold summ; rw [List.getElem?_map, Array.getElem?_toList]
  unfold upI at h
  rw [gI] at h
  cases ho : ops[i]? with
  | none => rw [ho] at h; simp at h
  | some o =>
    rw [ho] at h
    simp only [Option.map_some, Bool.and_eq_true, Bool.not_eq_true', gD] at h
    obtain ⟨h1, h2, h3⟩ := h
    refine ⟨?_, ?_⟩
    · unfold Region.free
      rw [ho]
      simp only [List.all_eq_true, List.mem_range, Bool.or_eq_true, beq_iff_eq]
      intro j hj
      have hoj : ops[j]? = some ops[j] := Array.getElem?_eq_getElem hj
      have := freeGo_spec (ops := ops) _ _ 0 h3 j _ (by rw [gI, hoj]; rfl)
      rw [hoj]
      simp only [Bool.or_eq_true]
      rcases this with h4 | h4 | h4 | h4
      · exact .inl (.inr (by rw [← gD]; exact h4))
      · exact .inl (.inl (by omega))
      · refine .inr (.inl (Array.any_eq_true'.2 ?_))
        simp only [List.mem_filterMap] at h4
        obtain ⟨e, he, hb⟩ := h4
        split at hb
        · rename_i hbe
          simp only [Option.some.injEq] at hb
          exact ⟨e, by simpa using he, by simp [hbe, hb]⟩
        · cases hb
      · exact .inr (.inr (apartI_spec h4))
    · rw [List.contains_iff_mem, mem_ready]
      refine ⟨h1, o, ho, fun e he hb => ?_⟩
      have := doneN_spec _ _ h2 e.on (by simp only [List.mem_filterMap]; exact ⟨e, by simpa using he, by simp [hb]⟩)
      rw [gD] at this
      exact this
variable {is : List OI}
variable {S : World → Prop}
theorem c_loop {G : Type} (Inv : G → Act → World → Prop) (fuel : G → Nat) {c : Code} (g₀ : G) (h₀ : Inv g₀ a w)
    (round : ∀ g a w, Inv g a w → c.wp P (Exit.then (fun a' w' => ∃ g', fuel g' < fuel g ∧ Inv g' a' w') Q) a w) : (Code.loop c).wp P Q a w := by
  intro b k cs
  have key : ∀ m g a w, fuel g = m → Inv g a w → ∃ e a' w', Q e a' w' ∧ Arrives P (lone (b.at a (.code c :: .inLoop c :: k)) cs w) b k cs e a' w' := by
    intro m
    induction m using Nat.strongRecOn with
    | _ m ih =>
      intro g a w hn hI
      obtain ⟨e, a₁, w₁, hq, harr⟩ := round g a w hI b (.inLoop c :: k) cs
      cases e with
      | normal =>
        obtain ⟨g', hlt, hI₁⟩ := hq
        obtain ⟨e₂, a₂, w₂, hq₂, harr₂⟩ := ih (fuel g') (hn ▸ hlt) g' a₁ w₁ rfl hI₁
        exact ⟨e₂, a₂, w₂, hq₂, .of_steps (Steps.trans harr (.one step_inLoop)) harr₂⟩
      | exit id => exact ⟨_, a₁, w₁, hq, .pass (x := .inLoop c) rfl (fun _ _ => .inl (by simp)) harr⟩
      | goto l => exact ⟨_, a₁, w₁, hq, .pass (x := .inLoop c) rfl (fun _ _ => .inl (by simp)) harr⟩
      | ret => exact ⟨_, a₁, w₁, hq, .pass (x := .inLoop c) rfl (fun _ _ => .inl (by simp)) harr⟩
      | panic ch => exact ⟨_, a₁, w₁, hq, .pass (x := .inLoop c) rfl (fun _ _ => .inl (by simp)) harr⟩
      | outgrown => exact ⟨_, a₁, w₁, hq, .pass (x := .inLoop c) rfl (fun _ _ => .inl (by simp)) harr⟩
  obtain ⟨e, a', w', hq, harr⟩ := key _ g₀ a w rfl h₀
  exact ⟨e, a', w', hq, .of_steps (.one step_loop) harr⟩
theorem enter {f : FuncId} {fn : Func} {c : Code} {args : Array Value} {R : Ending → World → Prop} (hf : P.funcs[f]? = some fn) (hb : fn.body = some c) (E : Env) (n : Nat)
    (hn : fn.ntmps = n) (hle : args.size ≤ n) (hE : ∀ i v, get E i = some v → args[i]? = some v)
    (h : ∀ a, Sat n [] E a → c.wp P (bodyPost P fn R) a w) : Calls P f args w R := by
  refine calls_of_wp hf hb (h _ ⟨by simp [hn]; omega, rfl, fun i v hi => ?_⟩)
  have := hE i v hi
  have hlt : i < args.size := (Array.getElem?_eq_some_iff.1 this).1
  rw [Array.getElem?_append_left hlt]
  exact this
end
end Go.XW

namespace Go.XW
open Go.RowKit
abbrev Imm := Addr → Option Value
def Fits (I : Imm) (w : World) : Prop := ∀ a v, I a = some v → w.cell? a = some v
def Ext (I J : Imm) : Prop := ∀ a v, I a = some v → J a = some v
theorem Ext.refl (I : Imm) : Ext I I := fun _ _ h => h
theorem Ext.trans {I J K : Imm} (h : Ext I J) (k : Ext J K) : Ext I K := fun a v x => k a v (h a v x)
theorem Fits.lt {I : Imm} {w : World} (h : Fits I w) {a : Addr} {v : Value} (hv : I a = some v) : a.block < w.heap.size := World.block_lt_of_cell? w a (h a v hv)
theorem Fits.below {I : Imm} {w w' : World} (h : Fits I w) (hb : Below w.heap.size w w') : Fits I w' := fun a v hv => (hb.cell (h.lt hv)).trans (h a v hv)
inductive DD where
  | val (v : Value)
  | agg (l : List DD)
  | tup (l : List DD)
  | sl (e : Nat) (rows : List (List DD))
inductive RepV (I : Imm) : DD → Value → Prop
  | val (v : Value) : RepV I (.val v) v
  | agg {l : List DD} {vs : List Value} (hl : vs.length = l.length) (h : ∀ (i : Nat) (d : DD) (u : Value), l[i]? = some d → vs[i]? = some u → RepV I d u) : RepV I (.agg l) (.agg vs.toArray)
  | nil {e : Nat} (A : Option Addr) (c : Nat) : RepV I (.sl e []) (.slice A 0 c)
  | tup {l : List DD} {vs : List Value} (hl : vs.length = l.length) (h : ∀ (i : Nat) (d : DD) (u : Value), l[i]? = some d → vs[i]? = some u → RepV I d u) : RepV I (.tup l) (.tuple vs.toArray)
  | sl {e : Nat} {rows : List (List DD)} {ad : Addr} {c : Nat} (hc : rows.length ≤ c) (hm : c ≤ 9223372036854775807) (u : Nat → Nat → Value)
      (hcell : ∀ (i j : Nat) (r : List DD) (d : DD), rows[i]? = some r → r[j]? = some d → I (ad.add (i * e + j)) = some (u i j))
      (hrep : ∀ (i j : Nat) (r : List DD) (d : DD), rows[i]? = some r → r[j]? = some d → RepV I d (u i j)) : RepV I (.sl e rows) (.slice (some ad) rows.length c)
section
variable {I J : Imm} {d : DD} {v : Value}
theorem RepV.mono (h : RepV I d v) (hIJ : Ext I J) : RepV J d v := by
  induction h with
  | val v => exact .val v
  | agg hl _ ih => exact .agg hl ih
  | nil A c => exact .nil A c
  | tup hl _ ih => exact .tup hl ih
  | sl hc hm u hcell _ ih => exact .sl hc hm u (fun i j r d hr hd => hIJ _ _ (hcell i j r d hr hd)) ih
theorem RepV.val_inv {x : Value} (h : RepV I (.val x) v) : v = x := by cases h; rfl
theorem RepV.sl_inv {e : Nat} {rows : List (List DD)} (h : RepV I (.sl e rows) v) : ∃ A c, v = .slice A rows.length c ∧ rows.length ≤ c ∧ rows.length ≤ 9223372036854775807 := by
  cases h with
  | nil A c => exact ⟨A, c, rfl, Nat.zero_le _, Nat.zero_le _⟩
  | sl hc hm u hcell hrep => exact ⟨_, _, rfl, hc, Nat.le_trans hc hm⟩
theorem RepV.sl_at {e n c : Nat} {A : Option Addr} {rows : List (List DD)} (h : RepV I (.sl e rows) (.slice A n c)) (i : Nat) (r : List DD) (hr : rows[i]? = some r) :
    ∃ ad, A = some ad ∧ ∀ (j : Nat) (d : DD), r[j]? = some d → ∃ u, I (ad.add (i * e + j)) = some u ∧ RepV I d u := by
  cases h with
  | nil => simp at hr
  | sl hc hm u hcell hrep => exact ⟨_, rfl, fun j d hd => ⟨u i j, hcell i j r d hr hd, hrep i j r d hr hd⟩⟩
theorem addr_add_add (a : Addr) (x y : Nat) : (a.add x).add y = a.add (x + y) := by
  unfold Addr.add
  by_cases hx : x = 0
  · subst hx; simp
  · by_cases hy : y = 0
    · subst hy; simp
    · rw [if_neg hx, if_neg hy, if_neg (by omega)]
      simp [Nat.add_assoc]
theorem RepV.sl_cut {e n c : Nat} {A : Option Addr} {rows : List (List DD)} (h : RepV I (.sl e rows) (.slice A n c)) (lo hi : Nat) (h1 : lo ≤ hi) (h2 : hi ≤ rows.length) :
    RepV I (.sl e ((rows.take hi).drop lo)) (.slice (if c = lo then A else A.map (·.add (lo * e))) (hi - lo) (c - lo)) := by
  cases h with
  | nil =>
    obtain rfl : hi = 0 := by simpa using h2
    obtain rfl : lo = 0 := by omega
    simp only [List.take_nil, List.drop_nil, Nat.sub_self]
    exact .nil _ _
  | @sl _ _ ad c hc hm u hcell hrep =>
    have hl : ((rows.take hi).drop lo).length = hi - lo := by rw [List.length_drop, List.length_take]; omega
    by_cases hcl : c = lo
    · rw [if_pos hcl]
      have e0 : (rows.take hi).drop lo = [] := List.eq_nil_of_length_eq_zero (by omega)
      have e1 : hi - lo = 0 := by omega
      rw [e0, e1]
      exact .nil _ _
    · rw [if_neg hcl, ← hl]
      have hget : ∀ (i : Nat) (r : List DD), ((rows.take hi).drop lo)[i]? = some r → rows[lo + i]? = some r := fun i r hr => by
        rw [List.getElem?_drop, List.getElem?_take] at hr
        split at hr
        · exact hr
        · cases hr
      refine .sl (by omega) (by omega) (fun i j => u (lo + i) j) (fun i j r d hr hd => ?_) (fun i j r d hr hd => hrep (lo + i) j r d (hget i r hr) hd)
      have := hcell (lo + i) j r d (hget i r hr) hd
      rw [addr_add_add]
      have e2 : lo * e + (i * e + j) = (lo + i) * e + j := by rw [Nat.add_mul, Nat.add_assoc]
      rw [e2]; exact this
end
section
variable {P : Program} {n : Nat} {ds : List Deferred} {E : Env} {a : Act} {I : Imm} {o : Oper}
end
section
variable {P : Program} {n : Nat} {ds : List Deferred} {ops : Array Oper} {Q : Exit → Act → World → Prop} {E E' : Env} {a : Act} {w : World} {I : Imm}
end
end Go.XW

namespace Go.XW
open Go.RowKit
section
variable {α ρ : Type} {r : ρ}
theorem nt {b : Bool} (h : b = false) : ¬ (b = true) := by rw [h]; decide
end
structure Grow (I J : Imm) (n : Nat) : Prop where
  ext : Ext I J
  new : ∀ a v, J a = some v → I a = some v ∨ n ≤ a.block
abbrev SL {α : Type} (e : Nat) (f : α → List DD) (l : List α) : DD := .sl e (l.map f)
section
variable {I : Imm} {α : Type}
theorem SL_len {e : Nat} {f : α → List DD} {l : List α} {v : Value} (h : RepV I (SL e f l) v) : ∃ A c, v = .slice A l.length c ∧ l.length ≤ c ∧ l.length ≤ 9223372036854775807 := by
  obtain ⟨A, c, h1, h2⟩ := h.sl_inv
  rw [List.length_map] at h1 h2
  exact ⟨A, c, h1, h2⟩
theorem map_at {f : α → List DD} {l : List α} (i : Nat) (d : α) (h : i < l.length) : (l.map f)[i]? = some (f (l.getD i d)) := by
  rw [List.getElem?_map, List.getElem?_eq_getElem h]
  simp [List.getD, List.getElem?_eq_getElem h]
theorem SL_at {e : Nat} {f : α → List DD} {l : List α} {A : Option Addr} {n c : Nat} (h : RepV I (SL e f l) (.slice A n c)) (d : α) (i : Int) (h0 : 0 ≤ i) (h1 : i < l.length) :
    ∃ ad, A = some ad ∧ ∀ (j : Nat) (q : DD), (f (l.getD i.toNat d))[j]? = some q → ∃ u, I ((ad.add (i.toNat * e)).add j) = some u ∧ RepV I q u := by
  obtain ⟨ad, ha, hc⟩ := h.sl_at i.toNat _ (map_at i.toNat d (by omega))
  exact ⟨ad, ha, fun j q hq => by obtain ⟨u, hu, hr⟩ := hc j q hq; exact ⟨u, by rw [addr_add_add]; exact hu, hr⟩⟩
theorem SL_nth {e : Nat} {f : α → List DD} {l : List α} {A : Option Addr} {n c : Nat} (h : RepV I (SL e f l) (.slice A n c)) {j : Nat} {x : α} (hx : l[j]? = some x) :
    ∃ ad, A = some ad ∧ ∀ (k : Nat) (q : DD), (f x)[k]? = some q → ∃ u, I ((ad.add (j * e)).add k) = some u ∧ RepV I q u := by
  obtain ⟨ad, ha, hc⟩ := h.sl_at j (f x) (by rw [List.getElem?_map, hx]; rfl)
  exact ⟨ad, ha, fun k q hq => by obtain ⟨u, hu, hr⟩ := hc k q hq; exact ⟨u, by rw [addr_add_add]; exact hu, hr⟩⟩
def CF (I : Imm) (ad : Addr) (k : Nat) (vs : List Value) : Prop := ∀ (j : Nat) (v : Value), vs[j]? = some v → I (ad.add (k + j)) = some v
def All2 (I : Imm) : List DD → List Value → Prop
  | [], [] => True
  | d :: l, v :: r => RepV I d v ∧ All2 I l r
  | _, _ => False
theorem All2.of : ∀ {l : List DD} {vs : List Value}, vs.length = l.length → (∀ (i : Nat) (d : DD) (u : Value), l[i]? = some d → vs[i]? = some u → RepV I d u) → All2 I l vs
  | [], [], _, _ => trivial
  | [], _ :: _, h, _ => by simp at h
  | _ :: _, [], h, _ => by simp at h
  | d :: l, v :: r, hl, h => ⟨h 0 d v rfl rfl, All2.of (by simpa using hl) (fun i d u hd hu => h (i + 1) d u (by simpa using hd) (by simpa using hu))⟩
theorem All2.back : ∀ {l : List DD} {vs : List Value}, All2 I l vs → vs.length = l.length ∧ ∀ (i : Nat) (d : DD) (u : Value), l[i]? = some d → vs[i]? = some u → RepV I d u
  | [], [], _ => ⟨rfl, fun i d u hd => by simp at hd⟩
  | [], _ :: _, h => h.elim
  | _ :: _, [], h => h.elim
  | d :: l, v :: r, h => ⟨by simp [(All2.back h.2).1], fun i d' u hd hu => by
      cases i with
      | zero => simp at hd hu; subst hd hu; exact h.1
      | succ i => exact (All2.back h.2).2 i d' u (by simpa using hd) (by simpa using hu)⟩
theorem All2.nil_inv {vs : List Value} (h : All2 I [] vs) : vs = [] := by cases vs with | nil => rfl | cons => exact h.elim
theorem All2.cons_inv {d : DD} {l : List DD} {vs : List Value} (h : All2 I (d :: l) vs) : ∃ v r, vs = v :: r ∧ RepV I d v ∧ All2 I l r := by
  cases vs with
  | nil => exact h.elim
  | cons v r => exact ⟨v, r, rfl, h.1, h.2⟩
end
section
variable {P : Program} {n : Nat} {ds : List Deferred} {ops : Array Oper} {Q : Exit → Act → World → Prop} {E E' : Env} {a : Act} {w : World} {I : Imm}
end
end Go.XW

namespace Go.XW
open Go.RowKit
def Cells {α : Type} (I : Imm) (e : Nat) (f : α → List DD) (l : List α) (xs : List Value) : Prop :=
  ∀ (i j : Nat) (x : α) (q : DD), l[i]? = some x → (f x)[j]? = some q → ∃ u, xs[i * e + j]? = some u ∧ RepV I q u
structure Own {α : Type} (base : Nat) (I : Imm) (w : World) (T : TypeId) (e : Nat) (f : α → List DD) (l : List α) (v : Value) : Prop where
  row : ∃ xs, w.ownsRow base T e v l.length xs ∧ Cells I e f l xs
  away : ∀ g, v.ownBlock = some g → ∀ a, a.block = g → I a = none
section
variable {α : Type} {base : Nat} {I J : Imm} {w w' : World} {T e : Nat} {f : α → List DD} {l : List α} {v : Value}
theorem Cells.mono {xs : List Value} (h : Cells I e f l xs) (hIJ : Ext I J) : Cells J e f l xs := fun i j x q hx hq => by
  obtain ⟨u, hu, hr⟩ := h i j x q hx hq
  exact ⟨u, hu, hr.mono hIJ⟩
theorem Own.nil (base : Nat) (I : Imm) (w : World) (T e : Nat) (f : α → List DD) : Own base I w T e f [] (.slice none 0 0) :=
  ⟨⟨[], World.ownsRow_nil w base T e, fun i j x q hx => by simp at hx⟩, fun g hg => by simp [Value.ownBlock] at hg⟩
theorem Own.form (h : Own base I w T e f l v) : ∃ A c, v = .slice A l.length c ∧ l.length ≤ c ∧ l.length ≤ 9223372036854775807 := by
  obtain ⟨xs, ⟨_, h2⟩, _⟩ := h.row
  rcases h2 with ⟨rfl, hn⟩ | ⟨g, cap, cur, rfl, _, _, hc, hm, _⟩
  · exact ⟨none, 0, by rw [hn], by omega, by omega⟩
  · exact ⟨_, cap, rfl, hc, by simp only [maxLen] at hm; omega⟩
theorem Own.lt (h : Own base I w T e f l v) : ∀ g, v.ownBlock = some g → base ≤ g ∧ g < w.heap.size := by
  obtain ⟨xs, h1, _⟩ := h.row
  exact h1.lt
def addI (I : Imm) (w : World) (v : Value) : Imm := fun a => match v.ownBlock with
  | some g => if a.block = g then w.cell? a else I a
  | none => I a
theorem Own.addGrow (h : Own base I w T e f l v) : Grow I (addI I w v) base := by
  constructor
  · intro a u hu
    unfold addI
    split
    · rename_i g hg
      split
      · rename_i ha; rw [h.away g hg a ha] at hu; cases hu
      · exact hu
    · exact hu
  · intro a u hu
    unfold addI at hu
    split at hu
    · rename_i g hg
      split at hu
      · rename_i ha; exact .inr (by rw [ha]; exact (h.lt g hg).1)
      · exact .inl hu
    · exact .inl hu
theorem Own.addFits (hf : Fits I w) : Fits (addI I w v) w := by
  intro a u hu
  unfold addI at hu
  split at hu
  · split at hu
    · exact hu
    · exact hf a u hu
  · exact hf a u hu
theorem Own.rep (h : Own base I w T e f l v) : RepV (addI I w v) (SL e f l) v := by
  obtain ⟨xs, ⟨hlen, h2⟩, hc⟩ := h.row
  have hext := h.addGrow.ext
  rcases h2 with ⟨rfl, hn⟩ | ⟨g, cap, cur, rfl, _, hg, hnc, hm, hsz, htake⟩
  · have : l = [] := List.eq_nil_of_length_eq_zero hn
    subst this
    exact .nil _ _
  · have hl : (l.map f).length = l.length := List.length_map ..
    have key : ∀ (i j : Nat) (r : List DD) (d : DD), (l.map f)[i]? = some r → r[j]? = some d → ∃ u, xs[i * e + j]? = some u ∧ RepV I d u := by
      intro i j r d hr hd
      rw [List.getElem?_map, Option.map_eq_some_iff] at hr
      obtain ⟨x, hx, rfl⟩ := hr
      exact hc i j x d hx hd
    have hcell : ∀ (k : Nat) (u : Value), xs[k]? = some u → w.cell? ((⟨g, 0, none⟩ : Addr).add k) = some u := by
      intro k u hu
      have hadd : (⟨g, 0, none⟩ : Addr).add k = ⟨g, k, none⟩ := by unfold Addr.add; split <;> simp_all
      rw [hadd, cell_of_row w g k cur T (0, 0) hg]
      rw [← htake, List.getElem?_take] at hu
      split at hu
      · simpa using hu
      · cases hu
    have hR := RepV.sl (I := addI I w (.slice (some ⟨g, 0, none⟩) l.length cap)) (e := e) (rows := l.map f) (ad := ⟨g, 0, none⟩) (c := cap) (by rw [hl]; exact hnc) (by simpa [maxLen] using hm) (fun i j => xs.getD (i * e + j) undef)
      (fun i j r d hr hd => by
        obtain ⟨u, hu, _⟩ := key i j r d hr hd
        have h3 := hcell _ u hu
        have hb : ((⟨g, 0, none⟩ : Addr).add (i * e + j)).block = g := by unfold Addr.add; split <;> rfl
        simp only [addI, Value.ownBlock, hb, if_true]
        rw [h3]; simp [List.getD, hu])
      (fun i j r d hr hd => by
        obtain ⟨u, hu, hrep⟩ := key i j r d hr hd
        simp only [List.getD, hu, Option.getD_some]
        exact hrep.mono hext)
    rw [hl] at hR
    exact hR
end
section
variable {P : Program} {n : Nat} {ds : List Deferred} {Q : Exit → Act → World → Prop} {E : Env} {a : Act} {w : World} {I : Imm} {o : Oper} {K : Act → World → Prop} {α : Type}
variable {base T e : Nat} {f : α → List DD} {l : List α} {v : Value}
theorem append_block (w : World) (t ty : TypeId) (i : TypeInfo) (z : Value) (ht : P.underlying t = some (.slice T)) (hi : P.info? T = some i) (hz : i.zero = some z) (xs : List Value) (m' : Nat) (hown : w.ownsRow base T i.size v m' xs)
    (ad : Addr) (m c : Nat) (news : List Value) (hl : news.length = m * i.size) (hnews : ∀ j u, news[j]? = some u → w.cell? (ad.add j) = some u) (h1 : ∀ u ∈ news, u.oneCell' = true)
    (h63 : m' + m ≤ 9223372036854775807) (hbytes : (m' + m) * i.bytes ≤ 140737488355328) {v' : Value} {w' : World}
    (hr : (Builtin.append_ #[t, t] ty #[v, .slice (some ad) m c]).run P w = .ok v' w') : v'.ownBlock = v.ownBlock ∨ v'.ownBlock = some w.heap.size := by
  rcases hown.2 with ⟨rfl, rfl⟩ | ⟨g, cap, cur, rfl, hbg, hg, hnc, hcm, hcs, htake⟩
  · by_cases hm : m = 0
    · subst hm
      have hn : news = [] := List.eq_nil_of_length_eq_zero (by simpa using hl)
      subst hn
      have : (Builtin.append_ #[t, t] ty #[.slice none 0 0, .slice (some ad) 0 c]).run P w = .ok (.slice none 0 0) w := by
        simp [Builtin.append_, run_underlying ht, sizeOf, typeInfo, hi, Builtin.lenOf, Builtin.firstCells, loadCells, loadCellsFrom]
      rw [this] at hr
      cases hr
      exact .inl rfl
    · have h2 := run_append_nil (P := P) w t ty T i z ht hi hz ad m c news hl hnews (by omega) (by omega) (by have hb := hbytes; simp only [Nat.zero_add] at hb; omega)
      rw [h2] at hr
      cases hr
      exact .inr rfl
  · by_cases hroom : m' + m ≤ cap
    · have hfit : m' * i.size + news.length ≤ cur.size := by rw [hl, hcs, ← Nat.add_mul]; exact Nat.mul_le_mul_right _ hroom
      have h2 := run_append_room (P := P) w t ty T i ht hi g m' cap cur hg ad m c news hl hnews h1 hroom hfit
      rw [h2] at hr
      cases hr
      exact .inl rfl
    · have holds : ∀ j u, xs[j]? = some u → w.cell? ((⟨g, 0, none⟩ : Addr).add j) = some u := hown.cells (g := g) rfl
      have h2 := run_append_grow (P := P) w t ty T i z ht hi hz ⟨g, 0, none⟩ m' cap xs hown.1 holds ad m c news hl hnews (by omega) (by omega) (growslice_fits (by omega) hbytes)
      rw [h2] at hr
      cases hr
      exact .inr rfl
def Src (I : Imm) (w : World) (e : Nat) (f : α → List DD) (ys : List α) (v : Value) : Prop :=
  ∃ A c, v = .slice A ys.length c ∧ (A = none → ys = []) ∧ ∀ ad, A = some ad → ∃ cs : List Value, cs.length = ys.length * e ∧ Cells I e f ys cs ∧ (∀ (j : Nat) (u : Value), cs[j]? = some u → w.cell? (ad.add j) = some u) ∧ ∀ u ∈ cs, u.oneCell' = true
def leafB : DD → Bool
  | .val v => v.oneCell'
  | .sl .. => true
  | _ => false
def LeafOk (e : Nat) (f : α → List DD) : Prop := ∀ x, (f x).length = e ∧ (f x).all leafB = true
theorem leaf_one {q : DD} {u : Value} (h : RepV I q u) (hq : leafB q = true) : u.oneCell' = true := by
  cases h with
  | val v => exact hq
  | agg => simp [leafB] at hq
  | tup => simp [leafB] at hq
  | nil => rfl
  | sl => rfl
theorem pos_of {e k m : Nat} (h : k < m * e) : k / e < m ∧ k % e < e ∧ k / e * e + k % e = k := by
  have he : 0 < e := by
    rcases Nat.eq_zero_or_pos e with h0 | h0
    · subst h0; simp at h
    · exact h0
  refine ⟨Nat.div_lt_of_lt_mul (by rw [Nat.mul_comm]; exact h), Nat.mod_lt _ he, ?_⟩
  rw [Nat.mul_comm]; exact Nat.div_add_mod k e
theorem Cells.one {ys : List α} {cs : List Value} (hlf : LeafOk e f) (h : Cells I e f ys cs) (hl : cs.length = ys.length * e) : ∀ u ∈ cs, u.oneCell' = true := by
  intro u hu
  obtain ⟨k, hk⟩ := List.mem_iff_getElem?.1 hu
  have hlt : k < ys.length * e := by rw [← hl]; exact (List.getElem?_eq_some_iff.1 hk).1
  obtain ⟨h1, h2, h3⟩ := pos_of hlt
  have hx : ys[k / e]? = some ys[k / e] := List.getElem?_eq_getElem h1
  obtain ⟨hfl, hfb⟩ := hlf ys[k / e]
  have hq : (f ys[k / e])[k % e]? = some ((f ys[k / e])[k % e]'(by omega)) := List.getElem?_eq_getElem (by omega)
  obtain ⟨u', hu', hr⟩ := h (k / e) (k % e) _ _ hx hq
  rw [h3, hk] at hu'
  cases hu'
  exact leaf_one hr (List.all_eq_true.1 hfb _ (List.getElem_mem _))
theorem Src.own {ys : List α} {v2 : Value} {base2 : Nat} {T2 : Nat} (hlf : LeafOk e f) (h : Own base2 I w T2 e f ys v2) : Src I w e f ys v2 := by
  obtain ⟨xs, hrow, hc⟩ := h.row
  have hone := hc.one hlf hrow.1
  have hcells := fun (g : Nat) (hg : v2.ownBlock = some g) => hrow.cells hg
  have hl := hrow.1
  rcases hrow.2 with ⟨rfl, hn⟩ | ⟨g, cap, cur, rfl, _, _, _, _, _⟩
  · exact ⟨none, 0, by rw [hn], (fun _ => List.eq_nil_of_length_eq_zero hn), (fun ad h => by cases h)⟩
  · refine ⟨_, cap, rfl, (fun h => by cases h), fun ad had => ?_⟩
    cases had
    exact ⟨xs, hl, hc, hcells g rfl, hone⟩
theorem Src.rep {ys : List α} {v2 : Value} (hlf : LeafOk e f) (hI : Fits I w) (h : RepV I (SL e f ys) v2) : Src I w e f ys v2 := by
  obtain ⟨A, c, rfl, hle, hm⟩ := SL_len h
  refine ⟨A, c, rfl, fun hA => ?_, fun ad hA => ?_⟩
  · subst hA
    cases ys with
    | nil => rfl
    | cons y ys =>
      obtain ⟨ad, h1, _⟩ := SL_nth h (j := 0) (x := y) rfl
      cases h1
  · subst hA
    have key : ∀ k, k < ys.length * e → ∃ u q, I (ad.add k) = some u ∧ RepV I q u ∧ leafB q = true ∧ ∀ (x : α), ys[k / e]? = some x → (f x)[k % e]? = some q := by
      intro k hk
      obtain ⟨h1, h2, h3⟩ := pos_of hk
      have hx : ys[k / e]? = some ys[k / e] := List.getElem?_eq_getElem h1
      obtain ⟨hfl, hfb⟩ := hlf ys[k / e]
      have hq : (f ys[k / e])[k % e]? = some ((f ys[k / e])[k % e]'(by omega)) := List.getElem?_eq_getElem (by omega)
      obtain ⟨ad', h4, h5⟩ := SL_nth h hx
      cases h4
      obtain ⟨u, hu, hr⟩ := h5 _ _ hq
      rw [addr_add_add, h3] at hu
      exact ⟨u, _, hu, hr, List.all_eq_true.1 hfb _ (List.getElem_mem _), fun x hx' => by rw [hx] at hx'; cases hx'; exact hq⟩
    have hg : ∀ k, k < ys.length * e → I (ad.add k) = some ((I (ad.add k)).getD undef) := fun k hk => by obtain ⟨u, q, hu, _⟩ := key k hk; rw [hu]; rfl
    have hget : ∀ (k : Nat) (u : Value), ((List.range (ys.length * e)).map fun k => (I (ad.add k)).getD undef)[k]? = some u → k < ys.length * e ∧ I (ad.add k) = some u := by
      intro k u hu
      rw [List.getElem?_map, Option.map_eq_some_iff] at hu
      obtain ⟨k', hk', rfl⟩ := hu
      have hlt : k < ys.length * e := by have := (List.getElem?_eq_some_iff.1 hk').1; simpa using this
      rw [List.getElem?_range hlt] at hk'
      cases hk'
      exact ⟨hlt, hg _ hlt⟩
    refine ⟨(List.range (ys.length * e)).map fun k => (I (ad.add k)).getD undef, by simp, ?_, fun j u hu => hI _ _ (hget j u hu).2, ?_⟩
    · intro i j x q hx hq
      have hi : i < ys.length := (List.getElem?_eq_some_iff.1 hx).1
      obtain ⟨hfl, _⟩ := hlf x
      have hj : j < e := by have := (List.getElem?_eq_some_iff.1 hq).1; omega
      have hk : i * e + j < ys.length * e := by
        have : (i + 1) * e ≤ ys.length * e := Nat.mul_le_mul_right _ hi
        rw [Nat.add_mul] at this; omega
      obtain ⟨ad', h4, h5⟩ := SL_nth h hx
      cases h4
      obtain ⟨u, hu, hr⟩ := h5 _ _ hq
      rw [addr_add_add] at hu
      refine ⟨u, ?_, hr⟩
      rw [List.getElem?_map, List.getElem?_range hk, Option.map_some, hu]; rfl
    · intro u hu
      obtain ⟨k, hk⟩ := List.mem_iff_getElem?.1 hu
      obtain ⟨hlt, hu'⟩ := hget k u hk
      obtain ⟨u', q, h6, h7, h8, _⟩ := key k hlt
      rw [h6] at hu'
      cases hu'
      exact leaf_one h7 h8
theorem cells_flat (hlf : LeafOk e f) : ∀ (ys : List α) (cs : List Value), All2 I (ys.flatMap f) cs → Cells I e f ys cs ∧ cs.length = ys.length * e
  | [], cs, h => by
    have := All2.nil_inv h
    subst this
    exact ⟨fun i j x q hx => by simp at hx, by simp⟩
  | y :: ys, cs, h => by
    obtain ⟨hfl, _⟩ := hlf y
    obtain ⟨hlen, hget⟩ := All2.back h
    have hlen' : cs.length = e + (ys.flatMap f).length := by rw [hlen, List.flatMap_cons, List.length_append, hfl]
    have hrest : All2 I (ys.flatMap f) (cs.drop e) := All2.of (by rw [List.length_drop]; omega) (fun i d u hd hu => by
      rw [List.getElem?_drop] at hu
      refine hget (e + i) d u ?_ hu
      rw [List.flatMap_cons, List.getElem?_append_right (by omega), hfl]
      rw [show e + i - e = i from by omega]; exact hd)
    obtain ⟨h1, h2⟩ := cells_flat hlf ys (cs.drop e) hrest
    have hflen : (ys.flatMap f).length = ys.length * e := by rw [List.length_drop] at h2; omega
    refine ⟨fun i j x q hx hq => ?_, by rw [hlen', hflen, List.length_cons, Nat.add_mul]; omega⟩
    cases i with
    | zero =>
      simp at hx; subst hx
      have hj : j < e := by have := (List.getElem?_eq_some_iff.1 hq).1; omega
      have hcs : cs[j]? = some (cs[j]'(by omega)) := List.getElem?_eq_getElem (by omega)
      refine ⟨_, by rw [Nat.zero_mul, Nat.zero_add]; exact hcs, hget j q _ ?_ hcs⟩
      rw [List.flatMap_cons, List.getElem?_append_left (by omega)]; exact hq
    | succ i =>
      obtain ⟨u, hu, hr⟩ := h1 i j x q (by simpa using hx) hq
      refine ⟨u, ?_, hr⟩
      rw [List.getElem?_drop] at hu
      rw [← hu, Nat.add_mul]; congr 1; omega
theorem Own.made (hlf : LeafOk e f) (hI : Fits I w) (hb : base ≤ w.heap.size) (ys : List α) (cs : Array Value) (h : All2 I (ys.flatMap f) cs.toList) (hm : ys.length ≤ 9223372036854775807) :
    Own base I (w.alloc (.cells cs T)) T e f ys (.slice (some ⟨w.heap.size, 0, none⟩) ys.length ys.length) := by
  obtain ⟨h1, h2⟩ := cells_flat hlf ys _ h
  refine ⟨⟨cs.toList, ⟨h2, .inr ⟨w.heap.size, ys.length, cs, rfl, hb, heap_alloc_new w _, Nat.le_refl _, by simpa [maxLen] using hm, by simpa using h2, ?_⟩⟩, h1⟩, fun g hg a ha => ?_⟩
  · rw [List.take_of_length_le (by omega)]
  · simp only [Value.ownBlock, Option.some.injEq] at hg
    cases hJ : I a with
    | none => rfl
    | some u => have := hI.lt hJ; omega
end
end Go.XW

namespace Go.XW
open Go.RowKit
section
variable {α : Type} {base : Nat} {I J : Imm} {w w' : World} {T e : Nat} {f : α → List DD} {l : List α} {v : Value}
def Apart (v u : Value) : Prop := ∀ g, v.ownBlock = some g → u.ownBlock ≠ some g
theorem Apart.symm {v u : Value} (h : Apart v u) : Apart u v := fun g hg e => h g e hg
end
def bt (s : ByteArray) (i : Int) : Int := if h : i.toNat < s.size then ((s[i.toNat]'h).toNat : Int) else 0
theorem bt_at (s : ByteArray) (i : Int) : ∀ h : i.toNat < s.size, ((s[i.toNat]'h).toNat : Int) = bt s i := fun h => by simp [bt, h]
def cutA (A : Option Addr) (c lo e : Nat) : Option Addr := if c = lo then A else A.map (·.add (lo * e))
theorem SL_cut {I : Imm} {α : Type} {e : Nat} {f : α → List DD} {l : List α} {A : Option Addr} {n c lo hi : Nat} (h : RepV I (SL e f l) (.slice A n c)) (h1 : lo ≤ hi) (h2 : hi ≤ l.length) :
    RepV I (SL e f ((l.take hi).drop lo)) (.slice (cutA A c lo e) ((l.take hi).drop lo).length (c - lo)) := by
  have := h.sl_cut lo hi h1 (by rw [List.length_map]; exact h2)
  rw [← List.map_take, ← List.map_drop] at this
  have hl : ((l.take hi).drop lo).length = hi - lo := by rw [List.length_drop, List.length_take]; omega
  rw [hl]; exact this
section
variable {P : Program} {n : Nat} {ds : List Deferred} {Q : Exit → Act → World → Prop} {E : Env} {a : Act} {w : World} {I : Imm} {o : Oper} {K : Act → World → Prop} {α : Type}
variable {base T e : Nat} {f : α → List DD} {l : List α} {v : Value}
theorem run_sliceBound' (w : World) {k : IntKind} {i : Int} {y : Nat} {code : BoundsCode} (h0 : 0 ≤ i) (h1 : i ≤ (y : Int)) : (Instr.sliceBound (.int k i) y code).run P w = .ok i.toNat w := by
  simp [Instr.sliceBound, asIntOf, h0, h1]
theorem run_sliceBounds' (w : World) (b : Bool) (len cap : Nat) (lov hiv : Option Value) (lo hi : Int) (hl : (lov = none ∧ lo = 0) ∨ ∃ k, lov = some (.int k lo)) (hh : (hiv = none ∧ hi = len) ∨ ∃ k, hiv = some (.int k hi))
    (h0 : 0 ≤ lo) (h1 : lo ≤ hi) (h2 : hi ≤ cap) : (Instr.sliceBounds b len cap lov hiv none).run P w = .ok (lo.toNat, hi.toNat, cap) w := by
  have h3 : (0 : Int) ≤ hi := by omega
  have h4 : lo ≤ (hi.toNat : Int) := by omega
  have hA : ∀ code, ∀ k, (Instr.sliceBound (.int k hi) cap code).run P w = .ok hi.toNat w := fun code k => run_sliceBound' w h3 h2
  have hB : ∀ code, ∀ k, (Instr.sliceBound (.int k lo) hi.toNat code).run P w = .ok lo.toNat w := fun code k => run_sliceBound' w h0 h4
  rcases hl with ⟨rfl, rfl⟩ | ⟨k, rfl⟩ <;> rcases hh with ⟨rfl, rfl⟩ | ⟨k', rfl⟩
  · simp [Instr.sliceBounds]
  · simp [Instr.sliceBounds, hA]
  · have hB' : ∀ code, ∀ k, (Instr.sliceBound (.int k lo) len code).run P w = .ok lo.toNat w := fun code k => run_sliceBound' w h0 (by omega)
    simp [Instr.sliceBounds, hB']
  · simp [Instr.sliceBounds, hA, hB]
end
end Go.XW

namespace Go.XW
open Go.RowKit
section
variable {base : Nat} {I J : Imm} {w w' : World} {b T : Nat} {vs : List Value}
end
theorem add_lit0 (b j : Nat) : (⟨b, 0, none⟩ : Addr).add j = ⟨b, j, none⟩ := by unfold Addr.add; split <;> simp_all
section
variable {P : Program} {n : Nat} {ds : List Deferred} {Q : Exit → Act → World → Prop} {E : Env} {a : Act} {w : World} {I : Imm} {o : Oper} {K : Act → World → Prop}
variable {base : Nat}
theorem setRow_grownBy (w : World) (g : Nat) (cs : Array Value) : w.grownBy (w.setRow g cs) (some g) :=
  ⟨rfl, rfl, rfl, by simp, fun k _ hk => setRow_other w g k cs (fun e => hk (by rw [e]))⟩
end
section
variable {P : Program} {n : Nat} {ds : List Deferred} {E : Env} {a : Act} {w : World} {I : Imm}
end
end Go.XW
namespace Go.XW
open Go.RowKit
section
variable {base : Nat} {I J IR : Imm} {w w' : World} {b T : Nat} {vs : List Value}
def Rd {α : Type} (I IR : Imm) (e : Nat) (f : α → List DD) (l : List α) (A : Option Addr) (n : Nat) : Prop :=
  ∀ (d : α) (i : Int), 0 ≤ i → i < n → ∃ ad, A = some ad ∧ ∀ (j : Nat) (q : DD), (f (l.getD i.toNat d))[j]? = some q → ∃ u, IR ((ad.add (i.toNat * e)).add j) = some u ∧ RepV I q u
end
section
variable {P : Program} {n : Nat} {ds : List Deferred} {ops : Array Oper} {Q : Exit → Act → World → Prop} {E : Env} {a : Act} {w : World} {I : Imm} {o : Oper} {K : Act → World → Prop} {S : World → Prop}
variable {base : Nat}
end
end Go.XW
namespace Go.XW
open Go.RowKit
section
variable {α : Type} {base b' : Nat} {I J : Imm} {w w' : World} {TB e : Nat} {f : α → List DD} {l : List α} {v : Value}
theorem Own.lower (h : Own base I w TB e f l v) (hb : b' ≤ base) : Own b' I w TB e f l v := by
  obtain ⟨xs, ⟨h1, h2⟩, h3⟩ := h.row
  refine ⟨⟨xs, ⟨h1, ?_⟩, h3⟩, h.away⟩
  rcases h2 with h2 | ⟨g, cap, cur, hv, hbg, r⟩
  · exact .inl h2
  · exact .inr ⟨g, cap, cur, hv, by omega, r⟩
end
end Go.XW
namespace Go.XW
open Go.RowKit
section
variable {α : Type} {base : Nat} {I J IR : Imm} {w w' : World} {TB e : Nat} {f : α → List DD} {l : List α} {A : Option Addr} {n c : Nat} {ad : Addr}
theorem Own.addr (h : Own base I w TB e f l (.slice A n c)) (i : Int) (h0 : 0 ≤ i) (h1 : i < n) : ∃ ad, A = some ad := by
  obtain ⟨xs, hrow, _⟩ := h.row
  rcases hrow.2 with ⟨hv, hn⟩ | ⟨g, cap, cur, hv, _⟩
  · cases hv; omega
  · cases hv; exact ⟨_, rfl⟩
end
section
variable {P : Program} {n : Nat} {ds : List Deferred} {ops : Array Oper} {Q : Exit → Act → World → Prop} {E : Env} {a : Act} {w : World} {I IR : Imm} {o : Oper} {v : Value}
end
end Go.XW
namespace Go.XW
theorem add_0 (a : Addr) : a.add 0 = a := by unfold Addr.add; simp
end Go.XW
namespace Go.XW
section
variable {P : Program} {ops : Array Oper} {Q : Exit → Act → World → Prop} {a : Act} {w : World} {I : Imm}
end
end Go.XW
namespace Go.XW
section
variable {P : Program} {ops : Array Oper} {Q : Exit → Act → World → Prop} {a : Act} {w w0 : World} {I J IR : Imm}
end
end Go.XW
namespace Go.XW
open Go.RowKit
section
variable {P : Program} {n : Nat} {ds : List Deferred} {Q : Exit → Act → World → Prop} {E : Env} {a : Act} {w : World} {I : Imm} {o : Oper} {K : Act → World → Prop} {base : Nat}
end
end Go.XW
namespace Go.XW
def lt {α ρ : Type} (x : α) (f : α → Option ρ) : Option ρ := f x
end Go.XW

namespace Go.EV
open Go Go.RowKit
open Go.XW (Imm Fits DD RepV SL LeafOk leafB)
set_option linter.unusedVariables false
set_option linter.unusedSimpArgs false
inductive Tree where
  | mk (sym prod : Int) (kids : List Tree)
  deriving Inhabited
def Tree.sym : Tree → Int
  | .mk s _ _ => s
def Tree.prod : Tree → Int
  | .mk _ p _ => p
def Tree.kids : Tree → List Tree
  | .mk _ _ k => k
inductive Ty where
  | int (k : IntKind)
  | bool
  | str
  | flt (k : FloatKind)
  | sl (t : Ty)
  | pr (a b : Ty)
  | tree
  deriving DecidableEq
@[reducible] def Ty.den : Ty → Type
  | .int _ => Int
  | .bool => Bool
  | .str => ByteArray
  | .flt _ => Nat
  | .sl t => List t.den
  | .pr a b => a.den × b.den
  | .tree => Tree
def Ty.cells : Ty → Nat
  | .pr a b => a.cells + b.cells
  | .tree => 3
  | _ => 1
def Ty.dflt : (t : Ty) → t.den
  | .int _ => (0 : Int)
  | .bool => false
  | .str => ⟨#[]⟩
  | .flt _ => (0 : Nat)
  | .sl _ => []
  | .pr a b => (a.dflt, b.dflt)
  | .tree => .mk 0 0 []
mutual
def Tree.dd : Tree → List DD
  | .mk s p k => [.val (.int .i64 s), .val (.int .i64 p), .sl 3 (Tree.dds k)]
def Tree.dds : List Tree → List (List DD)
  | [] => []
  | x :: r => Tree.dd x :: Tree.dds r
end
theorem Tree.dds_map : ∀ l : List Tree, Tree.dds l = l.map Tree.dd
  | [] => by simp [Tree.dds]
  | x :: r => by simp [Tree.dds, Tree.dds_map r]
theorem Tree.dd_eq (t : Tree) : t.dd = [.val (.int .i64 t.sym), .val (.int .i64 t.prod), SL 3 Tree.dd t.kids] := by
  cases t
  simp [Tree.dd, Tree.sym, Tree.prod, Tree.kids, Tree.dds_map, SL]
def Ty.dd : (t : Ty) → t.den → List DD
  | .int k, x => [.val (.int k x)]
  | .bool, x => [.val (.bool x)]
  | .str, x => [.val (.string x)]
  | .flt k, x => [.val (.float k x)]
  | .sl t, l => [SL t.cells t.dd l]
  | .pr a b, x => a.dd x.1 ++ b.dd x.2
  | .tree, x => x.dd
theorem Ty.leafOk : ∀ t : Ty, LeafOk t.cells t.dd
  | .int k => fun x => ⟨rfl, rfl⟩
  | .bool => fun x => ⟨rfl, rfl⟩
  | .str => fun x => ⟨rfl, rfl⟩
  | .flt k => fun x => ⟨rfl, rfl⟩
  | .sl t => fun x => ⟨rfl, rfl⟩
  | .pr a b => fun x => by
    obtain ⟨h1, h2⟩ := a.leafOk x.1
    obtain ⟨h3, h4⟩ := b.leafOk x.2
    refine ⟨?_, ?_⟩
    · show (a.dd x.1 ++ b.dd x.2).length = a.cells + b.cells
      rw [List.length_append, h1, h3]
    · show (a.dd x.1 ++ b.dd x.2).all leafB = true
      rw [List.all_append, h2, h4]; rfl
  | .tree => fun x => by
    show x.dd.length = 3 ∧ x.dd.all leafB = true
    rw [Tree.dd_eq]
    exact ⟨rfl, rfl⟩
theorem Ty.cells_pos : ∀ t : Ty, 0 < t.cells
  | .int k => Nat.zero_lt_one
  | .bool => Nat.zero_lt_one
  | .str => Nat.zero_lt_one
  | .flt k => Nat.zero_lt_one
  | .sl t => Nat.zero_lt_one
  | .pr a b => by have := a.cells_pos; show 0 < a.cells + b.cells; omega
  | .tree => by show 0 < 3; omega
inductive SA where
  | int (k : IntKind) (n : Int)
  | bool (b : Bool)
  | str (s : ByteArray)
  | flt (k : FloatKind) (n : Nat)
  /-- a slice that is only read -/
  | dsl (t : Ty) (l : List t.den)
  /-- a pointer into a datum that is only read -/
  | dp (t : Ty) (x : t.den) (off : Nat)
  /-- a row of the call's own -/
  | rs (r : Nat)
  /-- a pointer to a cell of such a row: its element i, there j -/
  | ep (r e i j : Nat)
structure Sx where
  imm : Imm
  row : Nat → Option Value
inductive DenS (S : Sx) : SA → Value → Prop
  | int (k : IntKind) (n : Int) : DenS S (.int k n) (.int k n)
  | bool (b : Bool) : DenS S (.bool b) (.bool b)
  | str (s : ByteArray) : DenS S (.str s) (.string s)
  | flt (k : FloatKind) (n : Nat) : DenS S (.flt k n) (.float k n)
  | dsl {t : Ty} {l : List t.den} {v : Value} (h : RepV S.imm (SL t.cells t.dd l) v) : DenS S (.dsl t l) v
  | dp {t : Ty} {x : t.den} {off : Nat} {ad : Addr} (h : ∀ (j : Nat) (q : DD), (t.dd x)[j]? = some q → ∃ u, S.imm (ad.add j) = some u ∧ RepV S.imm q u) : DenS S (.dp t x off) (.pointer (some (ad.add off)))
  | rs {r : Nat} {A : Option Addr} {n c : Nat} (h : S.row r = some (.slice A n c)) : DenS S (.rs r) (.slice A n c)
  | ep {r e i j n c : Nat} {ad : Addr} (h : S.row r = some (.slice (some ad) n c)) : DenS S (.ep r e i j) (.pointer (some (ad.add (i * e + j))))
structure SxExt (S S' : Sx) : Prop where
  imm : XW.Ext S.imm S'.imm
  row : ∀ r v, S.row r = some v → S'.row r = some v
theorem SxExt.refl (S : Sx) : SxExt S S := ⟨XW.Ext.refl _, fun _ _ h => h⟩
theorem SxExt.trans {A B C : Sx} (h : SxExt A B) (k : SxExt B C) : SxExt A C := ⟨h.imm.trans k.imm, fun r v x => k.row r v (h.row r v x)⟩
theorem DenS.mono {S S' : Sx} (hE : SxExt S S') {s : SA} {v : Value} (h : DenS S s v) : DenS S' s v := by
  cases h with
  | int k n => exact .int k n
  | bool b => exact .bool b
  | str s => exact .str s
  | flt k n => exact .flt k n
  | dsl h => exact .dsl (h.mono hE.imm)
  | dp h =>
    refine .dp fun j q hq => ?_
    obtain ⟨u, h1, h2⟩ := h j q hq
    exact ⟨u, hE.imm _ _ h1, h2.mono hE.imm⟩
  | rs h => exact .rs (hE.row _ _ h)
  | ep h => exact .ep (hE.row _ _ h)
theorem RepV.one {I : Imm} {e : Nat} {l : List (List DD)} {v : Value} (h : RepV I (.sl e l) v) : ∃ A n c, v = .slice A n c := by
  cases h with
  | nil A c => exact ⟨A, 0, c, rfl⟩
  | sl => exact ⟨_, _, _, rfl⟩
theorem DenS.one {S : Sx} {s : SA} {v : Value} (h : DenS S s v) : v.oneCell' = true := by
  cases h with
  | dsl h => obtain ⟨A, n, c, rfl⟩ := RepV.one h; rfl
  | _ => rfl
end Go.EV
