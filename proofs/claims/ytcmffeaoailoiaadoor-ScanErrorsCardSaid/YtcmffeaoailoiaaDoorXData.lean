/- Of no program: data in memory that is only read: I, the cells that stay as they are; what a value says of them; and the laws of the operations that read them. -/
import Derived.Test.YtcmffeaoailoiaaDoorXCore
import Derived.Laws.Entries
import Derived.Laws.Cells
import Derived.Laws.Slices
import Derived.WalkKit
namespace Go.XW
open Go.RowKit

abbrev Imm := Addr → Option Value
/-- What I says of cells holds in the world. -/
def Fits (I : Imm) (w : World) : Prop := ∀ a v, I a = some v → w.cell? a = some v
/-- J says all that I says. -/
def Ext (I J : Imm) : Prop := ∀ a v, I a = some v → J a = some v
theorem Ext.refl (I : Imm) : Ext I I := fun _ _ h => h
theorem Ext.trans {I J K : Imm} (h : Ext I J) (k : Ext J K) : Ext I K := fun a v x => k a v (h a v x)
theorem Fits.lt {I : Imm} {w : World} (h : Fits I w) {a : Addr} {v : Value} (hv : I a = some v) : a.block < w.heap.size := World.block_lt_of_cell? w a (h a v hv)
theorem Fits.below {I : Imm} {w w' : World} (h : Fits I w) (hb : Below w.heap.size w w') : Fits I w' := fun a v hv => (hb.cell (h.lt hv)).trans (h a v hv)
theorem Fits.drew {I : Imm} {w : World} (h : Fits I w) : Fits I w.drew := h
theorem Fits.drewN {I : Imm} {w : World} (h : Fits I w) (n : Nat) : Fits I (w.drewN n) := h
/-- What was made since w is told from now on, too. -/
def keepI (I : Imm) (w w' : World) : Imm := fun a => if a.block < w.heap.size then I a else w'.cell? a
theorem Ext.keepI {I : Imm} {w : World} (h : Fits I w) (w' : World) : Ext I (keepI I w w') := fun a v hv => by unfold XW.keepI; rw [if_pos (h.lt hv)]; exact hv
theorem Fits.keepI {I : Imm} {w w' : World} (h : Fits I w) (hb : Below w.heap.size w w') : Fits (keepI I w w') w' := fun a v hv => by
  unfold XW.keepI at hv
  split at hv
  · rename_i hlt; exact h.below hb a v hv
  · exact hv

inductive DD where
  | val (v : Value)
  | agg (l : List DD)
  | tup (l : List DD)
  | sl (e : Nat) (rows : List (List DD))

inductive RepV (I : Imm) : DD → Value → Prop
  | val (v : Value) : RepV I (.val v) v
  | agg {l : List DD} {vs : List Value} (hl : vs.length = l.length) (h : ∀ (i : Nat) (d : DD) (u : Value), l[i]? = some d → vs[i]? = some u → RepV I d u) : RepV I (.agg l) (.agg vs.toArray)
  | nil {e : Nat} (A : Option Addr) (c : Nat) : RepV I (.sl e []) (.slice A 0 c)
  | tup {l : List DD} {vs : List Value} (hl : vs.length = l.length) (h : ∀ (i : Nat) (d : DD) (u : Value), l[i]? = some d → vs[i]? = some u → RepV I d u) : RepV I (.tup l) (.tuple vs.toArray)
  | sl {e : Nat} {rows : List (List DD)} {ad : Addr} {c : Nat} (hc : rows.length ≤ c) (hm : c ≤ 9223372036854775807) (u : Nat → Nat → Value)
      (hcell : ∀ (i j : Nat) (r : List DD) (d : DD), rows[i]? = some r → r[j]? = some d → I (ad.add (i * e + j)) = some (u i j))
      (hrep : ∀ (i j : Nat) (r : List DD) (d : DD), rows[i]? = some r → r[j]? = some d → RepV I d (u i j)) : RepV I (.sl e rows) (.slice (some ad) rows.length c)

section
variable {I J : Imm} {d : DD} {v : Value}
theorem RepV.mono (h : RepV I d v) (hIJ : Ext I J) : RepV J d v := by
  induction h with
  | val v => exact .val v
  | agg hl _ ih => exact .agg hl ih
  | nil A c => exact .nil A c
  | tup hl _ ih => exact .tup hl ih
  | sl hc hm u hcell _ ih => exact .sl hc hm u (fun i j r d hr hd => hIJ _ _ (hcell i j r d hr hd)) ih
theorem RepV.val_inv {x : Value} (h : RepV I (.val x) v) : v = x := by cases h; rfl
theorem RepV.agg_inv {l : List DD} (h : RepV I (.agg l) v) : ∃ vs : List Value, v = .agg vs.toArray ∧ vs.length = l.length ∧ ∀ (i : Nat) (d : DD) (u : Value), l[i]? = some d → vs[i]? = some u → RepV I d u := by
  cases h with
  | agg hl h => exact ⟨_, rfl, hl, h⟩
theorem RepV.tup_inv {l : List DD} (h : RepV I (.tup l) v) : ∃ vs : List Value, v = .tuple vs.toArray ∧ vs.length = l.length ∧ ∀ (i : Nat) (d : DD) (u : Value), l[i]? = some d → vs[i]? = some u → RepV I d u := by
  cases h with
  | tup hl h => exact ⟨_, rfl, hl, h⟩
/-- A slice that is read: how long it is; it may be cut. -/
theorem RepV.sl_inv {e : Nat} {rows : List (List DD)} (h : RepV I (.sl e rows) v) : ∃ A c, v = .slice A rows.length c ∧ rows.length ≤ c ∧ rows.length ≤ 9223372036854775807 := by
  cases h with
  | nil A c => exact ⟨A, c, rfl, Nat.zero_le _, Nat.zero_le _⟩
  | sl hc hm u hcell hrep => exact ⟨_, _, rfl, hc, Nat.le_trans hc hm⟩
/-- Its element number i. -/
theorem RepV.sl_at {e n c : Nat} {A : Option Addr} {rows : List (List DD)} (h : RepV I (.sl e rows) (.slice A n c)) (i : Nat) (r : List DD) (hr : rows[i]? = some r) :
    ∃ ad, A = some ad ∧ ∀ (j : Nat) (d : DD), r[j]? = some d → ∃ u, I (ad.add (i * e + j)) = some u ∧ RepV I d u := by
  cases h with
  | nil => simp at hr
  | sl hc hm u hcell hrep => exact ⟨_, rfl, fun j d hd => ⟨u i j, hcell i j r d hr hd, hrep i j r d hr hd⟩⟩
theorem RepV.sl_len {e n c : Nat} {A : Option Addr} {rows : List (List DD)} (h : RepV I (.sl e rows) (.slice A n c)) : n = rows.length ∧ n ≤ c := by
  cases h with
  | nil => exact ⟨rfl, Nat.zero_le _⟩
  | sl hc hm u hcell hrep => exact ⟨rfl, hc⟩
theorem addr_add_add (a : Addr) (x y : Nat) : (a.add x).add y = a.add (x + y) := by
  unfold Addr.add
  by_cases hx : x = 0
  · subst hx; simp
  · by_cases hy : y = 0
    · subst hy; simp
    · rw [if_neg hx, if_neg hy, if_neg (by omega)]
      simp [Nat.add_assoc]
/-- A cut. -/
theorem RepV.sl_cut {e n c : Nat} {A : Option Addr} {rows : List (List DD)} (h : RepV I (.sl e rows) (.slice A n c)) (lo hi : Nat) (h1 : lo ≤ hi) (h2 : hi ≤ rows.length) :
    RepV I (.sl e ((rows.take hi).drop lo)) (.slice (if c = lo then A else A.map (·.add (lo * e))) (hi - lo) (c - lo)) := by
  cases h with
  | nil =>
    obtain rfl : hi = 0 := by simpa using h2
    obtain rfl : lo = 0 := by omega
    simp only [List.take_nil, List.drop_nil, Nat.sub_self]
    exact .nil _ _
  | @sl _ _ ad c hc hm u hcell hrep =>
    have hl : ((rows.take hi).drop lo).length = hi - lo := by rw [List.length_drop, List.length_take]; omega
    by_cases hcl : c = lo
    · rw [if_pos hcl]
      have e0 : (rows.take hi).drop lo = [] := List.eq_nil_of_length_eq_zero (by omega)
      have e1 : hi - lo = 0 := by omega
      rw [e0, e1]
      exact .nil _ _
    · rw [if_neg hcl, ← hl]
      have hget : ∀ (i : Nat) (r : List DD), ((rows.take hi).drop lo)[i]? = some r → rows[lo + i]? = some r := fun i r hr => by
        rw [List.getElem?_drop, List.getElem?_take] at hr
        split at hr
        · exact hr
        · cases hr
      refine .sl (by omega) (by omega) (fun i j => u (lo + i) j) (fun i j r d hr hd => ?_) (fun i j r d hr hd => hrep (lo + i) j r d (hget i r hr) hd)
      have := hcell (lo + i) j r d (hget i r hr) hd
      rw [addr_add_add]
      have e2 : lo * e + (i * e + j) = (lo + i) * e + j := by rw [Nat.add_mul, Nat.add_assoc]
      rw [e2]; exact this
end

/-! ### Operations that yield a value in every world that fits -/
section
variable {P : Program} {n : Nat} {ds : List Deferred} {E : Env} {a : Act} {I : Imm} {o : Oper}
def Yld (P : Program) (I : Imm) (o : Oper) (a : Act) (v : Value) : Prop := ∀ w, Fits I w → (execOp a.eval o).run P w = .ok (.value v) w

theorem run_sizeOf' {t : TypeId} {e : Nat} (hs : (P.info? t).map (·.size) = some e) (w : World) : (sizeOf t).run P w = .ok e w := by
  cases hi : P.info? t with
  | none => rw [hi] at hs; simp at hs
  | some i => rw [hi] at hs; simp at hs; simp [sizeOf, typeInfo, hi, hs]
theorem y_indexAddr (h : Sat n ds E a) {t el : TypeId} {x i : Operand} {A : Option Addr} {ad : Addr} {len c e : Nat} {k : IntKind} {m : Int} (hA : A = some ad) (ho : o.op = .indexAddr t x i) (hx : ev E x = some (.slice A len c)) (hi : ev E i = some (.int k m))
    (ht : P.underlying t = some (.slice el)) (hs : (P.info? el).map (·.size) = some e) (h0 : 0 ≤ m) (h1 : m < len) : Yld P I o a (.pointer (some (ad.add (m.toNat * e)))) := fun w _ => by
  subst hA
  simp only [execOp, ho, h.eval hx, h.eval hi, Instr.indexAt, asIntOf]
  simp [run_underlying ht, h0, h1, run_sizeOf' hs]
theorem y_index_str (h : Sat n ds E a) {t : TypeId} {x i : Operand} {s : ByteArray} {k : IntKind} {m : Int} (ho : o.op = .index t x i) (hx : ev E x = some (.string s)) (hi : ev E i = some (.int k m))
    (ht : P.underlying t = some .string) (h0 : 0 ≤ m) (h1 : m < s.size) (v : Int) (hv : ∀ hh : m.toNat < s.size, ((s[m.toNat]'hh).toNat : Int) = v) : Yld P I o a (.int .u8 v) := fun w _ => by
  have hlt : m.toNat < s.size := by omega
  have hg : s[m.toNat]? = some (s[m.toNat]'hlt) := getElem?_pos s _ hlt
  simp only [execOp, ho, h.eval hx, h.eval hi, Instr.index, asIntOf]
  simp [run_underlying ht, h0, hg, ← hv hlt]
theorem y_fieldAddr (h : Sat n ds E a) {t : TypeId} {x : Operand} {f : Nat} {ad : Addr} {fs : Array Field} {fd : Field} (ho : o.op = .fieldAddr t x f) (hx : ev E x = some (.pointer (some ad)))
    (ht : P.underlying t = some (.struct fs)) (hf : fs[f]? = some fd) {e : Nat} (hs : (P.info? fd.type).map (·.size) = some e) (he : e ≠ 0) (off : Nat) (hoff : fd.offset = off) : Yld P I o a (.pointer (some (ad.add off))) := fun w _ => by
  subst hoff
  simp only [execOp, ho, h.eval hx, Instr.fieldAt, Instr.sureAddr]
  simp [run_underlying ht, hf, fieldPlace, run_sizeOf' hs, he]
/-- A cell is read. -/
theorem y_load1 (h : Sat n ds E a) {t : TypeId} {x : Operand} {ad : Addr} {v : Value} {d : TypeDesc} (ho : o.op = .load t x) (hx : ev E x = some (.pointer (some ad)))
    (ht : P.underlying t = some d) (hd : (match d with | .struct _ | .array .. => true | _ => false) = false) (hc : I ad = some v) : Yld P I o a v := fun w hw => by
  have := hw ad v hc
  simp only [execOp, ho, h.eval hx, Instr.loadAt, Instr.sureAddr, loadVar, isAgg]
  cases d <;> simp at hd <;> simp [run_underlying ht, load, Sem.run, this]
/-- A struct is read. -/
theorem y_loadn (h : Sat n ds E a) {t : TypeId} {x : Operand} {ad : Addr} {vs : List Value} {d : TypeDesc} (ho : o.op = .load t x) (hx : ev E x = some (.pointer (some ad)))
    (ht : P.underlying t = some d) (hd : (match d with | .struct _ | .array .. => true | _ => false) = true) (hs : (P.info? t).map (·.size) = some vs.length)
    (hc : ∀ (j : Nat) (v : Value), vs[j]? = some v → I (ad.add j) = some v) : Yld P I o a (.agg vs.toArray) := fun w hw => by
  have hl := run_loadCells_list (P := P) w ad vs (fun j v hj => hw _ v (hc j v hj))
  simp only [execOp, ho, h.eval hx, Instr.loadAt, Instr.sureAddr, loadVar, isAgg]
  cases d <;> simp at hd <;> simp [run_underlying ht, run_sizeOf' hs, hl]
theorem y_div (h : Sat n ds E a) {b : BinOp} {t t' : TypeId} {x y : Operand} {k : IntKind} {p q : Int} (r : Int) (ho : o.op = .binOp b t x y t') (hx : ev E x = some (.int k p)) (hy : ev E y = some (.int k q)) (hq : q ≠ 0)
    (hb : (b = .quo ∧ r = k.wrap (p.tdiv q)) ∨ (b = .rem ∧ r = p.tmod q)) : Yld P I o a (.int k r) := fun w _ => by
  simp only [execOp, ho, h.eval hx, h.eval hy]
  rcases hb with ⟨rfl, rfl⟩ | ⟨rfl, rfl⟩ <;> simp [eqGuard, binOp, Op.intDiv, hq]
theorem y_shift (h : Sat n ds E a) {b : BinOp} {t t' : TypeId} {x y : Operand} {k k' : IntKind} {p q : Int} (r : Int) (ho : o.op = .binOp b t x y t') (hx : ev E x = some (.int k p)) (hy : ev E y = some (.int k' q)) (hq : 0 ≤ q)
    (hb : (b = .shl ∧ r = k.wrap (p * 2 ^ (min q.toNat k.bits))) ∨ (b = .shr ∧ r = p.fdiv (2 ^ (min q.toNat k.bits)))) : Yld P I o a (.int k r) := fun w _ => by
  have hn : ¬ q < 0 := by omega
  simp only [execOp, ho, h.eval hx, h.eval hy]
  rcases hb with ⟨rfl, rfl⟩ | ⟨rfl, rfl⟩ <;> simp [eqGuard, binOp, Op.shift, hn]
theorem y_concat (h : Sat n ds E a) {t t' : TypeId} {x y : Operand} {p q : ByteArray} (ho : o.op = .binOp .add t x y t') (hx : ev E x = some (.string p)) (hy : ev E y = some (.string q)) (hq : p.size + q.size ≤ 9223372036854775807) : Yld P I o a (.string (p ++ q)) := fun w _ => by
  have hn : ¬ (((p.size + q.size : Nat) : Int) > IntKind.i64.max) := by
    have : IntKind.i64.max = 9223372036854775807 := by decide
    rw [this]; omega
  simp only [execOp, ho, h.eval hx, h.eval hy]
  simp [eqGuard, binOp, Op.stringOp] at hn ⊢
  exact hn
end

section
variable {P : Program} {n : Nat} {ds : List Deferred} {ops : Array Oper} {Q : Exit → Act → World → Prop} {E E' : Env} {a : Act} {w : World} {I : Imm}
theorem L_yld (h : Sat n ds E a) (i : Nat) {r : List Nat} {o : Oper} (v : Value) (hi : ops[i]? = some o) (hw : wantE ops E o = some true) (hf : Fits I w) (hy : Yld P I o a v) (hd : dstE n E o.dst v = some E')
    (hK : ∀ a', Sat n ds E' a' → wpOps P ops Q r a' w) : wpOps P ops Q (i :: r) a w := by
  refine L_op h hi hw ?_
  unfold Oper.wp
  rw [hy w hf]
  exact hK _ (h.dst hd)
end
end Go.XW
