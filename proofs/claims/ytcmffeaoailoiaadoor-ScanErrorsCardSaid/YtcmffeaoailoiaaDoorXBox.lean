/- Of no program: variables in memory: a block of a call's own with known cells; made, read, written; told as read for good; a row of one's own written at a place. -/
import Derived.Test.YtcmffeaoailoiaaDoorXCtl
namespace Go.XW
open Go.RowKit

structure Box (base : Nat) (I : Imm) (w : World) (b T : Nat) (vs : List Value) : Prop where
  heap : w.heap[b]? = some (.cells vs.toArray T (0, 0))
  ge : base ≤ b
  away : ∀ a, a.block = b → I a = none
abbrev BV (b : Nat) : Value := .slice (some ⟨b, 0, none⟩) 0 0
section
variable {base : Nat} {I J : Imm} {w w' : World} {b T : Nat} {vs : List Value}
theorem Box.lt (h : Box base I w b T vs) : b < w.heap.size := (Array.getElem?_eq_some_iff.1 h.heap).1
theorem Box.sizes (h : Box base I w b T vs) : ∀ g, (BV b).ownBlock = some g → g < w.heap.size := fun g hg => by
  simp only [Value.ownBlock, Option.some.injEq] at hg
  have := h.lt
  omega
theorem Box.below (h : Box base I w b T vs) (hb : Below w.heap.size w w') : Box base I w' b T vs := ⟨(hb.block b h.lt).trans h.heap, h.ge, h.away⟩
theorem Box.grow {n : Nat} (h : Box base I w b T vs) (hg : Grow I J n) (hn : w.heap.size ≤ n) : Box base J w b T vs :=
  ⟨h.heap, h.ge, fun a ha => by
    cases hJ : J a with
    | none => rfl
    | some u =>
      rcases hg.new a u hJ with h3 | h3
      · rw [h.away a ha] at h3; cases h3
      · have := h.lt; omega⟩
theorem Box.other {row : Option Nat} (h : Box base I w b T vs) (hg : w.grownBy w' row) (hne : ∀ g, (BV b).ownBlock = some g → row ≠ some g) : Box base I w' b T vs :=
  ⟨(hg.block b h.lt (fun e => hne b rfl e.symm)).trans h.heap, h.ge, h.away⟩
theorem Box.apart_new (h : Box base I w b T vs) {k n c : Nat} {b' : Nat} (hk : w.heap.size ≤ b') : Apart (BV b) (.slice (some ⟨b', k, none⟩) n c) := fun g hg e => by
  have := h.lt
  simp only [Value.ownBlock, Option.some.injEq] at hg e
  omega
set_option linter.unusedVariables false in
theorem Box.addOther {b2 T2 : Nat} {us : List Value} {α : Type} {T1 e : Nat} {f : α → List DD} {l : List α} {v : Value} (h2 : Box base I w b2 T2 us) (h : Own base I w T1 e f l v) (hap : Apart v (BV b2)) : Box base (addI I w v) w b2 T2 us :=
  ⟨h2.heap, h2.ge, fun a ha => by
    unfold addI
    split
    · rename_i g hg
      split
      · rename_i ha'
        exact absurd (by simp [Value.ownBlock]; omega) (hap g hg)
      · exact h2.away a ha
    · exact h2.away a ha⟩
theorem Box.apart_of {α : Type} {base2 T2 e : Nat} {f : α → List DD} {l : List α} {u : Value} {w2 : World} (h : Box base I w b T vs) (h2 : Own base2 J w2 T2 e f l u) (hb : w.heap.size ≤ base2) : Apart (BV b) u := fun g hg e => by
  have := h.lt
  have := (h2.lt g e).1
  simp only [Value.ownBlock, Option.some.injEq] at hg
  omega
theorem Box.cell (h : Box base I w b T vs) {j : Nat} {v : Value} (hv : vs[j]? = some v) : w.cell? ⟨b, j, none⟩ = some v := by
  rw [cell_of_row w b j vs.toArray T (0, 0) h.heap]; simpa using hv
/-- It is told as read from now on. -/
theorem Box.shut (h : Box base I w b T vs) (hF : Fits I w) : ∃ J, Grow I J base ∧ Fits J w ∧ ∀ (j : Nat) (v : Value), vs[j]? = some v → J ⟨b, j, none⟩ = some v := by
  refine ⟨addI I w (BV b), ⟨fun a u hu => ?_, fun a u hu => ?_⟩, Own.addFits hF, fun j v hv => ?_⟩
  · unfold addI
    simp only [Value.ownBlock]
    split
    · rename_i ha; rw [h.away a ha] at hu; cases hu
    · exact hu
  · unfold addI at hu
    simp only [Value.ownBlock] at hu
    split at hu
    · rename_i ha; exact .inr (by rw [ha]; exact h.ge)
    · exact .inl hu
  · simp only [addI, Value.ownBlock, if_true]
    exact h.cell hv
/-- For others: what is told besides. -/
theorem Box.shutKeep {b2 T2 : Nat} {us : List Value} (h2 : Box base I w b2 T2 us) (_ : Grow I J base) (hJ : ∀ a v, J a = some v → a.block ≠ b2) : Box base J w b2 T2 us :=
  ⟨h2.heap, h2.ge, fun a ha => by
    cases hj : J a with
    | none => rfl
    | some u => exact absurd ha (hJ a u hj)⟩
/-- What those blocks hold now. -/
def addIv (I : Imm) (w : World) (vs : List Value) : Imm := fun a => if vs.any (fun v => v.ownBlock == some a.block) then w.cell? a else I a
theorem addIv_fits {vs : List Value} (hF : Fits I w) : Fits (addIv I w vs) w := fun a u hu => by
  unfold addIv at hu
  split at hu
  · exact hu
  · exact hF a u hu
theorem Box.atv (h : Box base I w b T vs) {us : List Value} (hm : us.any (fun v => v.ownBlock == some b) = true) {j : Nat} {v : Value} (hv : vs[j]? = some v) : addIv I w us ⟨b, j, none⟩ = some v := by
  unfold addIv
  simp only [hm, if_true]
  exact h.cell hv
theorem Own.addAtv {α : Type} {T e : Nat} {f : α → List DD} {l : List α} {v : Value} (h : Own base I w T e f l v) {us : List Value} (hm : ∀ g, v.ownBlock = some g → us.any (fun v => v.ownBlock == some g) = true) (d : α) (i : Int) (h0 : 0 ≤ i) (h1 : i < l.length) {A : Option Addr} {n c : Nat} (hv : v = .slice A n c) :
    ∃ ad, A = some ad ∧ (∃ g, v.ownBlock = some g ∧ ad = ⟨g, 0, none⟩) ∧ ∀ (j : Nat) (q : DD), (f (l.getD i.toNat d))[j]? = some q → ∃ u, addIv I w us ((ad.add (i.toNat * e)).add j) = some u ∧ RepV I q u := by
  obtain ⟨xs, hrow, hc⟩ := h.row
  have hcells := fun (g : Nat) (hg : v.ownBlock = some g) => hrow.cells hg
  have hx : l[i.toNat]? = some (l.getD i.toNat d) := by
    have : i.toNat < l.length := by omega
    simp [List.getD, List.getElem?_eq_getElem this]
  rcases hrow.2 with ⟨rfl, hn⟩ | ⟨g, cap, cur, rfl, _⟩
  · omega
  · cases hv
    refine ⟨_, rfl, ⟨g, rfl, rfl⟩, fun j q hq => ?_⟩
    obtain ⟨u, hu, hr⟩ := hc _ j _ q hx hq
    refine ⟨u, ?_, hr⟩
    have := hcells g rfl _ u hu
    rw [addr_add_add]
    have hb : ((⟨g, 0, none⟩ : Addr).add (i.toNat * e + j)).block = g := by unfold Addr.add; split <;> rfl
    unfold addIv
    rw [hb, hm g rfl, if_pos rfl]
    exact this
end

theorem add_lit0 (b j : Nat) : (⟨b, 0, none⟩ : Addr).add j = ⟨b, j, none⟩ := by unfold Addr.add; split <;> simp_all
theorem add_lit1 (b o j : Nat) : (⟨b, o, none⟩ : Addr).add j = ⟨b, o + j, none⟩ := by unfold Addr.add; split <;> simp_all
theorem cells_sub {I : Imm} {b o : Nat} {us : List Value} (h : ∀ (j : Nat) (v : Value), us[j]? = some v → I ⟨b, o + j, none⟩ = some v) : ∀ (j : Nat) (v : Value), us[j]? = some v → I ((⟨b, o, none⟩ : Addr).add j) = some v := fun j v hv => by
  rw [add_lit1]; exact h j v hv

section
variable {P : Program} {n : Nat} {ds : List Deferred} {Q : Exit → Act → World → Prop} {E : Env} {a : Act} {w : World} {I : Imm} {o : Oper} {K : Act → World → Prop}
variable {base : Nat}
theorem box_made (hI : Fits I w) (hb : base ≤ w.heap.size) (vs : List Value) (T : Nat) : Box base I (w.alloc (.cells vs.toArray T)) w.heap.size T vs :=
  ⟨heap_alloc_new w _, hb, fun a ha => by
    cases hJ : I a with
    | none => rfl
    | some u => have := hI.lt hJ; omega⟩
theorem wp_box (h : Sat n ds E a) {T : TypeId} {x : Operand} (ho : o.op = .box T x) {v : Value} (hx : ev E x = some v) (vs : List Value) (hvs : v.cells = vs.toArray) {d : Nat} (hd : o.dst = some d) (hdn : Nat.blt d n = true) (hI : Fits I w) (hb : base ≤ w.heap.size)
    (hK : ∀ (b : Nat) (w' : World), Box base I w' b T vs → w.heap.size ≤ b → Below w.heap.size w w' → ∀ a', Sat n ds ((d, .pointer (some ⟨b, 0, none⟩)) :: E) a' → K a' w') : o.wp P a w K Q := by
  have hde : dstE n E o.dst (.pointer (some ⟨w.heap.size, 0, none⟩)) = some ((d, .pointer (some ⟨w.heap.size, 0, none⟩)) :: E) := by rw [hd]; simp only [dstE, hdn]
  have hr : (Instr.box T v).run P w = .ok (.pointer (some ⟨w.heap.size, 0, none⟩)) (w.alloc (.cells vs.toArray T)) := by
    simp [Instr.box, newVar, newRow, hvs]
  unfold Oper.wp
  simp only [execOp, ho, h.eval hx, Sem.run_bind, hr, Result.andThen_ok, Sem.run_pure]
  exact hK _ _ (box_made hI hb vs T) (Nat.le_refl _) ((Below.refl _ _).alloc (Nat.le_refl _) _) _ (h.dst hde)
theorem wp_alloc (h : Sat n ds E a) {T : TypeId} (ho : o.op = .alloc T) (z : Value) (hz : (P.info? T).map (·.zero) = some (some z)) (vs : List Value) (hvs : z.cells = vs.toArray) {d : Nat} (hd : o.dst = some d) (hdn : Nat.blt d n = true) (hI : Fits I w) (hb : base ≤ w.heap.size)
    (hK : ∀ (b : Nat) (w' : World), Box base I w' b T vs → w.heap.size ≤ b → Below w.heap.size w w' → ∀ a', Sat n ds ((d, .pointer (some ⟨b, 0, none⟩)) :: E) a' → K a' w') : o.wp P a w K Q := by
  have hde : dstE n E o.dst (.pointer (some ⟨w.heap.size, 0, none⟩)) = some ((d, .pointer (some ⟨w.heap.size, 0, none⟩)) :: E) := by rw [hd]; simp only [dstE, hdn]
  have hr : (Instr.alloc T true (.tuple #[])).run P w = .ok (.pointer (some ⟨w.heap.size, 0, none⟩)) (w.alloc (.cells vs.toArray T)) := by
    cases hi : P.info? T with
    | none => rw [hi] at hz; simp at hz
    | some i =>
      rw [hi] at hz
      simp only [Option.map_some, Option.some.injEq] at hz
      simp [Instr.alloc, zeroValue, typeInfo, hi, hz, newVar, newRow, hvs]
  unfold Oper.wp
  simp only [execOp, ho, Sem.run_bind, hr, Result.andThen_ok, Sem.run_pure]
  exact hK _ _ (box_made hI hb vs T) (Nat.le_refl _) ((Below.refl _ _).alloc (Nat.le_refl _) _) _ (h.dst hde)
/-- A read, carried out. -/
theorem wp_yld (h : Sat n ds E a) (v : Value) (hf : Fits I w) (hy : Yld P I o a v) {E' : Env} (hd : dstE n E o.dst v = some E') (hK : ∀ a', Sat n ds E' a' → K a' w) : o.wp P a w K Q := by
  unfold Oper.wp
  rw [hy w hf]
  exact hK _ (h.dst hd)
theorem setRow_grownBy (w : World) (g : Nat) (cs : Array Value) : w.grownBy (w.setRow g cs) (some g) :=
  ⟨rfl, rfl, rfl, by simp, fun k _ hk => setRow_other w g k cs (fun e => hk (by rw [e]))⟩
theorem run_store' {w : World} {b TB : Nat} {vs : List Value} (hh : w.heap[b]? = some (.cells vs.toArray TB (0, 0))) {T : TypeId} {v : Value} (us : List Value) (hus : v.cells = us.toArray) (hs : (P.info? T).map (·.size) = some us.length) (off : Nat) (hfit : off + us.length ≤ vs.length)
    (h1 : us.all (·.oneCell') = true) : (storeVar T ⟨b, off, none⟩ v).run P w = .ok () (w.setRow b (vs.take off ++ us ++ vs.drop (off + us.length)).toArray) := by
  have hst := run_storeCells_at P b off TB us 0 vs.toArray w hh (by simpa using hfit) (fun u hu => List.all_eq_true.1 h1 u hu)
  simp only [Nat.add_zero] at hst
  simp [storeVar, hus, run_sizeOf' hs, hst]
theorem wp_store (h : Sat n ds E a) {T : TypeId} {p x : Operand} (ho : o.op = .store T p x) {b TB : Nat} {vs : List Value} (off : Nat) (hp : ev E p = some (.pointer (some ⟨b, off, none⟩))) {v : Value} (hx : ev E x = some v) (hbox : Box base I w b TB vs)
    (us : List Value) (hus : v.cells = us.toArray) (hs : (P.info? T).map (·.size) = some us.length) (hfit : Nat.ble (off + us.length) vs.length = true) (h1 : us.all (·.oneCell') = true) (vs' : List Value) (hvs : vs.take off ++ us ++ vs.drop (off + us.length) = vs') (hd : o.dst = none) (hI : Fits I w)
    (hK : ∀ w', Box base I w' b TB vs' → w.grownBy w' (some b) → Fits I w' → ∀ a', Sat n ds E a' → K a' w') : o.wp P a w K Q := by
  have hr := run_store' (P := P) hbox.heap us hus hs off (by simpa using Nat.le_of_ble_eq_true hfit) h1
  unfold Oper.wp
  simp only [execOp, ho, h.eval hp, h.eval hx, Instr.storeAt, Instr.sureAddr, Sem.run_bind, Sem.run_pure, Result.andThen_ok, hr]
  subst hvs
  refine hK _ ⟨setRow_heap w b _ _ TB (0, 0) hbox.heap, hbox.ge, hbox.away⟩ (setRow_grownBy _ _ _) (fun a u hu => ?_) _ (h.dst (by rw [hd]; rfl))
  have hne : a.block ≠ b := fun e => by rw [hbox.away a e] at hu; cases hu
  rw [cell_setRow_other w b _ a hne]
  exact hI a u hu
/-- One element of a row of one's own is written: a new one in its place. -/
theorem wp_storeOwn {α : Type} {TR e : Nat} {f : α → List DD} {l : List α} {A : Option Addr} {c : Nat} (h : Sat n ds E a) {T : TypeId} {p x : Operand} (ho : o.op = .store T p x) {nn : Nat} (hown : Own base I w TR e f l (.slice A nn c)) (i : Int) (h0 : 0 ≤ i) (h1' : i < nn) {ad : Addr} (hA : A = some ad)
    (hp : ev E p = some (.pointer (some (ad.add (i.toNat * e))))) {v : Value} (hx : ev E x = some v) (us : List Value) (hus : v.cells = us.toArray) (hs : (P.info? T).map (·.size) = some us.length) (y : α) (hall : All2 I (f y) us) (hlf : LeafOk e f) (hd : o.dst = none) (hI : Fits I w)
    (hK : ∀ w', Own base I w' TR e f (l.set i.toNat y) (.slice A nn c) → w.grownBy w' (Value.slice A nn c).ownBlock → Fits I w' → ∀ a', Sat n ds E a' → K a' w') : o.wp P a w K Q := by
  subst hA
  obtain rfl : nn = l.length := by obtain ⟨A', c', hv, _⟩ := hown.form; cases hv; rfl
  have h1 : i < l.length := h1'
  obtain ⟨xs, hrow, hcells⟩ := hown.row
  obtain ⟨hlen, h2⟩ := hrow
  rcases h2 with ⟨hv, _⟩ | ⟨g, cap, cur, hv, hbg, hheap, hnc, hcm, hcs, htake⟩
  · cases hv
  · cases hv
    have hul : us.length = e := by rw [hall.back.1, (hlf y).1]
    have hi : i.toNat < l.length := by omega
    have hmul : (i.toNat + 1) * e ≤ l.length * e := Nat.mul_le_mul_right _ hi
    rw [Nat.add_mul, Nat.one_mul] at hmul
    have hle : l.length * e ≤ c * e := Nat.mul_le_mul_right _ hnc
    have hone : us.all (·.oneCell') = true := by
      rw [List.all_eq_true]
      intro u hu
      obtain ⟨k, hk⟩ := List.mem_iff_getElem?.1 hu
      have hkl : k < (f y).length := by rw [(hlf y).1, ← hul]; exact (List.getElem?_eq_some_iff.1 hk).1
      exact leaf_one (hall.back.2 k _ u (List.getElem?_eq_getElem hkl) hk) (List.all_eq_true.1 (hlf y).2 _ (List.getElem_mem _))
    have hh : w.heap[g]? = some (.cells cur.toList.toArray TR (0, 0)) := by rw [Array.toArray_toList]; exact hheap
    have hcl0 : cur.toList.length = c * e := by rw [Array.length_toList]; exact hcs
    have hr := run_store' (P := P) (v := v) hh us hus hs (i.toNat * e) (by rw [hcl0]; omega) hone
    have hadd : (⟨g, 0, none⟩ : Addr).add (i.toNat * e) = ⟨g, i.toNat * e, none⟩ := add_lit0 _ _
    rw [hadd] at hp
    unfold Oper.wp
    simp only [execOp, ho, h.eval hp, h.eval hx, Instr.storeAt, Instr.sureAddr, Sem.run_bind, Sem.run_pure, Result.andThen_ok, hr]
    have hsl : (l.set i.toNat y).length = l.length := List.length_set
    have hxs : ∀ k, k < l.length * e → cur.toList[k]? = xs[k]? := fun k hk => by rw [← htake, List.getElem?_take, if_pos hk]
    have hgetN : ∀ k, (cur.toList.take (i.toNat * e) ++ us ++ cur.toList.drop (i.toNat * e + us.length))[k]? = if k < i.toNat * e then cur.toList[k]? else if k < i.toNat * e + e then us[k - i.toNat * e]? else cur.toList[k]? := by
      intro k
      have hcl : cur.toList.length = c * e := by rw [Array.length_toList]; exact hcs
      have hA : (cur.toList.take (i.toNat * e)).length = i.toNat * e := by rw [List.length_take]; omega
      by_cases hk1 : k < i.toNat * e
      · rw [if_pos hk1, List.append_assoc, List.getElem?_append_left (by omega), List.getElem?_take, if_pos hk1]
      · rw [if_neg hk1, List.append_assoc, List.getElem?_append_right (by omega), hA]
        by_cases hk2 : k < i.toNat * e + e
        · rw [if_pos hk2, List.getElem?_append_left (by omega)]
        · rw [if_neg hk2, List.getElem?_append_right (by omega), List.getElem?_drop]
          congr 1; omega
    refine hK _ ⟨⟨(cur.toList.take (i.toNat * e) ++ us ++ cur.toList.drop (i.toNat * e + us.length)).take (l.length * e), ⟨?_, .inr ⟨g, c, _, by rw [hsl], hbg, setRow_heap w g cur _ TR (0, 0) hheap, by rw [hsl]; exact hnc, hcm, ?_, by rw [hsl]⟩⟩, ?_⟩, ?_⟩ (setRow_grownBy _ _ _) ?_ _ (h.dst (by rw [hd]; rfl))
    · rw [List.length_take, hsl]
      simp only [List.length_append, List.length_take, List.length_drop, Array.length_toList]
      omega
    · simp only [List.size_toArray, List.length_append, List.length_take, List.length_drop, Array.length_toList]
      omega
    · intro p q z d hz hd
      have hp : p < l.length := by have := (List.getElem?_eq_some_iff.1 hz).1; rwa [hsl] at this
      have hpm : (p + 1) * e ≤ l.length * e := Nat.mul_le_mul_right _ hp
      rw [Nat.add_mul, Nat.one_mul] at hpm
      have hqe : q < e := by
        have := (List.getElem?_eq_some_iff.1 hd).1
        rwa [(hlf z).1] at this
      rw [List.getElem?_take, if_pos (by omega), hgetN]
      by_cases hpi : p = i.toNat
      · subst hpi
        rw [List.getElem?_set_self hi] at hz
        cases hz
        rw [if_neg (by omega), if_pos (by omega)]
        have hq' : us[q]? = some (us[q]'(by omega)) := List.getElem?_eq_getElem (by omega)
        refine ⟨_, by rw [show i.toNat * e + q - i.toNat * e = q from by omega]; exact hq', hall.back.2 q d _ hd hq'⟩
      · rw [List.getElem?_set_ne (by omega)] at hz
        obtain ⟨u, hu, hrep⟩ := hcells p q z d hz hd
        refine ⟨u, ?_, hrep⟩
        rw [hxs _ (by omega)]
        rcases Nat.lt_or_ge p i.toNat with hlt | hge
        · have : (p + 1) * e ≤ i.toNat * e := Nat.mul_le_mul_right _ hlt
          rw [Nat.add_mul, Nat.one_mul] at this
          rw [if_pos (by omega)]; exact hu
        · have : (i.toNat + 1) * e ≤ p * e := Nat.mul_le_mul_right _ (by omega)
          rw [Nat.add_mul, Nat.one_mul] at this
          rw [if_neg (by omega), if_neg (by omega)]; exact hu
    · intro g' hg' a ha
      exact hown.away g' hg' a ha
    · intro a u hu
      have hne : a.block ≠ g := fun e => by rw [hown.away g rfl a e] at hu; cases hu
      rw [cell_setRow_other w g _ a hne]
      exact hI a u hu
end
/-! ### Results that lie in memory -/
section
variable {P : Program} {n : Nat} {ds : List Deferred} {E : Env} {a : Act} {w : World} {I : Imm}
def resOne (P : Program) (w : World) (a : Act) : ResultVar → Value → Prop
  | .tmp t, v => a.tmps.getD t undef = v
  | .cell t T, v => (do loadVar T (← asAddr (a.tmps.getD t undef)) : Sem Value).run P w = .ok v w
theorem res_tmp (h : Sat n ds E a) {t : Tmp} {v : Value} (ht : get E t = some v) : resOne P w a (.tmp t) v := h.getD ht
theorem res_cell (h : Sat n ds E a) {t : Tmp} {T : TypeId} {b TB base : Nat} {vs : List Value} (ht : get E t = some (.pointer (some ⟨b, 0, none⟩))) (hbox : Box base I w b TB vs) {d : TypeDesc} (hT : P.underlying T = some d) (hd : (match d with | .struct _ | .array .. => true | _ => false) = true)
    (hs : (P.info? T).map (·.size) = some vs.length) : resOne P w a (.cell t T) (.agg vs.toArray) := by
  have hl := run_loadCells_list (P := P) w ⟨b, 0, none⟩ vs (fun j v hj => by rw [add_lit0]; exact hbox.cell hj)
  show (do loadVar T (← asAddr (a.tmps.getD t undef)) : Sem Value).run P w = _
  rw [h.getD ht]
  cases d <;> simp at hd <;> simp [asAddr, loadVar, isAgg, run_underlying hT, run_sizeOf' hs, hl]
theorem res_cell1 (h : Sat n ds E a) {t : Tmp} {T : TypeId} {b TB base : Nat} {v : Value} {r : List Value} (ht : get E t = some (.pointer (some ⟨b, 0, none⟩))) (hbox : Box base I w b TB (v :: r)) {d : TypeDesc} (hT : P.underlying T = some d) (hd : (match d with | .struct _ | .array .. => true | _ => false) = false) : resOne P w a (.cell t T) v := by
  have hc := hbox.cell (j := 0) (v := v) rfl
  show (do loadVar T (← asAddr (a.tmps.getD t undef)) : Sem Value).run P w = _
  rw [h.getD ht]
  cases d <;> simp at hd <;> simp [asAddr, loadVar, isAgg, run_underlying hT, load, Sem.run, hc]
theorem results_cell1 {fn : Func} {r : ResultVar} (h : fn.results = #[r]) {v : Value} (hv : resOne P w a r v) : (results fn a.tmps).run P w = .ok v w := by
  cases r with
  | tmp t => have hv' : a.tmps.getD t undef = v := hv; simp [results, h]; simpa using hv'
  | cell t T => have hv' : (do loadVar T (← asAddr (a.tmps.getD t undef)) : Sem Value).run P w = .ok v w := hv; simp [results, h] at hv' ⊢; exact hv'
end
end Go.XW
namespace Go.XW
open Go.RowKit
section
variable {base : Nat} {I J IR : Imm} {w w' : World} {b T : Nat} {vs : List Value}
theorem Box.lows (h : Box base I w b T vs) : ∀ g, (BV b).ownBlock = some g → base ≤ g := fun g hg => by
  simp only [Value.ownBlock, Option.some.injEq] at hg
  have := h.ge
  omega
theorem any_self (b : Nat) : [BV b].any (fun v => v.ownBlock == some b) = true := by simp [Value.ownBlock]
/-- Reads of a variable, in the world at hand. -/
theorem Box.ld (h : Box base I w b T vs) (j : Nat) {v : Value} (hv : vs[j]? = some v) : addIv I w [BV b] ⟨b, j, none⟩ = some v := h.atv (any_self b) hv
theorem Box.ldn (h : Box base I w b T vs) (off : Nat) (us : List Value) (hus : (vs.drop off).take us.length = us) : ∀ (j : Nat) (v : Value), us[j]? = some v → addIv I w [BV b] ((⟨b, off, none⟩ : Addr).add j) = some v := fun j v hj => by
  rw [add_lit1]
  refine h.ld (off + j) ?_
  have hlt : j < us.length := (List.getElem?_eq_some_iff.1 hj).1
  rw [← hus, List.getElem?_take, if_pos hlt, List.getElem?_drop] at hj
  exact hj
theorem Own.len {α : Type} {TB e : Nat} {f : α → List DD} {l : List α} {A : Option Addr} {n c : Nat} (h : Own base I w TB e f l (.slice A n c)) : n = l.length := by
  obtain ⟨A', c', hv, _⟩ := h.form
  cases hv; rfl
theorem Own.lows {α : Type} {TB e : Nat} {f : α → List DD} {l : List α} {v : Value} (h : Own base I w TB e f l v) : ∀ g, v.ownBlock = some g → base ≤ g := fun g hg => (h.lt g hg).1
/-- What may be read of a row while others are at work: IR. -/
def Rd {α : Type} (I IR : Imm) (e : Nat) (f : α → List DD) (l : List α) (A : Option Addr) (n : Nat) : Prop :=
  ∀ (d : α) (i : Int), 0 ≤ i → i < n → ∃ ad, A = some ad ∧ ∀ (j : Nat) (q : DD), (f (l.getD i.toNat d))[j]? = some q → ∃ u, IR ((ad.add (i.toNat * e)).add j) = some u ∧ RepV I q u
theorem Rd.mono {α : Type} {e : Nat} {f : α → List DD} {l : List α} {A : Option Addr} {n : Nat} (h : Rd I IR e f l A n) (hx : Ext I J) : Rd J IR e f l A n := fun d i h0 h1 => by
  obtain ⟨ad, hA, hc⟩ := h d i h0 h1
  exact ⟨ad, hA, fun j q hq => by obtain ⟨u, hu, hr⟩ := hc j q hq; exact ⟨u, hu, hr.mono hx⟩⟩
theorem Own.rd {α : Type} {TB e : Nat} {f : α → List DD} {l : List α} {A : Option Addr} {n c : Nat} (h : Own base I w TB e f l (.slice A n c)) {us : List Value} (hm : ∀ g, (Value.slice A n c).ownBlock = some g → us.any (fun v => v.ownBlock == some g) = true) : Rd I (addIv I w us) e f l A n := fun d i h0 h1 => by
  have hn := h.len
  obtain ⟨ad, hA, _, hc⟩ := h.addAtv hm d i h0 (by omega) rfl
  exact ⟨ad, hA, hc⟩
theorem Own.rd1 {α : Type} {TB e : Nat} {f : α → List DD} {l : List α} {A : Option Addr} {n c : Nat} (h : Own base I w TB e f l (.slice A n c)) : Rd I (addIv I w [.slice A n c]) e f l A n := h.rd fun g hg => by simp [hg]
theorem addIv_ext (hF : Fits I w) (us : List Value) : Ext I (addIv I w us) := fun a v h => by
  unfold addIv
  split
  · exact hF a v h
  · exact h
theorem Fits.otherv {us : List Value} {row : Option Nat} {w0 : World} (h : Fits (addIv I w0 us) w) (hg : w.grownBy w' row) (h1 : ∀ g, row = some g → us.any (fun v => v.ownBlock == some g) = false) (h2 : ∀ g, row = some g → ∀ a, a.block = g → I a = none) : Fits (addIv I w0 us) w' := fun a v hv => by
  have := h a v hv
  refine hg.cell this fun e => ?_
  unfold addIv at hv
  rw [h1 a.block e.symm] at hv
  rw [h2 a.block e.symm a rfl] at hv
  simp at hv
end
section
variable {P : Program} {n : Nat} {ds : List Deferred} {ops : Array Oper} {Q : Exit → Act → World → Prop} {E : Env} {a : Act} {w : World} {I : Imm} {o : Oper} {K : Act → World → Prop} {S : World → Prop}
variable {base : Nat}
theorem y_indexAddr_arr (h : Sat n ds E a) {t el : TypeId} {x i : Operand} {ad : Addr} {len e : Nat} {k : IntKind} {m : Int} (ho : o.op = .indexAddr t x i) (hx : ev E x = some (.pointer (some ad))) (hi : ev E i = some (.int k m))
    (ht : P.underlying t = some (.array len el)) (hs : (P.info? el).map (·.size) = some e) (h0 : 0 ≤ m) (h1 : m < len) : Yld P I o a (.pointer (some (ad.add (m.toNat * e)))) := fun w _ => by
  simp only [execOp, ho, h.eval hx, h.eval hi, Instr.indexAt, asIntOf, Instr.sureAddr]
  simp [run_underlying ht, h0, h1, run_sizeOf' hs]
def TabAt (I : Imm) (g : Nat) (k : IntKind) (l : List Int) : Prop := ∀ (j : Nat) (x : Int), l[j]? = some x → I ⟨g, j, none⟩ = some (.int k x)
theorem TabAt.mono {I J : Imm} {g : Nat} {k : IntKind} {l : List Int} (h : TabAt I g k l) (hx : Ext I J) : TabAt J g k l := fun j x hj => hx _ _ (h j x hj)
theorem TabAt.at {g : Nat} {k : IntKind} {l : List Int} (h : TabAt I g k l) {n : Nat} (hn : l.length = n) (i : Int) (h0 : 0 ≤ i) (h1 : i < n) : ∀ (j : Nat) (q : DD), (XI k (l.getD i.toNat 0))[j]? = some q → ∃ u, I (((⟨g, 0, none⟩ : Addr).add (i.toNat * 1)).add j) = some u ∧ RepV I q u := fun j q hq => by
  have hlt : i.toNat < l.length := by omega
  match j, hq with
  | 0, hq =>
    simp only [List.getElem?_cons_zero, Option.some.injEq] at hq
    subst hq
    refine ⟨_, ?_, .val _⟩
    rw [addr_add_add, add_lit0, Nat.add_zero, Nat.mul_one]
    exact h _ _ (by simp [List.getD, List.getElem?_eq_getElem hlt])
/-- A variable of an array type. -/
theorem wp_allocArr {α : Type} {TA e : Nat} {f : α → List DD} (h : Sat n ds E a) (ho : o.op = .alloc TA) (z : Value) (hz : (P.info? TA).map (·.zero) = some (some z)) (ys : List α) (len : Nat) (hlen : ys.length = len) (hall : All2 I (ys.flatMap f) z.cells.toList) (hlf : LeafOk e f) (hm : Nat.ble len 9223372036854775807 = true) {d : Nat} (hd : o.dst = some d) (hdn : Nat.blt d n = true) (hI : Fits I w) (hb : base ≤ w.heap.size)
    (hK : ∀ (b : Nat) (w' : World), Own base I w' TA e f ys (.slice (some ⟨b, 0, none⟩) len len) → w.heap.size ≤ b → Below w.heap.size w w' → ∀ a', Sat n ds ((d, .pointer (some ⟨b, 0, none⟩)) :: E) a' → K a' w') : o.wp P a w K Q := by
  subst hlen
  have hde : dstE n E o.dst (.pointer (some ⟨w.heap.size, 0, none⟩)) = some ((d, .pointer (some ⟨w.heap.size, 0, none⟩)) :: E) := by rw [hd]; simp only [dstE, hdn]
  have hr : (Instr.alloc TA true (.tuple #[])).run P w = .ok (.pointer (some ⟨w.heap.size, 0, none⟩)) (w.alloc (.cells z.cells TA)) := by
    cases hi : P.info? TA with
    | none => rw [hi] at hz; simp at hz
    | some i =>
      rw [hi] at hz
      simp only [Option.map_some, Option.some.injEq] at hz
      simp [Instr.alloc, zeroValue, typeInfo, hi, hz, newVar, newRow]
  unfold Oper.wp
  simp only [execOp, ho, Sem.run_bind, hr, Result.andThen_ok, Sem.run_pure]
  exact hK _ _ (Own.made hlf hI hb ys _ hall (by simpa using Nat.le_of_ble_eq_true hm)) (Nat.le_refl _) ((Below.refl _ _).alloc (Nat.le_refl _) _) _ (h.dst hde)
/-- Two reads, whichever comes first. -/
theorem H_two (h : Sat n ds E a) (i j : Nat) {oi oj : Oper} {L : Array Bool} {fuel : Nat} (vi vj : Value) (L' : Array Bool) {di dj : Nat} (hi : ops[i]? = some oi) (hj : ops[j]? = some oj)
    (hr : Region.ready .any ops L = [i, j]) (hri : Region.ready .any ops (L.setIfInBounds i true) = [j]) (hrj : Region.ready .any ops (L.setIfInBounds j true) = [i]) (hL : (L.setIfInBounds i true).setIfInBounds j true = L') (hL2 : (L.setIfInBounds j true).setIfInBounds i true = L') (hS : S w)
    (hdi : oi.dst = some di) (hdj : oj.dst = some dj) (hin : Nat.blt di n = true) (hjn : Nat.blt dj n = true) (hne : Nat.beq di dj = false) (hEi : get E di = none) (hEj : get E dj = none) (hgi : oi.guard = none) (hgj : oj.guard = none)
    (hyi : ∀ a', Sat n ds E a' → (execOp a'.eval oi).run P w = .ok (.value vi) w) (hyj : ∀ a', Sat n ds E a' → (execOp a'.eval oj).run P w = .ok (.value vj) w)
    (hK : ∀ a', Sat n ds ((di, vi) :: (dj, vj) :: E) a' → wpAnyH P .any ops Q S fuel L' a' w) : wpAnyH P .any ops Q S (fuel + 2) L a w := by
  have hin' : di < n := by simpa [Nat.blt_eq] using hin
  have hjn' : dj < n := by simpa [Nat.blt_eq] using hjn
  have hne' : di ≠ dj := fun e => by rw [e] at hne; simp at hne
  have wt : ∀ (o : Oper) (a : Act), o.guard = none → Region.wanted o (yielded ops a.tmps) = true := fun o a hg => by unfold Region.wanted; rw [hg]
  have sub : ∀ {d : Nat} {v : Value} {a : Act}, get E d = none → Sat n ds ((d, v) :: E) a → Sat n ds E a := fun {d v a} hd hs => hs.sub fun k u hk => by
    have : d ≠ k := fun e => by rw [← e, hd] at hk; cases hk
    rw [get_cons_ne this]; exact hk
  have step : ∀ {k : Nat} {o : Oper} {v : Value} {d : Nat} {a : Act} {K : Act → World → Prop}, ops[k]? = some o → o.guard = none → o.dst = some d → (execOp a.eval o).run P w = .ok (.value v) w → K (a.put (some d) v) w → wpOp P ops Q k K a w := fun {k o v d a K} h1 h2 h3 h4 h5 => by
    unfold wpOp
    simp only [h1, wt o a h2, if_true]
    refine .inl ?_
    unfold Oper.wp
    rw [h4]
    simp only [Oper.upon, h3]
    exact h5
  refine wpAnyH_all hr (by simp) (fun k hk => ?_)
  simp only [List.mem_cons, List.not_mem_nil, or_false] at hk
  rcases hk with rfl | rfl
  · refine step hi hgi hdi (hyi _ h) ⟨hS, ?_⟩
    have h1 := h.put hin' vi
    refine wpAnyH_all hri (by simp) (fun k hk => ?_)
    obtain rfl : k = j := by simpa using hk
    refine step hj hgj hdj (hyj _ (sub hEi h1)) ⟨hS, ?_⟩
    rw [hL]
    refine hK _ ((h1.put hjn' vj).sub fun k u hk => ?_)
    by_cases e : dj = k
    · subst e; rw [get_cons_ne hne', get_cons_eq] at hk; rw [get_cons_eq]; exact hk
    · rw [get_cons_ne e]
      by_cases e2 : di = k
      · subst e2; rw [get_cons_eq] at hk ⊢; exact hk
      · rw [get_cons_ne e2, get_cons_ne e] at hk; rw [get_cons_ne e2]; exact hk
  · refine step hj hgj hdj (hyj _ h) ⟨hS, ?_⟩
    have h1 := h.put hjn' vj
    refine wpAnyH_all hrj (by simp) (fun k hk => ?_)
    obtain rfl : k = i := by simpa using hk
    refine step hi hgi hdi (hyi _ (sub hEj h1)) ⟨hS, ?_⟩
    rw [hL2]
    exact hK _ (h1.put hin' vi)
/-- A region that draws: what is held holds of what is read. -/
def S2 (I IR : Imm) : World → Prop := fun w => Fits I w ∧ Fits IR w
end
end Go.XW
namespace Go.XW
open Go.RowKit
section
variable {α : Type} {base b' : Nat} {I J : Imm} {w w' : World} {TB e : Nat} {f : α → List DD} {l : List α} {v : Value}
theorem Own.lower (h : Own base I w TB e f l v) (hb : b' ≤ base) : Own b' I w TB e f l v := by
  obtain ⟨xs, ⟨h1, h2⟩, h3⟩ := h.row
  refine ⟨⟨xs, ⟨h1, ?_⟩, h3⟩, h.away⟩
  rcases h2 with h2 | ⟨g, cap, cur, hv, hbg, r⟩
  · exact .inl h2
  · exact .inr ⟨g, cap, cur, hv, by omega, r⟩
theorem Own.nth {A : Option Addr} {n c : Nat} (h : Own base I w TB e f l (.slice A n c)) {j : Nat} {x : α} (hx : l[j]? = some x) :
    ∃ ad, A = some ad ∧ ∀ (k : Nat) (q : DD), (f x)[k]? = some q → ∃ u, addI I w (.slice A n c) ((ad.add (j * e)).add k) = some u ∧ RepV I q u := by
  have hlt : j < l.length := (List.getElem?_eq_some_iff.1 hx).1
  obtain ⟨ad, hA, hc⟩ := h.addAt x (j : Int) (Int.natCast_nonneg _) (by omega) rfl
  refine ⟨ad, hA, fun k q hq => ?_⟩
  have e1 : l.getD (j : Int).toNat x = x := by simp [List.getD, hx]
  have := hc k q (by rw [e1]; exact hq)
  simpa using this
theorem Rd.nth {IR : Imm} {A : Option Addr} {n : Nat} (h : Rd I IR e f l A n) {j : Nat} {x : α} (hx : l[j]? = some x) (hn : n = l.length) :
    ∃ ad, A = some ad ∧ ∀ (k : Nat) (q : DD), (f x)[k]? = some q → ∃ u, IR ((ad.add (j * e)).add k) = some u ∧ RepV I q u := by
  have hlt : j < l.length := (List.getElem?_eq_some_iff.1 hx).1
  obtain ⟨ad, hA, hc⟩ := h x (j : Int) (Int.natCast_nonneg _) (by omega)
  refine ⟨ad, hA, fun k q hq => ?_⟩
  have e1 : l.getD (j : Int).toNat x = x := by simp [List.getD, hx]
  have := hc k q (by rw [e1]; exact hq)
  simpa using this
theorem all2_replicate {z : α} {q : DD} {u : Value} (hf : f z = [q]) (hr : RepV I q u) : ∀ n, All2 I ((List.replicate n z).flatMap f) (List.replicate n u)
  | 0 => by simp [All2]
  | n + 1 => by
    rw [List.replicate_succ, List.replicate_succ, List.flatMap_cons, hf]
    exact ⟨hr, all2_replicate hf hr n⟩
/-- How a call ends: its result is a row that is nobody else's. -/
def EndO {α : Type} (TB e : Nat) (f : α → List DD) (l : List α) (I : Imm) (w : World) : Ending → World → Prop := fun en w' => ∃ v J, en = .returned v ∧ Grow I J w.heap.size ∧ Fits J w' ∧ Own w.heap.size J w' TB e f l v ∧ Below w.heap.size w w'
end
end Go.XW
namespace Go.XW
open Go.RowKit
section
variable {α : Type} {base : Nat} {I J IR : Imm} {w w' : World} {TB e : Nat} {f : α → List DD} {l : List α} {A : Option Addr} {n c : Nat} {ad : Addr}
theorem Own.addr (h : Own base I w TB e f l (.slice A n c)) (i : Int) (h0 : 0 ≤ i) (h1 : i < n) : ∃ ad, A = some ad := by
  obtain ⟨xs, hrow, _⟩ := h.row
  rcases hrow.2 with ⟨hv, hn⟩ | ⟨g, cap, cur, hv, _⟩
  · cases hv; omega
  · cases hv; exact ⟨_, rfl⟩
theorem Own.addrn (h : Own base I w TB e f l (.slice A n c)) {j : Nat} {x : α} (hx : l[j]? = some x) : ∃ ad, A = some ad := by
  obtain ⟨ad, hA, _⟩ := h.nth hx
  exact ⟨ad, hA⟩
theorem Own.get (h : Own base I w TB e f l (.slice A n c)) (hA : A = some ad) (d : α) (i : Int) (h0 : 0 ≤ i) (h1 : i < n) :
    ∀ (j : Nat) (q : DD), (f (l.getD i.toNat d))[j]? = some q → ∃ u, addI I w (.slice A n c) ((ad.add (i.toNat * e)).add j) = some u ∧ RepV I q u := by
  have hn := h.len
  obtain ⟨ad', hA', hc⟩ := h.addAt d i h0 (by omega) rfl
  rw [hA] at hA'
  cases hA'
  exact hc
theorem Own.getn (h : Own base I w TB e f l (.slice A n c)) (hA : A = some ad) {j : Nat} {x : α} (hx : l[j]? = some x) :
    ∀ (k : Nat) (q : DD), (f x)[k]? = some q → ∃ u, addI I w (.slice A n c) ((ad.add (j * e)).add k) = some u ∧ RepV I q u := by
  obtain ⟨ad', hA', hc⟩ := h.nth hx
  rw [hA] at hA'
  cases hA'
  exact hc
theorem Rd.get (h : Rd I IR e f l A n) (hA : A = some ad) (d : α) (i : Int) (h0 : 0 ≤ i) (h1 : i < n) :
    ∀ (j : Nat) (q : DD), (f (l.getD i.toNat d))[j]? = some q → ∃ u, IR ((ad.add (i.toNat * e)).add j) = some u ∧ RepV I q u := by
  obtain ⟨ad', hA', hc⟩ := h d i h0 h1
  rw [hA] at hA'
  cases hA'
  exact hc
theorem Rd.getn (h : Rd I IR e f l A n) (hA : A = some ad) {j : Nat} {x : α} (hx : l[j]? = some x) (hj : j < n) :
    ∀ (k : Nat) (q : DD), (f x)[k]? = some q → ∃ u, IR ((ad.add (j * e)).add k) = some u ∧ RepV I q u := by
  have hc := h.get hA x (j : Int) (Int.natCast_nonneg _) (by omega)
  have e1 : l.getD (j : Int).toNat x = x := by simp [List.getD, hx]
  rw [e1] at hc
  simpa using hc
theorem SL_atn (h : RepV I (SL e f l) (.slice A n c)) (d : α) (i : Int) (h0 : 0 ≤ i) (h1 : i < n) :
    ∃ ad, A = some ad ∧ ∀ (j : Nat) (q : DD), (f (l.getD i.toNat d))[j]? = some q → ∃ u, I ((ad.add (i.toNat * e)).add j) = some u ∧ RepV I q u := by
  have hn := h.sl_len.1
  rw [List.length_map] at hn
  exact SL_at h d i h0 (by omega)
theorem own_any {v : Value} {us : List Value} (h : v ∈ us) : ∀ g, v.ownBlock = some g → us.any (fun v => v.ownBlock == some g) = true := fun g hg => List.any_eq_true.2 ⟨v, h, by simp [hg]⟩
theorem addIv_drew {us : List Value} (hF : Fits I w) : Fits (addIv I w us) w.drew := addIv_fits hF
theorem Box.atq {b T : Nat} {vs us : List Value} (h : Box base I w b T vs) (hm : BV b ∈ us) : ∀ (j : Nat) (v : Value), vs[j]? = some v → addIv I w us ⟨b, j, none⟩ = some v := fun _ _ hv => h.atv (own_any hm b rfl) hv
theorem atq_n {b : Nat} {vs : List Value} (h : ∀ (j : Nat) (v : Value), vs[j]? = some v → IR ⟨b, j, none⟩ = some v) (off : Nat) (us : List Value) (hus : (vs.drop off).take us.length = us) : ∀ (j : Nat) (v : Value), us[j]? = some v → IR ((⟨b, off, none⟩ : Addr).add j) = some v := fun j v hj => by
  rw [add_lit1]
  refine h (off + j) v ?_
  have hlt : j < us.length := (List.getElem?_eq_some_iff.1 hj).1
  rw [← hus, List.getElem?_take, if_pos hlt, List.getElem?_drop] at hj
  exact hj
end
section
variable {P : Program} {n : Nat} {ds : List Deferred} {ops : Array Oper} {Q : Exit → Act → World → Prop} {E : Env} {a : Act} {w : World} {I IR : Imm} {o : Oper} {v : Value}
theorem Yld.s1 (h : Yld P I o a v) : ∀ w, S2 I IR w → (execOp a.eval o).run P w = .ok (.value v) w := fun w hw => h w hw.1
theorem Yld.s2 (h : Yld P IR o a v) : ∀ w, S2 I IR w → (execOp a.eval o).run P w = .ok (.value v) w := fun w hw => h w hw.2
theorem H_regionR {id : Nat} (hm : P.follows .mixedOrders = true) (m : Nat) (L : Array Bool) (hn : ops.size = m) (hL : Array.replicate m false = L) (us : List Value)
    (h : wpAnyH P .any ops Q (S2 I (addIv I w us)) m L a w.drew) : (Code.region id ops true).wp P Q a w := H_region hm m L hn hL h
end
end Go.XW
namespace Go.XW
theorem add_0 (a : Addr) : a.add 0 = a := by unfold Addr.add; simp
theorem SLn {I : Imm} {α : Type} {e : Nat} {f : α → List DD} {l : List α} {A : Option Addr} {n c : Nat} (h : RepV I (SL e f l) (.slice A n c)) : n = l.length := by
  have := h.sl_len.1
  rwa [List.length_map] at this
end Go.XW
namespace Go.XW
theorem Grow.of {I : Imm} {w : World} (_ : Fits I w) (n : Nat) : Grow I I n := Grow.refl I n
theorem nameI {I : Imm} {w : World} (_ : Fits I w) : ∃ J, J = I := ⟨I, rfl⟩
section
variable {P : Program} {ops : Array Oper} {Q : Exit → Act → World → Prop} {a : Act} {w : World} {I : Imm}
theorem H_regionI {id : Nat} (_ : Fits I w) (hm : P.follows .mixedOrders = true) (m : Nat) (L : Array Bool) (hn : ops.size = m) (hL : Array.replicate m false = L) (is : List OI) (hI : summ ops = is)
    (h : summ ops = is → wpAnyH P .any ops Q (Fits I) m L a w.drew) : (Code.region id ops true).wp P Q a w := H_region hm m L hn hL (h hI)
theorem H_regionV {id : Nat} (_ : Fits I w) (hm : P.follows .mixedOrders = true) (m : Nat) (L : Array Bool) (hn : ops.size = m) (hL : Array.replicate m false = L) (us : List Value) (is : List OI) (hI : summ ops = is)
    (h : summ ops = is → wpAnyH P .any ops Q (S2 I (addIv I w us)) m L a w.drew) : (Code.region id ops true).wp P Q a w := H_region hm m L hn hL (h hI)
end
end Go.XW
namespace Go.XW
section
variable {P : Program} {ops : Array Oper} {Q : Exit → Act → World → Prop} {a : Act} {w w0 : World} {I J IR : Imm}
theorem H_upI {fuel : Nat} {L : Array Bool} (_ : Fits J w0) (hx : Ext I J) (h : wpAnyH P .any ops Q (Fits J) fuel L a w) : wpAnyH P .any ops Q (Fits I) fuel L a w := H_mono (fun _ h_ => h_.of_ext hx) h
theorem H_upV {fuel : Nat} {L : Array Bool} (_ : Fits J w0) (hx : Ext I J) (h : wpAnyH P .any ops Q (S2 J IR) fuel L a w) : wpAnyH P .any ops Q (S2 I IR) fuel L a w := H_mono (fun _ h_ => ⟨h_.1.of_ext hx, h_.2⟩) h
end
end Go.XW
namespace Go.XW
open Go.RowKit
section
variable {P : Program} {n : Nat} {ds : List Deferred} {Q : Exit → Act → World → Prop} {E : Env} {a : Act} {w : World} {I : Imm} {o : Oper} {K : Act → World → Prop} {base : Nat}
theorem wp_allocArr1 {α : Type} {TA : Nat} {f : α → List DD} (h : Sat n ds E a) (ho : o.op = .alloc TA) (z : Value) (hz : (P.info? TA).map (·.zero) = some (some z)) (z0 : α) (len : Nat) (q : DD) (u : Value) (hf : f z0 = [q]) (hr : RepV I q u) (hc : z.cells.toList = List.replicate len u) (hlf : LeafOk 1 f) (hm : Nat.ble len 9223372036854775807 = true) {d : Nat} (hd : o.dst = some d) (hdn : Nat.blt d n = true) (hI : Fits I w) (hb : base ≤ w.heap.size)
    (hK : ∀ (b : Nat) (w' : World), Own base I w' TA 1 f (List.replicate len z0) (.slice (some ⟨b, 0, none⟩) len len) → w.heap.size ≤ b → Below w.heap.size w w' → ∀ a', Sat n ds ((d, .pointer (some ⟨b, 0, none⟩)) :: E) a' → K a' w') : o.wp P a w K Q :=
  wp_allocArr h ho z hz (List.replicate len z0) len (by simp) (by rw [hc]; exact all2_replicate hf hr len) hlf hm hd hdn hI hb hK
end
end Go.XW
namespace Go.XW
def lt {α ρ : Type} (x : α) (f : α → Option ρ) : Option ρ := f x
theorem lt_eq {α ρ : Type} (x : α) (f : α → Option ρ) : lt x f = f x := by rw [lt]
theorem jn_eq {α β : Type} (f : α → β) (x : α) : jn f x = f x := by rw [jn]
theorem chk_eq {ρ : Type} {c : Prop} [Decidable c] (k : Option ρ) (h : c) : chk c k = k := by rw [chk, if_pos h]
theorem lt_elim {α ρ : Type} {x : α} {f : α → Option ρ} {r : ρ} (h : lt x f = some r) : ∃ t, t = x ∧ f t = some r := ⟨x, rfl, h⟩
end Go.XW
