/- Of no program: slices that a call makes itself: an append, a literal, a make, a store into one; what is told of them when they are handed on. -/
import Derived.Test.YtcmffeaoailoiaaDoorXRes
import Derived.Laws.Append
import Derived.Laws.CopyRow
import Derived.Laws.Build
namespace Go.XW
open Go.RowKit

def Cells {α : Type} (I : Imm) (e : Nat) (f : α → List DD) (l : List α) (xs : List Value) : Prop :=
  ∀ (i j : Nat) (x : α) (q : DD), l[i]? = some x → (f x)[j]? = some q → ∃ u, xs[i * e + j]? = some u ∧ RepV I q u
structure Own {α : Type} (base : Nat) (I : Imm) (w : World) (T : TypeId) (e : Nat) (f : α → List DD) (l : List α) (v : Value) : Prop where
  row : ∃ xs, w.ownsRow base T e v l.length xs ∧ Cells I e f l xs
  away : ∀ g, v.ownBlock = some g → ∀ a, a.block = g → I a = none

section
variable {α : Type} {base : Nat} {I J : Imm} {w w' : World} {T e : Nat} {f : α → List DD} {l : List α} {v : Value}
theorem Cells.mono {xs : List Value} (h : Cells I e f l xs) (hIJ : Ext I J) : Cells J e f l xs := fun i j x q hx hq => by
  obtain ⟨u, hu, hr⟩ := h i j x q hx hq
  exact ⟨u, hu, hr.mono hIJ⟩
theorem Own.nil (base : Nat) (I : Imm) (w : World) (T e : Nat) (f : α → List DD) : Own base I w T e f [] (.slice none 0 0) :=
  ⟨⟨[], World.ownsRow_nil w base T e, fun i j x q hx => by simp at hx⟩, fun g hg => by simp [Value.ownBlock] at hg⟩
theorem Own.form (h : Own base I w T e f l v) : ∃ A c, v = .slice A l.length c ∧ l.length ≤ c ∧ l.length ≤ 9223372036854775807 := by
  obtain ⟨xs, ⟨_, h2⟩, _⟩ := h.row
  rcases h2 with ⟨rfl, hn⟩ | ⟨g, cap, cur, rfl, _, _, hc, hm, _⟩
  · exact ⟨none, 0, by rw [hn], by omega, by omega⟩
  · exact ⟨_, cap, rfl, hc, by simp only [maxLen] at hm; omega⟩
theorem Own.lt (h : Own base I w T e f l v) : ∀ g, v.ownBlock = some g → base ≤ g ∧ g < w.heap.size := by
  obtain ⟨xs, h1, _⟩ := h.row
  exact h1.lt
theorem Own.below (h : Own base I w T e f l v) (hb : Below w.heap.size w w') : Own base I w' T e f l v := by
  obtain ⟨xs, h1, h2⟩ := h.row
  exact ⟨⟨xs, h1.kept (row := none) ⟨hb.os, hb.tape, hb.output, hb.size, fun k hk _ => hb.block k hk⟩ (by cases hv : v.ownBlock <;> simp), h2⟩, h.away⟩
theorem Own.grow {n : Nat} (h : Own base I w T e f l v) (hg : Grow I J n) (hn : w.heap.size ≤ n) : Own base J w T e f l v := by
  obtain ⟨xs, h1, h2⟩ := h.row
  refine ⟨⟨xs, h1, h2.mono hg.ext⟩, fun g hv a ha => ?_⟩
  cases hJ : J a with
  | none => rfl
  | some u =>
    rcases hg.new a u hJ with h3 | h3
    · rw [h.away g hv a ha] at h3; cases h3
    · have := (h.lt g hv).2; omega
/-- Another one of its own is written or grown. -/
theorem Own.other {row : Option Nat} (h : Own base I w T e f l v) (hg : w.grownBy w' row) (hne : ∀ g, v.ownBlock = some g → row ≠ some g) : Own base I w' T e f l v := by
  obtain ⟨xs, h1, h2⟩ := h.row
  refine ⟨⟨xs, h1.kept hg ?_, h2⟩, h.away⟩
  cases hv : v.ownBlock with
  | none => exact .inl rfl
  | some g => exact .inr (fun e => hne g hv e.symm)
/-- What the call's own says is told from now on. -/
def addI (I : Imm) (w : World) (v : Value) : Imm := fun a => match v.ownBlock with
  | some g => if a.block = g then w.cell? a else I a
  | none => I a
theorem Own.addGrow (h : Own base I w T e f l v) : Grow I (addI I w v) base := by
  constructor
  · intro a u hu
    unfold addI
    split
    · rename_i g hg
      split
      · rename_i ha; rw [h.away g hg a ha] at hu; cases hu
      · exact hu
    · exact hu
  · intro a u hu
    unfold addI at hu
    split at hu
    · rename_i g hg
      split at hu
      · rename_i ha; exact .inr (by rw [ha]; exact (h.lt g hg).1)
      · exact .inl hu
    · exact .inl hu
theorem Own.addFits (hf : Fits I w) : Fits (addI I w v) w := by
  intro a u hu
  unfold addI at hu
  split at hu
  · split at hu
    · exact hu
    · exact hf a u hu
  · exact hf a u hu
theorem Own.rep (h : Own base I w T e f l v) : RepV (addI I w v) (SL e f l) v := by
  obtain ⟨xs, ⟨hlen, h2⟩, hc⟩ := h.row
  have hext := h.addGrow.ext
  rcases h2 with ⟨rfl, hn⟩ | ⟨g, cap, cur, rfl, _, hg, hnc, hm, hsz, htake⟩
  · have : l = [] := List.eq_nil_of_length_eq_zero hn
    subst this
    exact .nil _ _
  · have hl : (l.map f).length = l.length := List.length_map ..
    have key : ∀ (i j : Nat) (r : List DD) (d : DD), (l.map f)[i]? = some r → r[j]? = some d → ∃ u, xs[i * e + j]? = some u ∧ RepV I d u := by
      intro i j r d hr hd
      rw [List.getElem?_map, Option.map_eq_some_iff] at hr
      obtain ⟨x, hx, rfl⟩ := hr
      exact hc i j x d hx hd
    have hcell : ∀ (k : Nat) (u : Value), xs[k]? = some u → w.cell? ((⟨g, 0, none⟩ : Addr).add k) = some u := by
      intro k u hu
      have hadd : (⟨g, 0, none⟩ : Addr).add k = ⟨g, k, none⟩ := by unfold Addr.add; split <;> simp_all
      rw [hadd, cell_of_row w g k cur T (0, 0) hg]
      rw [← htake, List.getElem?_take] at hu
      split at hu
      · simpa using hu
      · cases hu
    have hR := RepV.sl (I := addI I w (.slice (some ⟨g, 0, none⟩) l.length cap)) (e := e) (rows := l.map f) (ad := ⟨g, 0, none⟩) (c := cap) (by rw [hl]; exact hnc) (by simpa [maxLen] using hm) (fun i j => xs.getD (i * e + j) undef)
      (fun i j r d hr hd => by
        obtain ⟨u, hu, _⟩ := key i j r d hr hd
        have h3 := hcell _ u hu
        have hb : ((⟨g, 0, none⟩ : Addr).add (i * e + j)).block = g := by unfold Addr.add; split <;> rfl
        simp only [addI, Value.ownBlock, hb, if_true]
        rw [h3]; simp [List.getD, hu])
      (fun i j r d hr hd => by
        obtain ⟨u, hu, hrep⟩ := key i j r d hr hd
        simp only [List.getD, hu, Option.getD_some]
        exact hrep.mono hext)
    rw [hl] at hR
    exact hR
end

section
variable {P : Program} {n : Nat} {ds : List Deferred} {Q : Exit → Act → World → Prop} {E : Env} {a : Act} {w : World} {I : Imm} {o : Oper} {K : Act → World → Prop} {α : Type}
variable {base T e : Nat} {f : α → List DD} {l : List α} {v : Value}

theorem append_block (w : World) (t ty : TypeId) (i : TypeInfo) (z : Value) (ht : P.underlying t = some (.slice T)) (hi : P.info? T = some i) (hz : i.zero = some z) (xs : List Value) (m' : Nat) (hown : w.ownsRow base T i.size v m' xs)
    (ad : Addr) (m c : Nat) (news : List Value) (hl : news.length = m * i.size) (hnews : ∀ j u, news[j]? = some u → w.cell? (ad.add j) = some u) (h1 : ∀ u ∈ news, u.oneCell' = true)
    (h63 : m' + m ≤ 9223372036854775807) (hbytes : (m' + m) * i.bytes ≤ 140737488355328) {v' : Value} {w' : World}
    (hr : (Builtin.append_ #[t, t] ty #[v, .slice (some ad) m c]).run P w = .ok v' w') : v'.ownBlock = v.ownBlock ∨ v'.ownBlock = some w.heap.size := by
  rcases hown.2 with ⟨rfl, rfl⟩ | ⟨g, cap, cur, rfl, hbg, hg, hnc, hcm, hcs, htake⟩
  · by_cases hm : m = 0
    · subst hm
      have hn : news = [] := List.eq_nil_of_length_eq_zero (by simpa using hl)
      subst hn
      have : (Builtin.append_ #[t, t] ty #[.slice none 0 0, .slice (some ad) 0 c]).run P w = .ok (.slice none 0 0) w := by
        simp [Builtin.append_, run_underlying ht, sizeOf, typeInfo, hi, Builtin.lenOf, Builtin.firstCells, loadCells, loadCellsFrom]
      rw [this] at hr
      cases hr
      exact .inl rfl
    · have h2 := run_append_nil (P := P) w t ty T i z ht hi hz ad m c news hl hnews (by omega) (by omega) (by have hb := hbytes; simp only [Nat.zero_add] at hb; omega)
      rw [h2] at hr
      cases hr
      exact .inr rfl
  · by_cases hroom : m' + m ≤ cap
    · have hfit : m' * i.size + news.length ≤ cur.size := by rw [hl, hcs, ← Nat.add_mul]; exact Nat.mul_le_mul_right _ hroom
      have h2 := run_append_room (P := P) w t ty T i ht hi g m' cap cur hg ad m c news hl hnews h1 hroom hfit
      rw [h2] at hr
      cases hr
      exact .inl rfl
    · have holds : ∀ j u, xs[j]? = some u → w.cell? ((⟨g, 0, none⟩ : Addr).add j) = some u := hown.cells (g := g) rfl
      have h2 := run_append_grow (P := P) w t ty T i z ht hi hz ⟨g, 0, none⟩ m' cap xs hown.1 holds ad m c news hl hnews (by omega) (by omega) (growslice_fits (by omega) hbytes)
      rw [h2] at hr
      cases hr
      exact .inr rfl

/-- What is behind an append: the row with the new ones; its block is the old one or a new one. -/
theorem wp_append (h : Sat n ds E a) (s x : Operand) (t : TypeId) (ho : o.op = .call { callee := .builtin .append, args := #[s, x], argTypes := #[t, t] }) (bytes : Nat) (z : Value)
    (ht : P.underlying t = some (.slice T)) (hi : (P.info? T).map (fun i => (i.zero, i.size, i.bytes)) = some (some z, e, bytes)) (hzs : z.cells.size = e) (he : 0 < e)
    (hs : ev E s = some v) (hown : Own base I w T e f l v) (ad : Addr) (ys : List α) (c : Nat) (hx : ev E x = some (.slice (some ad) ys.length c)) (hI : Fits I w)
    (cs : List Value) (hl : cs.length = ys.length * e) (hcs : Cells I e f ys cs) (hnews : ∀ (j : Nat) (u : Value), cs[j]? = some u → w.cell? (ad.add j) = some u) (h1 : ∀ u ∈ cs, u.oneCell' = true)
    (hlim : (l.length + ys.length) * bytes ≤ 140737488355328) (h63 : l.length + ys.length ≤ 9223372036854775807) (hbase : base ≤ w.heap.size)
    (hK : ∀ v' w', Own base I w' T e f (l ++ ys) v' → w.grownBy w' v.ownBlock → (v'.ownBlock = v.ownBlock ∨ v'.ownBlock = some w.heap.size) → Fits I w' → ∃ E', dstE n E o.dst v' = some E' ∧ ∀ a', Sat n ds E' a' → K a' w') : o.wp P a w K Q := by
  cases hinfo : P.info? T with
  | none => rw [hinfo] at hi; simp at hi
  | some i =>
    rw [hinfo] at hi
    simp only [Option.map_some, Option.some.injEq, Prod.mk.injEq] at hi
    obtain ⟨hz, rfl, rfl⟩ := hi
    obtain ⟨xs, hrow, hcells⟩ := hown.row
    obtain ⟨v', w', hr, h2, h3, h4⟩ := run_append_own (P := P) w base t o.type T i z i.size i.bytes ht hinfo hz rfl rfl hzs he v l.length xs hrow ad ys.length c cs hl hnews h1 (by simpa [maxLen] using h63) hlim hbase
    have hblk := append_block (P := P) w t o.type i z ht hinfo hz xs l.length hrow ad ys.length c cs hl hnews h1 h63 hlim hr
    have hlen := hrow.1
    unfold Oper.wp execOp
    simp only [ho, resolve, invoke, builtin, Sem.run_bind, Sem.run_pure, Result.andThen_ok, List.map_toArray, List.map_cons, List.map_nil, h.eval hs, h.eval hx, hr]
    have hfits : Fits I w' := fun a u hu => by
      have hne : some a.block ≠ v.ownBlock := fun e => by rw [hown.away a.block e.symm a rfl] at hu; cases hu
      exact h3.cell (hI a u hu) hne
    have hnew : Own base I w' T i.size f (l ++ ys) v' := by
      refine ⟨⟨xs ++ cs, by rw [List.length_append]; exact h2, ?_⟩, ?_⟩
      · intro p q y d hy hd
        by_cases hp : p < l.length
        · rw [List.getElem?_append_left hp] at hy
          obtain ⟨u, hu, hrep⟩ := hcells p q y d hy hd
          exact ⟨u, by rw [List.getElem?_append_left (List.getElem?_eq_some_iff.1 hu).1]; exact hu, hrep⟩
        · rw [List.getElem?_append_right (by omega)] at hy
          obtain ⟨u, hu, hrep⟩ := hcs _ q y d hy hd
          refine ⟨u, ?_, hrep⟩
          have hge : l.length * i.size ≤ p * i.size := Nat.mul_le_mul_right _ (by omega)
          rw [List.getElem?_append_right (by rw [hlen]; omega), hlen]
          have : p * i.size + q - l.length * i.size = (p - l.length) * i.size + q := by rw [Nat.sub_mul]; omega
          rw [this]; exact hu
      · intro g hg a ha
        rcases hblk with hb | hb
        · exact hown.away g (hb ▸ hg) a ha
        · rw [hb] at hg
          cases hI' : I a with
          | none => rfl
          | some u => have := hI.lt hI'; simp only [Option.some.injEq] at hg; omega
    obtain ⟨E', hd, hK⟩ := hK v' w' hnew h3 hblk hfits
    exact hK _ (h.dst hd)
/-- Nothing is appended. -/
theorem wp_append0 (h : Sat n ds E a) (s x : Operand) (t : TypeId) (ho : o.op = .call { callee := .builtin .append, args := #[s, x], argTypes := #[t, t] }) (ht : P.underlying t = some (.slice T)) (hi : (P.info? T).map (·.size) = some e)
    (hs : ev E s = some v) (hown : Own base I w T e f l v) (c : Nat) (hx : ev E x = some (.slice none 0 c)) (hK : ∃ E', dstE n E o.dst v = some E' ∧ ∀ a', Sat n ds E' a' → K a' w) : o.wp P a w K Q := by
  cases hinfo : P.info? T with
  | none => rw [hinfo] at hi; simp at hi
  | some i =>
    obtain ⟨A, c', rfl, hc, _⟩ := hown.form
    have : (Builtin.append_ #[t, t] o.type #[.slice A l.length c', .slice none 0 c]).run P w = .ok (.slice A l.length c') w := by
      cases A <;> simp [Builtin.append_, run_underlying ht, sizeOf, typeInfo, hinfo, Builtin.lenOf, Builtin.firstCells, hc, storeCells]
    unfold Oper.wp execOp
    simp only [ho, resolve, invoke, builtin, Sem.run_bind, Sem.run_pure, Result.andThen_ok, List.map_toArray, List.map_cons, List.map_nil, h.eval hs, h.eval hx, this]
    obtain ⟨E', hd, hK⟩ := hK
    exact hK _ (h.dst hd)
/-- What may be appended: it lies in cells. -/
def Src (I : Imm) (w : World) (e : Nat) (f : α → List DD) (ys : List α) (v : Value) : Prop :=
  ∃ A c, v = .slice A ys.length c ∧ (A = none → ys = []) ∧ ∀ ad, A = some ad → ∃ cs : List Value, cs.length = ys.length * e ∧ Cells I e f ys cs ∧ (∀ (j : Nat) (u : Value), cs[j]? = some u → w.cell? (ad.add j) = some u) ∧ ∀ u ∈ cs, u.oneCell' = true
def leafB : DD → Bool
  | .val v => v.oneCell'
  | .sl .. => true
  | _ => false
def LeafOk (e : Nat) (f : α → List DD) : Prop := ∀ x, (f x).length = e ∧ (f x).all leafB = true
theorem leaf_one {q : DD} {u : Value} (h : RepV I q u) (hq : leafB q = true) : u.oneCell' = true := by
  cases h with
  | val v => exact hq
  | agg => simp [leafB] at hq
  | tup => simp [leafB] at hq
  | nil => rfl
  | sl => rfl
theorem pos_of {e k m : Nat} (h : k < m * e) : k / e < m ∧ k % e < e ∧ k / e * e + k % e = k := by
  have he : 0 < e := by
    rcases Nat.eq_zero_or_pos e with h0 | h0
    · subst h0; simp at h
    · exact h0
  refine ⟨Nat.div_lt_of_lt_mul (by rw [Nat.mul_comm]; exact h), Nat.mod_lt _ he, ?_⟩
  rw [Nat.mul_comm]; exact Nat.div_add_mod k e
theorem Cells.one {ys : List α} {cs : List Value} (hlf : LeafOk e f) (h : Cells I e f ys cs) (hl : cs.length = ys.length * e) : ∀ u ∈ cs, u.oneCell' = true := by
  intro u hu
  obtain ⟨k, hk⟩ := List.mem_iff_getElem?.1 hu
  have hlt : k < ys.length * e := by rw [← hl]; exact (List.getElem?_eq_some_iff.1 hk).1
  obtain ⟨h1, h2, h3⟩ := pos_of hlt
  have hx : ys[k / e]? = some ys[k / e] := List.getElem?_eq_getElem h1
  obtain ⟨hfl, hfb⟩ := hlf ys[k / e]
  have hq : (f ys[k / e])[k % e]? = some ((f ys[k / e])[k % e]'(by omega)) := List.getElem?_eq_getElem (by omega)
  obtain ⟨u', hu', hr⟩ := h (k / e) (k % e) _ _ hx hq
  rw [h3, hk] at hu'
  cases hu'
  exact leaf_one hr (List.all_eq_true.1 hfb _ (List.getElem_mem _))
theorem Src.own {ys : List α} {v2 : Value} {base2 : Nat} {T2 : Nat} (hlf : LeafOk e f) (h : Own base2 I w T2 e f ys v2) : Src I w e f ys v2 := by
  obtain ⟨xs, hrow, hc⟩ := h.row
  have hone := hc.one hlf hrow.1
  have hcells := fun (g : Nat) (hg : v2.ownBlock = some g) => hrow.cells hg
  have hl := hrow.1
  rcases hrow.2 with ⟨rfl, hn⟩ | ⟨g, cap, cur, rfl, _, _, _, _, _⟩
  · exact ⟨none, 0, by rw [hn], (fun _ => List.eq_nil_of_length_eq_zero hn), (fun ad h => by cases h)⟩
  · refine ⟨_, cap, rfl, (fun h => by cases h), fun ad had => ?_⟩
    cases had
    exact ⟨xs, hl, hc, hcells g rfl, hone⟩
theorem Src.rep {ys : List α} {v2 : Value} (hlf : LeafOk e f) (hI : Fits I w) (h : RepV I (SL e f ys) v2) : Src I w e f ys v2 := by
  obtain ⟨A, c, rfl, hle, hm⟩ := SL_len h
  refine ⟨A, c, rfl, fun hA => ?_, fun ad hA => ?_⟩
  · subst hA
    cases ys with
    | nil => rfl
    | cons y ys =>
      obtain ⟨ad, h1, _⟩ := SL_nth h (j := 0) (x := y) rfl
      cases h1
  · subst hA
    have key : ∀ k, k < ys.length * e → ∃ u q, I (ad.add k) = some u ∧ RepV I q u ∧ leafB q = true ∧ ∀ (x : α), ys[k / e]? = some x → (f x)[k % e]? = some q := by
      intro k hk
      obtain ⟨h1, h2, h3⟩ := pos_of hk
      have hx : ys[k / e]? = some ys[k / e] := List.getElem?_eq_getElem h1
      obtain ⟨hfl, hfb⟩ := hlf ys[k / e]
      have hq : (f ys[k / e])[k % e]? = some ((f ys[k / e])[k % e]'(by omega)) := List.getElem?_eq_getElem (by omega)
      obtain ⟨ad', h4, h5⟩ := SL_nth h hx
      cases h4
      obtain ⟨u, hu, hr⟩ := h5 _ _ hq
      rw [addr_add_add, h3] at hu
      exact ⟨u, _, hu, hr, List.all_eq_true.1 hfb _ (List.getElem_mem _), fun x hx' => by rw [hx] at hx'; cases hx'; exact hq⟩
    have hg : ∀ k, k < ys.length * e → I (ad.add k) = some ((I (ad.add k)).getD undef) := fun k hk => by obtain ⟨u, q, hu, _⟩ := key k hk; rw [hu]; rfl
    have hget : ∀ (k : Nat) (u : Value), ((List.range (ys.length * e)).map fun k => (I (ad.add k)).getD undef)[k]? = some u → k < ys.length * e ∧ I (ad.add k) = some u := by
      intro k u hu
      rw [List.getElem?_map, Option.map_eq_some_iff] at hu
      obtain ⟨k', hk', rfl⟩ := hu
      have hlt : k < ys.length * e := by have := (List.getElem?_eq_some_iff.1 hk').1; simpa using this
      rw [List.getElem?_range hlt] at hk'
      cases hk'
      exact ⟨hlt, hg _ hlt⟩
    refine ⟨(List.range (ys.length * e)).map fun k => (I (ad.add k)).getD undef, by simp, ?_, fun j u hu => hI _ _ (hget j u hu).2, ?_⟩
    · intro i j x q hx hq
      have hi : i < ys.length := (List.getElem?_eq_some_iff.1 hx).1
      obtain ⟨hfl, _⟩ := hlf x
      have hj : j < e := by have := (List.getElem?_eq_some_iff.1 hq).1; omega
      have hk : i * e + j < ys.length * e := by
        have : (i + 1) * e ≤ ys.length * e := Nat.mul_le_mul_right _ hi
        rw [Nat.add_mul] at this; omega
      obtain ⟨ad', h4, h5⟩ := SL_nth h hx
      cases h4
      obtain ⟨u, hu, hr⟩ := h5 _ _ hq
      rw [addr_add_add] at hu
      refine ⟨u, ?_, hr⟩
      rw [List.getElem?_map, List.getElem?_range hk, Option.map_some, hu]; rfl
    · intro u hu
      obtain ⟨k, hk⟩ := List.mem_iff_getElem?.1 hu
      obtain ⟨hlt, hu'⟩ := hget k u hk
      obtain ⟨u', q, h6, h7, h8, _⟩ := key k hlt
      rw [h6] at hu'
      cases hu'
      exact leaf_one h7 h8
/-- An append, whatever is appended. -/
theorem wp_app (h : Sat n ds E a) (s x : Operand) (t : TypeId) (ho : o.op = .call { callee := .builtin .append, args := #[s, x], argTypes := #[t, t] }) (bytes : Nat) (z : Value)
    (ht : P.underlying t = some (.slice T)) (hi : (P.info? T).map (fun i => (i.zero, i.size, i.bytes)) = some (some z, e, bytes)) (hzs : z.cells.size = e) (he : 0 < e)
    (hs : ev E s = some v) (hown : Own base I w T e f l v) (ys : List α) {v2 : Value} (hx : ev E x = some v2) (hsrc : Src I w e f ys v2) (hI : Fits I w)
    (hlim : (l.length + ys.length) * bytes ≤ 140737488355328) (h63 : l.length + ys.length ≤ 9223372036854775807) (hbase : base ≤ w.heap.size) {d : Nat} (hd : o.dst = some d) (hdn : Nat.blt d n = true)
    (hK : ∀ v' w', Own base I w' T e f (l ++ ys) v' → w.grownBy w' v.ownBlock → (v'.ownBlock = v.ownBlock ∨ v'.ownBlock = some w.heap.size) → Fits I w' → ∀ a', Sat n ds ((d, v') :: E) a' → K a' w') : o.wp P a w K Q := by
  have hde : ∀ v', dstE n E o.dst v' = some ((d, v') :: E) := fun v' => by rw [hd]; simp only [dstE, hdn]
  obtain ⟨A, c, rfl, hnone, hsome⟩ := hsrc
  cases A with
  | none =>
    have := hnone rfl
    subst this
    refine wp_append0 h s x t ho ht (by cases hq : P.info? T with | none => rw [hq] at hi; simp at hi | some i => rw [hq] at hi; simp at hi; simp [hi]) hs hown c hx ⟨_, hde _, fun a' ha => ?_⟩
    exact hK v w (by rw [List.append_nil]; exact hown) ⟨rfl, rfl, rfl, Nat.le_refl _, fun _ _ _ => rfl⟩ (.inl rfl) hI a' ha
  | some ad =>
    obtain ⟨cs, h1, h2, h3, h4⟩ := hsome ad rfl
    exact wp_append h s x t ho bytes z ht hi hzs he hs hown ad ys c hx hI cs h1 h2 h3 h4 hlim h63 hbase (fun v' w' h5 h6 h7 h8 => ⟨_, hde _, fun a' ha => hK v' w' h5 h6 h7 h8 a' ha⟩)

/-! ### A literal -/
theorem cells_flat (hlf : LeafOk e f) : ∀ (ys : List α) (cs : List Value), All2 I (ys.flatMap f) cs → Cells I e f ys cs ∧ cs.length = ys.length * e
  | [], cs, h => by
    have := All2.nil_inv h
    subst this
    exact ⟨fun i j x q hx => by simp at hx, by simp⟩
  | y :: ys, cs, h => by
    obtain ⟨hfl, _⟩ := hlf y
    obtain ⟨hlen, hget⟩ := All2.back h
    have hlen' : cs.length = e + (ys.flatMap f).length := by rw [hlen, List.flatMap_cons, List.length_append, hfl]
    have hrest : All2 I (ys.flatMap f) (cs.drop e) := All2.of (by rw [List.length_drop]; omega) (fun i d u hd hu => by
      rw [List.getElem?_drop] at hu
      refine hget (e + i) d u ?_ hu
      rw [List.flatMap_cons, List.getElem?_append_right (by omega), hfl]
      rw [show e + i - e = i from by omega]; exact hd)
    obtain ⟨h1, h2⟩ := cells_flat hlf ys (cs.drop e) hrest
    have hflen : (ys.flatMap f).length = ys.length * e := by rw [List.length_drop] at h2; omega
    refine ⟨fun i j x q hx hq => ?_, by rw [hlen', hflen, List.length_cons, Nat.add_mul]; omega⟩
    cases i with
    | zero =>
      simp at hx; subst hx
      have hj : j < e := by have := (List.getElem?_eq_some_iff.1 hq).1; omega
      have hcs : cs[j]? = some (cs[j]'(by omega)) := List.getElem?_eq_getElem (by omega)
      refine ⟨_, by rw [Nat.zero_mul, Nat.zero_add]; exact hcs, hget j q _ ?_ hcs⟩
      rw [List.flatMap_cons, List.getElem?_append_left (by omega)]; exact hq
    | succ i =>
      obtain ⟨u, hu, hr⟩ := h1 i j x q (by simpa using hx) hq
      refine ⟨u, ?_, hr⟩
      rw [List.getElem?_drop] at hu
      rw [← hu, Nat.add_mul]; congr 1; omega
theorem Own.made (hlf : LeafOk e f) (hI : Fits I w) (hb : base ≤ w.heap.size) (ys : List α) (cs : Array Value) (h : All2 I (ys.flatMap f) cs.toList) (hm : ys.length ≤ 9223372036854775807) :
    Own base I (w.alloc (.cells cs T)) T e f ys (.slice (some ⟨w.heap.size, 0, none⟩) ys.length ys.length) := by
  obtain ⟨h1, h2⟩ := cells_flat hlf ys _ h
  refine ⟨⟨cs.toList, ⟨h2, .inr ⟨w.heap.size, ys.length, cs, rfl, hb, heap_alloc_new w _, Nat.le_refl _, by simpa [maxLen] using hm, by simpa using h2, ?_⟩⟩, h1⟩, fun g hg a ha => ?_⟩
  · rw [List.take_of_length_le (by omega)]
  · simp only [Value.ownBlock, Option.some.injEq] at hg
    cases hJ : I a with
    | none => rfl
    | some u => have := hI.lt hJ; omega
theorem run_buildSlice' (w : World) {t : TypeId} {len e' : Nat} {parts : Array (Nat × Value)} {z : Value} {cells : Array Value} (ht : P.underlying t = some (.slice T)) (hi : (P.info? T).map (fun i => (i.zero, i.size)) = some (some z, e'))
    (hlim : len * e' ≤ 16777216) (hpos : len * e' ≠ 0) (hfill : Instr.fill (fun i => some (i * e', e')) ((Array.range (len * e')).map (z.cells[· % z.cells.size]!)) parts.toList = some cells) :
    (Instr.buildSlice t len parts).run P w = .ok (.slice (some ⟨w.heap.size, 0, none⟩) len len) (w.alloc (.cells cells T)) := by
  cases hinfo : P.info? T with
  | none => rw [hinfo] at hi; simp at hi
  | some i =>
    rw [hinfo] at hi
    simp only [Option.map_some, Option.some.injEq, Prod.mk.injEq] at hi
    obtain ⟨hz, rfl⟩ := hi
    have h1 : ¬ (len * i.size > 2 ^ 24) := by omega
    simp [Instr.buildSlice, run_underlying ht, sizeOf, typeInfo, hinfo, h1, hpos, zeroValue, hz, hfill]
    rfl
theorem wp_buildSlice (h : Sat n ds E a) {t : TypeId} {len : Nat} {parts : Array (Nat × Operand)} (ho : o.op = .buildSlice t len parts) (vs : List (Nat × Value)) (hp : (parts.toList.mapM fun p => (ev E p.2).map fun v => (p.1, v)) = some vs)
    (z : Value) (ht : P.underlying t = some (.slice T)) (hi : (P.info? T).map (fun i => (i.zero, i.size)) = some (some z, e)) (hlim : Nat.ble (len * e) 16777216 = true) (hpos : Nat.beq (len * e) 0 = false)
    (cells : Array Value) (hfill : Instr.fill (fun i => some (i * e, e)) ((Array.range (len * e)).map (z.cells[· % z.cells.size]!)) vs = some cells)
    {d : Nat} (hd : o.dst = some d) (hdn : Nat.blt d n = true) (hK : ∀ a', Sat n ds ((d, .slice (some ⟨w.heap.size, 0, none⟩) len len) :: E) a' → K a' (w.alloc (.cells cells T))) : o.wp P a w K Q := by
  have hparts : (parts.map fun (i, x) => (i, a.eval x)) = vs.toArray := by
    have key : ∀ (l : List (Nat × Operand)) (vs : List (Nat × Value)), (l.mapM fun p => (ev E p.2).map fun v => (p.1, v)) = some vs → l.map (fun p => (p.1, a.eval p.2)) = vs := by
      intro l
      induction l with
      | nil => intro vs hv; simp at hv; subst hv; rfl
      | cons x l ih =>
        intro vs hv
        simp only [List.mapM_cons, Option.bind_eq_bind, Option.bind_eq_some_iff, Option.pure_def, Option.some.injEq] at hv
        obtain ⟨v, hx, r, hr, rfl⟩ := hv
        obtain ⟨u, hu, rfl⟩ := Option.map_eq_some_iff.1 hx
        rw [List.map_cons, h.eval hu, ih r hr]
    have := key _ _ hp
    apply Array.ext'
    simpa using this
  have hne : len * e ≠ 0 := fun e0 => by rw [e0] at hpos; simp at hpos
  have hr := run_buildSlice' (P := P) w (parts := vs.toArray) ht hi (by simpa using Nat.le_of_ble_eq_true hlim) hne hfill
  have hde : dstE n E o.dst (.slice (some ⟨w.heap.size, 0, none⟩) len len) = some ((d, .slice (some ⟨w.heap.size, 0, none⟩) len len) :: E) := by rw [hd]; simp only [dstE, hdn]
  unfold Oper.wp
  simp only [execOp, ho, hparts, Sem.run_bind, hr, Result.andThen_ok, Sem.run_pure]
  exact hK _ (h.dst hde)
end
end Go.XW
