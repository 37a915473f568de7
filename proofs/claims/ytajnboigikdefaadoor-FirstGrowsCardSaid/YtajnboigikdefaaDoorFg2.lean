/- Texts that the proof of a law rests on, put together: part 2. -/
import Derived.Test.YtajnboigikdefaaDoorFg1
import Derived.Laws.AppendOwn
import Derived.Laws.Tables
import Derived.Lib.FrozenHead
namespace Go.EV
open Go Go.RowKit
set_option linter.unusedVariables false
set_option linter.unusedSimpArgs false
variable {C : Cx} {H : Heap} {base : Nat} {w w' : World}
theorem Heap.get_set_same (H : Heap) (b : Nat) (B : Blk) (h : b < 2 ^ 40 - 1) : (H.set b B).get b = some B := Tr.get_set_same B 40 H.t b h
theorem Heap.get_set_ne (H : Heap) (b j : Nat) (B : Blk) (h : j ≠ b) : (H.set b B).get j = H.get j := Tr.get_set_ne B 40 H.t b j h
theorem Heap.get_push_same (H : Heap) (B : Blk) (h : H.nb < 2 ^ 40 - 1) : (H.push B).get H.nb = some B := Tr.get_set_same B 40 H.t H.nb h
theorem Heap.get_push_ne (H : Heap) (j : Nat) (B : Blk) (h : j ≠ H.nb) : (H.push B).get j = H.get j := Tr.get_set_ne B 40 H.t H.nb j h
theorem Mem.read (h : Mem C H base w) {b v n : Nat} {B : Blk} {loc : Loc} (hB : H.get b = some B) (hv : (v, n) ∈ B.vers) (hl : C.at_ b v = some loc) {i k : Nat} (hlo : loc.lo ≤ i) (hk : i + k ≤ n) :
    ∃ us, Dens C ((B.cells.drop i).take k) us ∧ us.length = k ∧ (∀ j u, us[j]? = some u → w.cell? ((loc.ad i).add j) = some u) ∧ ∀ w' : World, w'.heap[loc.blk]? = w.heap[loc.blk]? → ∀ j u, us[j]? = some u → w'.cell? ((loc.ad i).add j) = some u := by
  have L := (h.blk b B hB).2
  have key : ∀ j, j < k → ∃ d u, B.cells[i + j]? = some d ∧ w.cell? (loc.ad (i + j)) = some u ∧ Den C d u := fun j hj => L.cell v n loc hv hl (i + j) (by omega) (by omega)
  let f : Nat → Value := fun j => (w.cell? (loc.ad (i + j))).getD undef
  have hget : ∀ j u, ((List.range k).map f)[j]? = some u → j < k ∧ w.cell? (loc.ad (i + j)) = some u := by
    intro j u hu
    rw [List.getElem?_map, Option.map_eq_some_iff] at hu
    obtain ⟨j', hj', rfl⟩ := hu
    have hjk : j < k := by have := (List.getElem?_eq_some_iff.1 hj').1; simpa using this
    rw [List.getElem?_range hjk] at hj'
    cases hj'
    obtain ⟨d, u, _, hu, _⟩ := key j hjk
    refine ⟨hjk, ?_⟩
    show _ = some ((w.cell? (loc.ad (i + j))).getD undef)
    rw [hu]; rfl
  have hlen : ((B.cells.drop i).take k).length = k := by
    rw [List.length_take, List.length_drop]
    rcases Nat.eq_zero_or_pos k with h0 | h0
    · omega
    · obtain ⟨d, u, hd, _⟩ := key (k - 1) (by omega)
      have := (List.getElem?_eq_some_iff.1 hd).1
      omega
  refine ⟨(List.range k).map f, ⟨by simp [hlen], fun j d u hd hu => ?_⟩, by simp, fun j u hu => ?_, fun w2 hw j u hu => ?_⟩
  · obtain ⟨hj, hu⟩ := hget j u hu
    rw [List.getElem?_take, if_pos hj, List.getElem?_drop] at hd
    obtain ⟨d', u', hd', hu', hD⟩ := key j hj
    rw [hd] at hd'; rw [hu] at hu'
    cases hd'; cases hu'; exact hD
  · obtain ⟨hj, hu⟩ := hget j u hu
    rw [Loc.add _ _ _ hlo]; exact hu
  · obtain ⟨hj, hu⟩ := hget j u hu
    rw [Loc.add _ _ _ hlo]
    rw [cell_of_heap (w := w) (a := loc.ad (i + j)) hw]; exact hu
theorem Mem.alloc (h : Mem C H base w) (hok : H.nb < 2 ^ 40 - 1) (arr : Array Value) (cells : List AV) (elem : TypeId) (hd : Dens C cells (arr.toList.take cells.length)) (hle : cells.length ≤ arr.size)
    (hw : w'.heap = w.heap.push (.cells arr elem)) (ho : w'.os = w.os) (ht : w'.tape = w.tape) (hp : w'.output = w.output) :
    ∃ C', Step C C' H (H.push ⟨cells, elem, [(0, cells.length)], 1, 0, false, 0, none⟩) base w w' ∧ C'.at_ H.nb 0 = some ⟨w.heap.size, 0, 0, arr.size, cells.length⟩ := by
  have hfresh : ∀ v loc, C.at_ H.nb v ≠ some loc := fun v loc hl => by
    obtain ⟨B, hB⟩ := h.known _ _ _ hl
    have := (h.blk _ B hB).1
    omega
  let loc : Loc := ⟨w.heap.size, 0, 0, arr.size, cells.length⟩
  let C' : Cx := ⟨fun b v => if b = H.nb ∧ v = 0 then some loc else C.at_ b v, C.unk⟩
  have hE : Ext C C' := ⟨fun b v l hl => by
    have hne : ¬ (b = H.nb ∧ v = 0) := fun e => hfresh v l (e.1 ▸ hl)
    show (if b = H.nb ∧ v = 0 then some loc else C.at_ b v) = some l
    rw [if_neg hne]; exact hl, rfl⟩
  have hnew : C'.at_ H.nb 0 = some loc := by show (if H.nb = H.nb ∧ 0 = 0 then some loc else _) = _; rw [if_pos ⟨rfl, rfl⟩]
  have hat : ∀ v l, C'.at_ H.nb v = some l → v = 0 ∧ l = loc := fun v l hl => by
    by_cases e : v = 0
    · subst e; rw [hnew] at hl; cases hl; exact ⟨rfl, rfl⟩
    · have : C'.at_ H.nb v = C.at_ H.nb v := by show (if H.nb = H.nb ∧ v = 0 then some loc else _) = _; rw [if_neg (fun x => e x.2)]
      rw [this] at hl; exact absurd hl (hfresh v l)
  have hold : ∀ k, k < w.heap.size → w'.heap[k]? = w.heap[k]? := fun k hk => by rw [hw, Array.getElem?_push, if_neg (by omega)]
  have hheap : w'.heap[w.heap.size]? = some (.cells arr elem) := by rw [hw, Array.getElem?_push, if_pos rfl]
  have hsize : w'.heap.size = w.heap.size + 1 := by rw [hw]; simp
  refine ⟨C', ⟨hE, ?_, ⟨ho, ht, hp, by omega, fun k hk => hold k (Nat.lt_of_lt_of_le hk h.base)⟩, fun b B hB => ⟨B, ?_, Nat.le_refl _, fun _ v l hl => ?_⟩, fun k hk hn => ⟨hold k hk, fun b v l hl => ?_⟩⟩, hnew⟩
  · refine h.upd hE (b := H.nb) (fun b' v hb => ?_) (Heap.get_push_same H _ hok) (fun b' hb => Heap.get_push_ne H b' _ hb) (Nat.le_succ _) (Nat.lt_succ_self _) ?_ (fun k hk _ => hold k hk) (by omega) (fun v l hl => ?_)
    · show (if b' = H.nb ∧ v = 0 then some loc else C.at_ b' v) = _
      have hne : ¬ (b' = H.nb ∧ v = 0) := fun e => hb e.1
      rw [if_neg hne]
    · refine ⟨fun v n hv => ?_, fun v l hl => ?_, fun v n l hv hl => ?_, fun v n l hv hl i h1 h2 => ?_, fun v n v' n' l l' hv hv' hl hl' _ => ?_, fun _ v l hl => ?_, fun a ha => (by cases ha), fun l hl => by obtain ⟨_, rfl⟩ := hat 0 l hl; exact ⟨rfl, rfl⟩⟩
      · simp only [List.mem_singleton, Prod.mk.injEq] at hv
        obtain ⟨rfl, rfl⟩ := hv
        exact ⟨loc, hnew, rfl⟩
      · obtain ⟨rfl, rfl⟩ := hat v l hl
        exact ⟨Nat.zero_lt_one, by rw [hsize]; exact Nat.lt_succ_self _⟩
      · obtain ⟨rfl, rfl⟩ := hat v l hl
        exact ⟨arr, 0, 0, hheap, rfl, Nat.zero_le _⟩
      · obtain ⟨rfl, rfl⟩ := hat v l hl
        simp only [List.mem_singleton, Prod.mk.injEq] at hv
        obtain ⟨_, rfl⟩ := hv
        have hcell : w'.cell? (loc.ad i) = arr[i]? := by
          simp [World.cell?, Loc.ad, loc, hheap]
        have hi : i < arr.size := by omega
        have hdi : cells[i]? = some cells[i] := List.getElem?_eq_getElem h2
        have hui : (arr.toList.take cells.length)[i]? = some arr[i] := by rw [List.getElem?_take, if_pos h2]; simp [hi]
        exact ⟨cells[i], arr[i], hdi, by rw [hcell]; simp [hi], (hd.2 i _ _ hdi hui).mono hE⟩
      · obtain ⟨_, rfl⟩ := hat v l hl
        obtain ⟨_, rfl⟩ := hat v' l' hl'
        rfl
      · obtain ⟨_, rfl⟩ := hat v l hl
        exact h.base
    · obtain ⟨_, rfl⟩ := hat v l hl
      exact .inr (.inl (Nat.le_refl _))
  · rw [Heap.get_push_ne H b _ (by have := (h.blk b B hB).1; omega)]; exact hB
  · exact hold _ (((h.blk b B hB).2.ver v l hl).2)
  · by_cases e : b = H.nb
    · subst e
      obtain ⟨_, rfl⟩ := hat v l hl
      show w.heap.size ≠ k
      omega
    · have hne : ¬ (b = H.nb ∧ v = 0) := fun x => e x.1
      have : C'.at_ b v = C.at_ b v := by show (if b = H.nb ∧ v = 0 then some loc else _) = _; rw [if_neg hne]
      rw [this] at hl
      exact hn b v l hl
theorem patch_get (l us : List Value) (o j : Nat) (h : o + us.length ≤ l.length) :
    (l.take o ++ us ++ l.drop (o + us.length))[j]? = if j < o then l[j]? else if j < o + us.length then us[j - o]? else l[j]? := by
  have hlt : (l.take o).length = o := by rw [List.length_take]; omega
  by_cases h1 : j < o
  · rw [if_pos h1, List.append_assoc, List.getElem?_append_left (by omega), List.getElem?_take, if_pos h1]
  · rw [if_neg h1]
    by_cases h2 : j < o + us.length
    · rw [if_pos h2, List.getElem?_append_left (by rw [List.length_append]; omega), List.getElem?_append_right (by omega), hlt]
    · rw [if_neg h2, List.getElem?_append_right (by rw [List.length_append]; omega), List.getElem?_drop, List.length_append, hlt]
      congr 1; omega
theorem patchD_get (l ds : List AV) (i j : Nat) (h : i ≤ l.length) :
    (l.take i ++ ds ++ l.drop (i + ds.length))[j]? = if j < i then l[j]? else if j < i + ds.length then ds[j - i]? else l[j]? := by
  have hlt : (l.take i).length = i := by rw [List.length_take]; omega
  by_cases h1 : j < i
  · rw [if_pos h1, List.append_assoc, List.getElem?_append_left (by omega), List.getElem?_take, if_pos h1]
  · rw [if_neg h1]
    by_cases h2 : j < i + ds.length
    · rw [if_pos h2, List.getElem?_append_left (by rw [List.length_append]; omega), List.getElem?_append_right (by omega), hlt]
    · rw [if_neg h2, List.getElem?_append_right (by rw [List.length_append]; omega), List.getElem?_drop, List.length_append, hlt]
      congr 1; omega
theorem row_cell (w : World) {g : Nat} {arr : Array Value} {t : TypeId} {fr : Nat × Nat} (hg : w.heap[g]? = some (.cells arr t fr)) (us : List Value) (o j : Nat) (h : o + us.length ≤ arr.size) :
    (w.setRow g (arr.toList.take o ++ us ++ arr.toList.drop (o + us.length)).toArray).cell? ⟨g, j, none⟩ = if j < o then w.cell? ⟨g, j, none⟩ else if j < o + us.length then us[j - o]? else w.cell? ⟨g, j, none⟩ := by
  have hold : w.cell? ⟨g, j, none⟩ = arr[j]? := by simp [World.cell?, hg]
  rw [cell_setRow_same w g j arr _ t fr hg, hold, List.getElem?_toArray, patch_get _ _ _ _ (by simpa using h), Array.getElem?_toList]
def keepV (v i : Nat) : List (Nat × Nat) → List (Nat × Nat)
  | [] => []
  | (a, n) :: r => match Nat.beq a v, Nat.ble n i with
    | false, false => keepV v i r
    | _, _ => (a, n) :: keepV v i r
theorem mem_keepV {v i a n : Nat} : ∀ (l : List (Nat × Nat)), (a, n) ∈ keepV v i l → (a, n) ∈ l ∧ (a = v ∨ n ≤ i)
  | [], h => by simp [keepV] at h
  | (b, m) :: r, h => by
    simp only [keepV] at h
    split at h
    · have := mem_keepV r h
      exact ⟨List.mem_cons_of_mem _ this.1, this.2⟩
    · rename_i hne
      rcases List.mem_cons.1 h with e | h'
      · cases e
        refine ⟨List.mem_cons_self, ?_⟩
        cases h1 : Nat.beq a v with
        | true => exact .inl (Nat.eq_of_beq_eq_true h1)
        | false =>
          cases h2 : Nat.ble n i with
          | true => exact .inr (Nat.le_of_ble_eq_true h2)
          | false => exact absurd h2 (fun h2 => hne h1 h2)
      · have := mem_keepV r h'
        exact ⟨List.mem_cons_of_mem _ this.1, this.2⟩
def belowV (i : Nat) : List (Nat × Nat) → List (Nat × Nat)
  | [] => []
  | (a, n) :: r => match Nat.ble n i with
    | false => belowV i r
    | true => (a, n) :: belowV i r
theorem mem_belowV {i a n : Nat} : ∀ (l : List (Nat × Nat)), (a, n) ∈ belowV i l → (a, n) ∈ l ∧ n ≤ i
  | [], h => by simp [belowV] at h
  | (b, m) :: r, h => by
    simp only [belowV] at h
    split at h
    · have := mem_belowV r h
      exact ⟨List.mem_cons_of_mem _ this.1, this.2⟩
    · rename_i hb
      rcases List.mem_cons.1 h with e | h'
      · cases e; exact ⟨List.mem_cons_self, Nat.le_of_ble_eq_true hb⟩
      · have := mem_belowV r h'
        exact ⟨List.mem_cons_of_mem _ this.1, this.2⟩
def Blk.wrote (B : Blk) (v i : Nat) (ds : List AV) : Blk := { B with cells := B.cells.take i ++ ds ++ B.cells.drop (i + ds.length), vers := keepV v i B.vers, stamp := B.stamp + 1 }
def Blk.grown (B : Blk) (e : Nat) (ds : List AV) : Blk := { B with cells := B.cells.take e ++ ds, vers := (B.next, e + ds.length) :: belowV e B.vers, next := B.next + 1, stamp := B.stamp + 1 }
theorem Mem.write (P : Program) (h : Mem C H base w) (hok : H.nb < 2 ^ 40 - 1) {b v n : Nat} {B : Blk} {loc : Loc} (hB : H.get b = some B) (hv : (v, n) ∈ B.vers) (hl : C.at_ b v = some loc) (hro : B.ro = false) (hob0 : B.obj = none) {i : Nat} (ds : List AV) (us : List Value)
    (hD : Dens C ds us) (hlo : loc.lo ≤ i) (hfit : i + ds.length ≤ n) (hfz : B.fz ≤ i) (h1 : ∀ u ∈ us, u.oneCell' = true) :
    ∃ w', (storeCells (loc.ad i) us).run P w = .ok () w' ∧ Step C C H (H.set b (B.wrote v i ds)) base w w' := by
  obtain ⟨hbn, L⟩ := h.blk b B hB
  obtain ⟨arr, lo, hi, hheap, hsz, hhi⟩ := L.obj v n loc hv hl
  have hn : loc.n = n := by obtain ⟨l', e1, e2⟩ := L.dom v n hv; rw [hl] at e1; cases e1; exact e2
  have hus : us.length = ds.length := hD.1
  have hcl : i + ds.length ≤ B.cells.length ∧ loc.off + (i - loc.lo) + us.length ≤ arr.size ∨ ds.length = 0 := by
    rcases Nat.eq_zero_or_pos ds.length with h0 | h0
    · exact .inr h0
    · left
      obtain ⟨d, u, hd, hu, _⟩ := L.cell v n loc hv hl (i + ds.length - 1) (by omega) (by omega)
      have e1 := (List.getElem?_eq_some_iff.1 hd).1
      have e2 : w.cell? (loc.ad (i + ds.length - 1)) = arr[loc.off + (i + ds.length - 1 - loc.lo)]? := by simp [World.cell?, Loc.ad, hheap]
      rw [e2] at hu
      have e3 := (Array.getElem?_eq_some_iff.1 hu).1
      omega
  rcases hcl with ⟨hc1, hc2⟩ | h0
  · have hst := run_storeCells_atF P loc.blk (loc.off + (i - loc.lo)) B.elem (lo, hi) us 0 arr w hheap (by simp only [Nat.add_zero]; omega) (by simp only [Nat.add_zero]; omega) h1
    simp only [Nat.add_zero] at hst
    refine ⟨_, hst, ?_⟩
    have hrow := row_cell w hheap us (loc.off + (i - loc.lo))
    have hother : ∀ k, k ≠ loc.blk → (w.setRow loc.blk (arr.toList.take (loc.off + (i - loc.lo)) ++ us ++ arr.toList.drop (loc.off + (i - loc.lo) + us.length)).toArray).heap[k]? = w.heap[k]? := fun k hk => setRow_other w loc.blk k _ hk
    have hnew := setRow_heap w loc.blk arr (arr.toList.take (loc.off + (i - loc.lo)) ++ us ++ arr.toList.drop (loc.off + (i - loc.lo) + us.length)).toArray B.elem (lo, hi) hheap
    have hsize : (arr.toList.take (loc.off + (i - loc.lo)) ++ us ++ arr.toList.drop (loc.off + (i - loc.lo) + us.length)).toArray.size = arr.size := by
      simp only [List.size_toArray, List.length_append, List.length_take, List.length_drop, Array.length_toList]; omega
    generalize hw' : w.setRow loc.blk (arr.toList.take (loc.off + (i - loc.lo)) ++ us ++ arr.toList.drop (loc.off + (i - loc.lo) + us.length)).toArray = w' at *
    have hws : w'.heap.size = w.heap.size := by rw [← hw']; exact setRow_size w _ _
    have hob : base ≤ loc.blk := L.own hro v loc hl
    refine ⟨.refl C, ?_, ⟨by rw [← hw']; rfl, by rw [← hw']; rfl, by rw [← hw']; rfl, by omega, fun k hk => hother k (by omega)⟩, fun b' B' hB' => ?_, fun k hk hn => ⟨hother k (fun e => hn b v loc hl e.symm), hn⟩⟩
    · refine h.upd (.refl C) (b := b) (fun _ _ _ => rfl) (Heap.get_set_same H b _ (by omega)) (fun b' hb => Heap.get_set_ne H b b' _ hb) (Nat.le_refl _) hbn ?_ (fun k hk hne => hother k (fun e => hne v loc hl e.symm)) (by omega) (fun v l hl => .inl ⟨v, l, hl, rfl⟩)
      refine ⟨fun v' n' hv' => L.dom v' n' (mem_keepV _ hv').1, fun v' l hl' => ?_, fun v' n' l hv' hl' => ?_, fun v' n' l hv' hl' j hj1 hj2 => ?_, fun a n a' n' l l' ha ha' => L.fam a n a' n' l l' (mem_keepV _ ha).1 (mem_keepV _ ha').1, L.own, fun a ha => (by rw [show (B.wrote v i _).obj = B.obj from rfl, hob0] at ha; cases ha), L.at0⟩
      · have := L.ver v' l hl'
        exact ⟨this.1, by omega⟩
      · obtain ⟨arr', lo', hi', e1, e2, e3⟩ := L.obj v' n' l (mem_keepV _ hv').1 hl'
        by_cases e : l.blk = loc.blk
        · rw [e] at e1 ⊢
          rw [hheap] at e1
          cases e1
          exact ⟨_, lo, hi, hnew, by rw [hsize]; exact e2, e3⟩
        · exact ⟨arr', lo', hi', by rw [hother _ e]; exact e1, e2, e3⟩
      · obtain ⟨hm, hor⟩ := mem_keepV _ hv'
        obtain ⟨d, u, hd, hu, hDu⟩ := L.cell v' n' l hm hl' j hj1 hj2
        have hjc := (List.getElem?_eq_some_iff.1 hd).1
        show ∃ d u, (B.cells.take i ++ ds ++ B.cells.drop (i + ds.length))[j]? = some d ∧ _
        rw [patchD_get _ _ _ _ (by omega)]
        by_cases ev : v' = v
        · subst ev
          rw [hl] at hl'; cases hl'
          have hr := hrow (loc.off + (j - loc.lo)) hc2
          by_cases h2 : j < i
          · rw [if_pos h2]
            refine ⟨d, u, hd, ?_, hDu⟩
            show w'.cell? ⟨loc.blk, loc.off + (j - loc.lo), none⟩ = _
            rw [hr, if_pos (by omega)]; exact hu
          · rw [if_neg h2]
            by_cases h3 : j < i + ds.length
            · rw [if_pos h3]
              have hdj : ds[j - i]? = some (ds[j - i]'(by omega)) := List.getElem?_eq_getElem (by omega)
              obtain ⟨u', hu', hD'⟩ := hD.at hdj
              refine ⟨_, u', hdj, ?_, hD'⟩
              show w'.cell? ⟨loc.blk, loc.off + (j - loc.lo), none⟩ = _
              rw [hr, if_neg (by omega), if_pos (by omega), ← hu']
              congr 1; omega
            · rw [if_neg h3]
              refine ⟨d, u, hd, ?_, hDu⟩
              show w'.cell? ⟨loc.blk, loc.off + (j - loc.lo), none⟩ = _
              rw [hr, if_neg (by omega), if_neg (by omega)]; exact hu
        · have hni : n' ≤ i := hor.resolve_left ev
          rw [if_pos (by omega)]
          refine ⟨d, u, hd, ?_, hDu⟩
          by_cases e : l.blk = loc.blk
          · have hf := L.fam v' n' v n l loc hm hv hl' hl e
            have hr := hrow (l.off + (j - l.lo)) hc2
            show w'.cell? ⟨l.blk, l.off + (j - l.lo), none⟩ = _
            rw [e, hr, if_pos (by omega), ← e]; exact hu
          · rw [cell_of_heap (w := w) (a := l.ad j) (hother _ e)]; exact hu
    · by_cases e : b' = b
      · subst e
        rw [hB] at hB'; cases hB'
        exact ⟨_, Heap.get_set_same H b' _ (by omega), Nat.le_succ _, fun e => absurd e (by show B.stamp + 1 ≠ B.stamp; omega)⟩
      · refine ⟨B', by rw [Heap.get_set_ne H b b' _ e]; exact hB', Nat.le_refl _, fun _ v' l hl' => hother _ (h.sep b' v' l b v loc hl' hl e)⟩
  · have e1 : ds = [] := List.eq_nil_of_length_eq_zero h0
    have e2 : us = [] := List.eq_nil_of_length_eq_zero (by omega)
    subst e1; subst e2
    refine ⟨w, rfl, ⟨.refl C, ?_, Below.refl _ _, fun b' B' hB' => ?_, fun k hk hn => ⟨rfl, hn⟩⟩⟩
    · refine h.upd (.refl C) (b := b) (fun _ _ _ => rfl) (Heap.get_set_same H b _ (by omega)) (fun b' hb => Heap.get_set_ne H b b' _ hb) (Nat.le_refl _) hbn ?_ (fun k hk hne => rfl) (Nat.le_refl _) (fun v l hl => .inl ⟨v, l, hl, rfl⟩)
      have hcells : B.cells.take i ++ [] ++ B.cells.drop (i + ([] : List AV).length) = B.cells := by simp
      refine ⟨fun v' n' hv' => L.dom v' n' (mem_keepV _ hv').1, L.ver, fun v' n' l hv' => L.obj v' n' l (mem_keepV _ hv').1, fun v' n' l hv' hl' j h1 h2 => ?_, fun a n a' n' l l' ha ha' => L.fam a n a' n' l l' (mem_keepV _ ha).1 (mem_keepV _ ha').1, L.own, fun a ha => (by rw [show (B.wrote v i _).obj = B.obj from rfl, hob0] at ha; cases ha), L.at0⟩
      show ∃ d u, (B.cells.take i ++ [] ++ B.cells.drop (i + ([] : List AV).length))[j]? = some d ∧ _
      rw [hcells]
      exact L.cell v' n' l (mem_keepV _ hv').1 hl' j h1 h2
    · by_cases e : b' = b
      · subst e
        rw [hB] at hB'; cases hB'
        exact ⟨_, Heap.get_set_same H b' _ (by omega), Nat.le_succ _, fun _ _ _ _ => rfl⟩
      · exact ⟨B', by rw [Heap.get_set_ne H b b' _ e]; exact hB', Nat.le_refl _, fun _ _ _ _ => rfl⟩
def Cx.more (C : Cx) (b v : Nat) (loc : Loc) : Cx := ⟨fun b' v' => if b' = b ∧ v' = v then some loc else C.at_ b' v', C.unk⟩
theorem Cx.more_same (C : Cx) (b v : Nat) (loc : Loc) : (C.more b v loc).at_ b v = some loc := by show (if b = b ∧ v = v then some loc else _) = _; rw [if_pos ⟨rfl, rfl⟩]
theorem Cx.more_ne (C : Cx) (b v : Nat) (loc : Loc) {b' v' : Nat} (h : ¬ (b' = b ∧ v' = v)) : (C.more b v loc).at_ b' v' = C.at_ b' v' := by show (if b' = b ∧ v' = v then some loc else _) = _; rw [if_neg h]
theorem Cx.more_ext (C : Cx) {b v : Nat} (loc : Loc) (h : ∀ l, C.at_ b v ≠ some l) : Ext C (C.more b v loc) := ⟨fun b' v' l hl => by
  have hne : ¬ (b' = b ∧ v' = v) := fun e => by obtain ⟨rfl, rfl⟩ := e; exact h l hl
  rw [Cx.more_ne C b v loc hne]; exact hl, rfl⟩
theorem Mem.grown (h : Mem C H base w) (hok : H.nb < 2 ^ 40 - 1) {b v n : Nat} {B : Blk} {loc loc' : Loc} (hB : H.get b = some B) (hv : (v, n) ∈ B.vers) (hl : C.at_ b v = some loc) (hro : B.ro = false) {e : Nat} (ds : List AV)
    (he : e ≤ n) (hob0 : B.obj = none) (hn : loc'.n = e + ds.length)
    (hold : ∀ k, k < w.heap.size → k ≠ loc.blk → w'.heap[k]? = w.heap[k]?) (hos : w'.os = w.os) (htp : w'.tape = w.tape) (hop : w'.output = w.output) (hsz : w.heap.size ≤ w'.heap.size) (hlt : loc'.blk < w'.heap.size)
    (hblk : (loc'.blk = loc.blk ∧ loc'.off = loc.off ∧ loc'.lo = loc.lo) ∨ loc'.blk = w.heap.size)
    (hobj : ∃ arr lo hi, w'.heap[loc'.blk]? = some (.cells arr B.elem (lo, hi)) ∧ arr.size = loc'.sz ∧ hi ≤ loc'.off + (B.fz - loc'.lo))
    (hobj' : ∀ arr lo hi, w.heap[loc.blk]? = some (.cells arr B.elem (lo, hi)) → ∃ arr', w'.heap[loc.blk]? = some (.cells arr' B.elem (lo, hi)) ∧ arr'.size = arr.size)
    (hcold : ∀ o u, o < loc.off + (e - loc.lo) → w.cell? ⟨loc.blk, o, none⟩ = some u → w'.cell? ⟨loc.blk, o, none⟩ = some u)
    (hlo : loc.lo ≤ e)
    (hcnew : ∀ i, loc'.lo ≤ i → i < e + ds.length → ∃ d u, (B.cells.take e ++ ds)[i]? = some d ∧ w'.cell? (loc'.ad i) = some u ∧ Den C d u) :
    Step C (C.more b B.next loc') H (H.set b (B.grown e ds)) base w w' := by
  obtain ⟨hbn, L⟩ := h.blk b B hB
  have hfresh : ∀ l, C.at_ b B.next ≠ some l := fun l hl => by have := (L.ver _ l hl).1; omega
  have hE := C.more_ext loc' hfresh
  have hat : ∀ v' l, (C.more b B.next loc').at_ b v' = some l → (v' = B.next ∧ l = loc') ∨ (v' ≠ B.next ∧ C.at_ b v' = some l) := fun v' l hl' => by
    by_cases e1 : v' = B.next
    · subst e1; rw [Cx.more_same] at hl'; cases hl'; exact .inl ⟨rfl, rfl⟩
    · rw [Cx.more_ne C b _ loc' (fun x => e1 x.2)] at hl'; exact .inr ⟨e1, hl'⟩
  have hnext : ∀ v' n', (v', n') ∈ (B.grown e ds).vers → (v' = B.next ∧ n' = e + ds.length) ∨ (v' ≠ B.next ∧ (v', n') ∈ B.vers ∧ n' ≤ e) := fun v' n' hv' => by
    rcases List.mem_cons.1 hv' with e1 | h1
    · cases e1; exact .inl ⟨rfl, rfl⟩
    · have := mem_belowV _ h1
      refine .inr ⟨fun e1 => ?_, this.1, this.2⟩
      subst e1
      obtain ⟨l, h2, _⟩ := L.dom _ _ this.1
      exact hfresh l h2
  have hwold : ∀ l v', C.at_ b v' = some l → l.blk ≠ loc.blk → w'.heap[l.blk]? = w.heap[l.blk]? := fun l v' hl' hne => hold _ (L.ver v' l hl').2 hne
  have hob : base ≤ loc.blk := L.own hro v loc hl
  refine ⟨hE, ?_, ⟨hos, htp, hop, hsz, fun k hk => hold k (Nat.lt_of_lt_of_le hk h.base) (by omega)⟩, fun b' B' hB' => ?_, fun k hk hnn => ⟨hold k hk (fun e => hnn b v loc hl e.symm), fun b' v' l hl' => ?_⟩⟩
  · refine h.upd hE (b := b) (fun b' v' hb => Cx.more_ne C b _ loc' (fun x => hb x.1)) (Heap.get_set_same H b _ (by omega)) (fun b' hb => Heap.get_set_ne H b b' _ hb) (Nat.le_refl _) hbn ?_ (fun k hk hne => hold k hk (fun e1 => hne v loc hl e1.symm)) hsz (fun v' l hl' => ?_)
    · refine ⟨fun v' n' hv' => ?_, fun v' l hl' => ?_, fun v' n' l hv' hl' => ?_, fun v' n' l hv' hl' j hj1 hj2 => ?_, fun a m a' m' l l' ha ha' hal hal' hbk => ?_, fun _ v' l hl' => ?_, fun a ha => (by rw [show (B.grown e ds).obj = B.obj from rfl, hob0] at ha; cases ha), fun l hl0 => (hat 0 l hl0).elim (fun x => by have := (L.ver v loc hl).1; omega) (fun x => L.at0 l x.2)⟩
      · rcases hnext v' n' hv' with ⟨rfl, rfl⟩ | ⟨hne, hm, _⟩
        · exact ⟨loc', Cx.more_same _ _ _ _, hn⟩
        · obtain ⟨l, h1, h2⟩ := L.dom v' n' hm
          exact ⟨l, by rw [Cx.more_ne C b _ loc' (fun x => hne x.2)]; exact h1, h2⟩
      · rcases hat v' l hl' with ⟨rfl, rfl⟩ | ⟨hne, h1⟩
        · exact ⟨Nat.lt_succ_self _, hlt⟩
        · have := L.ver v' l h1
          exact ⟨Nat.lt_succ_of_lt this.1, by omega⟩
      · rcases hnext v' n' hv' with ⟨rfl, rfl⟩ | ⟨hne, hm, _⟩
        · rcases hat _ l hl' with ⟨_, rfl⟩ | ⟨hne, _⟩
          · exact hobj
          · exact absurd rfl hne
        · rcases hat _ l hl' with ⟨e1, _⟩ | ⟨_, h1⟩
          · exact absurd e1 hne
          · obtain ⟨arr, lo, hi, e2, e3, e4⟩ := L.obj v' n' l hm h1
            by_cases ee : l.blk = loc.blk
            · rw [ee] at e2 ⊢
              obtain ⟨arr', e5, e6⟩ := hobj' arr lo hi e2
              exact ⟨arr', lo, hi, e5, by rw [e6]; exact e3, e4⟩
            · exact ⟨arr, lo, hi, by rw [hwold l v' h1 ee]; exact e2, e3, e4⟩
      · rcases hnext v' n' hv' with ⟨rfl, rfl⟩ | ⟨hne, hm, hle⟩
        · rcases hat _ l hl' with ⟨_, rfl⟩ | ⟨hne, _⟩
          · obtain ⟨d, u, h1, h2, h3⟩ := hcnew j hj1 hj2
            exact ⟨d, u, h1, h2, h3.mono hE⟩
          · exact absurd rfl hne
        · rcases hat _ l hl' with ⟨e1, _⟩ | ⟨_, h1⟩
          · exact absurd e1 hne
          · obtain ⟨d, u, hd, hu, hD⟩ := L.cell v' n' l hm h1 j hj1 hj2
            have hjc := (List.getElem?_eq_some_iff.1 hd).1
            refine ⟨d, u, ?_, ?_, hD.mono hE⟩
            · show (B.cells.take e ++ ds)[j]? = some d
              rw [List.getElem?_append_left (by rw [List.length_take]; omega), List.getElem?_take, if_pos (by omega)]; exact hd
            · by_cases ee : l.blk = loc.blk
              · have hf := L.fam v' n' v n l loc hm hv h1 hl ee
                have : l.ad j = ⟨loc.blk, l.off + (j - l.lo), none⟩ := by unfold Loc.ad; rw [ee]
                rw [this] at hu ⊢
                exact hcold _ u (by omega) hu
              · rw [cell_of_heap (w := w) (a := l.ad j) (hwold l v' h1 ee)]; exact hu
      · rcases hnext a m ha with ⟨rfl, rfl⟩ | ⟨hne, hm, hle⟩
        · rcases hat _ l hal with ⟨_, rfl⟩ | ⟨hne, _⟩
          · rcases hnext a' m' ha' with ⟨rfl, rfl⟩ | ⟨hne', hm', hle'⟩
            · rcases hat _ l' hal' with ⟨_, rfl⟩ | ⟨hne', _⟩
              · rfl
              · exact absurd rfl hne'
            · rcases hat _ l' hal' with ⟨e1, _⟩ | ⟨_, h1⟩
              · exact absurd e1 hne'
              · rcases hblk with ⟨hb1, hb2, hb3⟩ | hb1
                · have := L.fam v n a' m' loc l' hv hm' hl h1 (by rw [← hb1]; exact hbk)
                  omega
                · have := (L.ver a' l' h1).2; omega
          · exact absurd rfl hne
        · rcases hat _ l hal with ⟨e1, _⟩ | ⟨_, h0⟩
          · exact absurd e1 hne
          · rcases hnext a' m' ha' with ⟨rfl, rfl⟩ | ⟨hne', hm', hle'⟩
            · rcases hat _ l' hal' with ⟨_, rfl⟩ | ⟨hne', _⟩
              · rcases hblk with ⟨hb1, hb2, hb3⟩ | hb1
                · have := L.fam a m v n l loc hm hv h0 hl (by rw [hbk, hb1])
                  omega
                · have := (L.ver a l h0).2; omega
              · exact absurd rfl hne'
            · rcases hat _ l' hal' with ⟨e1, _⟩ | ⟨_, h1⟩
              · exact absurd e1 hne'
              · exact L.fam a m a' m' l l' hm hm' h0 h1 hbk
      · rcases hat v' l hl' with ⟨rfl, rfl⟩ | ⟨hne, h1⟩
        · have := h.base
          rcases hblk with ⟨hb1, _⟩ | hb1 <;> omega
        · exact L.own hro v' l h1
    · rcases hat v' l hl' with ⟨rfl, rfl⟩ | ⟨hne, h1⟩
      · rcases hblk with ⟨hb1, _⟩ | hb1
        · exact .inl ⟨v, loc, hl, hb1.symm⟩
        · exact .inr (.inl (by omega))
      · exact .inl ⟨v', l, h1, rfl⟩
  · by_cases e1 : b' = b
    · subst e1
      rw [hB] at hB'; cases hB'
      exact ⟨_, Heap.get_set_same H b' _ (by omega), Nat.le_succ _, fun e => absurd e (by show B.stamp + 1 ≠ B.stamp; omega)⟩
    · refine ⟨B', by rw [Heap.get_set_ne H b b' _ e1]; exact hB', Nat.le_refl _, fun _ v' l hl' => hold _ ?_ (h.sep b' v' l b v loc hl' hl e1)⟩
      exact ((h.blk b' B' hB').2.ver v' l hl').2
  · by_cases e1 : b' = b
    · subst e1
      rcases hat v' l hl' with ⟨rfl, rfl⟩ | ⟨hne, h1⟩
      · rcases hblk with ⟨hb1, _⟩ | hb1
        · rw [hb1]; exact hnn b' v loc hl
        · omega
      · exact hnn b' v' l h1
    · rw [Cx.more_ne C b _ loc' (fun x => e1 x.1)] at hl'
      exact hnn b' v' l hl'
end Go.EV
