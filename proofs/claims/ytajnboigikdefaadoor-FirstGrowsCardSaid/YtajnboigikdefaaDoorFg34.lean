/- Texts that the proof of a law rests on, put together: part 34. -/
import Derived.Test.YtajnboigikdefaaDoorFg33
namespace Go.EV
open Go Go.RowKit
open Go.XW (Imm Fits DD RepV SL LeafOk leafB Own Apart addI All2)
set_option linter.unusedVariables false
set_option linter.unusedSimpArgs false
def numR : Nat → List Row → List (Nat × Row)
  | _, [] => []
  | k, R :: r => (k, R) :: numR (k + 1) r
def boxB (T : TypeId) (cs : List AV) : Blk := ⟨cs, T, [(0, cs.length)], 1, 0, false, 0, none⟩
noncomputable def bookM (Rs : List Row) (Bs : List Blk) (p : Prop) : SH := ⟨ofL Bs, numR 0 Rs, Rs.length, [], p⟩
def bAt (C : Cx) : Option Nat → Nat → Option Loc
  | some c, 0 => C.at_ c 0
  | _, _ => none
def Cx.only (C : Cx) (ids bids : List Nat) : Cx := ⟨fun b v => bAt C bids[b]? v, ⟨C.unk.imm, fun i => match ids[i]? with
  | some r => C.unk.row r
  | none => none⟩⟩
theorem bAt_some {C : Cx} {o : Option Nat} {v : Nat} {loc : Loc} (h : bAt C o v = some loc) : v = 0 ∧ ∃ c, o = some c ∧ C.at_ c 0 = some loc := by
  unfold bAt at h
  split at h
  · exact ⟨rfl, _, rfl, h⟩
  · cases h
theorem Cx.only_at {C : Cx} {ids bids : List Nat} {b v : Nat} {loc : Loc} (h : (C.only ids bids).at_ b v = some loc) : v = 0 ∧ ∃ c, bids[b]? = some c ∧ C.at_ c 0 = some loc := bAt_some h
theorem Cx.only_to {C : Cx} {ids bids : List Nat} {b c : Nat} (h : bids[b]? = some c) : (C.only ids bids).at_ b 0 = C.at_ c 0 := by
  show bAt C bids[b]? 0 = C.at_ c 0
  rw [h]; rfl
def C00 (I : Imm) : Cx := ⟨fun _ _ => none, ⟨I, fun _ => none⟩⟩
theorem numR_get : ∀ (Rs : List Row) (k j : Nat), rowGet (numR k Rs) j = if k ≤ j then Rs[j - k]? else none
  | [], k, j => by simp [numR, rowGet]
  | R :: r, k, j => by
    simp only [numR, rowGet]
    cases hb : Nat.beq k j with
    | true =>
      have e := Nat.eq_of_beq_eq_true hb
      subst e
      simp
    | false =>
      have hne : k ≠ j := fun e => by subst e; simp at hb
      simp only
      rw [numR_get r (k + 1) j]
      by_cases h : k ≤ j
      · rw [if_pos h, if_pos (by omega), show j - k = (j - (k + 1)) + 1 by omega, List.getElem?_cons_succ]
      · rw [if_neg h, if_neg (by omega)]
def rowDels : List Nat → List (Nat × Row) → List (Nat × Row)
  | [], l => l
  | r :: ids, l => rowDel r (rowDels ids l)
theorem rowGet_dels : ∀ {ids : List Nat} {l : List (Nat × Row)} {j : Nat} {R : Row}, rowGet (rowDels ids l) j = some R → rowGet l j = some R ∧ j ∉ ids
  | [], l, j, R, h => ⟨h, by simp⟩
  | r :: ids, l, j, R, h => by
    obtain ⟨h1, h2⟩ := rowGet_del h
    obtain ⟨h3, h4⟩ := rowGet_dels h1
    exact ⟨h3, by simp only [List.mem_cons, not_or]; exact ⟨h2, h4⟩⟩
theorem rowGet_append {a b : List (Nat × Row)} {j : Nat} {R : Row} (h : rowGet (a ++ b) j = some R) : rowGet a j = some R ∨ rowGet b j = some R := by
  induction a with
  | nil => exact .inr h
  | cons x r ih =>
    obtain ⟨k, Q⟩ := x
    simp only [List.cons_append, rowGet] at h ⊢
    cases hb : Nat.beq k j with
    | true => rw [hb] at h; exact .inl h
    | false => rw [hb] at h; exact ih h
def Row.bare (R : Row) : Row := ⟨R.t, R.T, R.xs, none, false⟩
structure IdsOk (M : SH) (ids : List Nat) (Rs : List Row) : Prop where
  len : Rs.length = ids.length
  nd : ids.Nodup
  row : ∀ (i r : Nat), ids[i]? = some r → ∃ R, rowGet M.rows r = some R ∧ R.fr = false ∧ Rs[i]? = some R.bare
structure BidsOk (C : Cx) (M : SH) (bids : List Nat) (Bs : List Blk) (C' : Cx) : Prop where
  len : Bs.length = bids.length
  sm : Bs.length < 2 ^ 40 - 1
  nd : ∀ (i j b : Nat), bids[i]? = some b → bids[j]? = some b → i = j
  box : ∀ (i b : Nat), bids[i]? = some b → ∃ B cs, M.H.get b = some B ∧ b < 2 ^ 40 - 1 ∧ (∀ s, (b, s) ∉ M.fz) ∧ B.ro = false ∧ B.fz = 0 ∧ B.next = 1 ∧ (0, B.cells.length) ∈ B.vers ∧ Bs[i]? = some (boxB B.elem cs) ∧ cs.length = B.cells.length ∧ ∀ vs, Dens C B.cells vs → Dens C' cs vs
structure LStep (C C' : Cx) (M' : SH) (base : Nat) (w w' : World) : Prop where
  at_ : ∀ b v loc, C.at_ b v = some loc → C'.at_ b v = some loc
  mem : SMem C' M' base w'
  imm : XW.Ext C.unk.imm C'.unk.imm
  below : Below base w w'
  rest : ∀ k, k < w.heap.size → Free C k → w'.heap[k]? = w.heap[k]? ∧ Free C' k ∧ ∀ a : Addr, a.block = k → C'.unk.imm a = C.unk.imm a
section
variable {C C' C2 : Cx} {M M' : SH} {base : Nat} {w w' w2 : World} {ids bids : List Nat} {Rs : List Row} {Bs : List Blk} {p : Prop}
theorem SStep.ls (h : SStep C C' M M' base w w') : LStep C C' M' base w w' := ⟨h.at_, h.mem, h.sx.imm, h.below, h.rest⟩
theorem LStep.trans {A B D : Cx} {I J : SH} {u v w : World} (h : LStep A B I base u v) (k : LStep B D J base v w) : LStep A D J base u w :=
  ⟨fun b x l hl => k.at_ b x l (h.at_ b x l hl), k.mem, h.imm.trans k.imm, h.below.trans k.below, fun j hj hn => by
    obtain ⟨h5, h6, h7⟩ := h.rest j hj hn
    obtain ⟨h8, h9, h10⟩ := k.rest j (by have := h.below.size; omega) h6
    exact ⟨h8.trans h5, h9, fun a ha => (h10 a ha).trans (h7 a ha)⟩⟩
theorem Local.box {B : Blk} {b i : Nat} {cs : List AV} (h : Local C b B base w) (hro : B.ro = false) (hfz : B.fz = 0) (hv : (0, B.cells.length) ∈ B.vers) (hl : cs.length = B.cells.length) (hat : ∀ v loc, C'.at_ i v = some loc → v = 0 ∧ C.at_ b 0 = some loc) (hto : ∀ loc, C.at_ b 0 = some loc → C'.at_ i 0 = some loc) (hd : ∀ vs, Dens C B.cells vs → Dens C' cs vs) {nx st : Nat} (hnx : 0 < nx) : Local C' i ⟨cs, B.elem, [(0, cs.length)], nx, 0, false, st, none⟩ base w := by
  have one : ∀ {v n : Nat}, (v, n) ∈ [(0, cs.length)] → v = 0 ∧ n = cs.length := fun h => by simpa using h
  obtain ⟨loc0, hl0, hn0⟩ := h.dom 0 _ hv
  obtain ⟨e0, e00⟩ := h.at0 loc0 hl0
  refine ⟨fun v n hm => ?_, fun v loc hl' => ?_, fun v n loc hm hl' => ?_, fun v n loc hm hl' j h1 h2 => ?_, fun v n v' n' loc loc' hm hm' hl1 hl2 _ => ?_, fun _ v loc hl' => ?_, fun a ha => (by cases ha), fun loc hl' => h.at0 loc (hat 0 loc hl').2⟩
  · obtain ⟨rfl, rfl⟩ := one hm
    exact ⟨loc0, hto _ hl0, by rw [hl]; exact hn0⟩
  · obtain ⟨rfl, h1⟩ := hat v loc hl'
    exact ⟨hnx, (h.ver 0 loc h1).2⟩
  · obtain ⟨rfl, h1⟩ := hat v loc hl'
    obtain ⟨arr, lo, hi, h2, h3, h4⟩ := h.obj 0 _ loc hv h1
    rw [hfz] at h4
    exact ⟨arr, lo, hi, h2, h3, h4⟩
  · obtain ⟨rfl, rfl⟩ := one hm
    have h3 := (hat 0 loc hl').2
    rw [hl0] at h3; cases h3
    -- the values that lie there
    have hval : ∀ k, k < B.cells.length → ∃ d u, B.cells[k]? = some d ∧ w.cell? (loc0.ad k) = some u ∧ Den C d u := fun k hk => h.cell 0 _ loc0 hv hl0 k (by omega) hk
    have hex : ∃ vs : List Value, vs.length = B.cells.length ∧ ∀ k u, vs[k]? = some u → w.cell? (loc0.ad k) = some u ∧ ∃ d, B.cells[k]? = some d ∧ Den C d u := by
      refine ⟨List.ofFn (fun k : Fin B.cells.length => (hval k k.2).choose_spec.choose), by simp, fun k u hu => ?_⟩
      obtain ⟨hk, hu⟩ := List.getElem?_eq_some_iff.1 hu
      have hk' : k < B.cells.length := by simpa using hk
      rw [List.getElem_ofFn] at hu
      subst hu
      obtain ⟨g1, g2, g3⟩ := (hval k hk').choose_spec.choose_spec
      exact ⟨g2, _, g1, g3⟩
    obtain ⟨vs, hvl, hvs⟩ := hex
    have hD : Dens C' cs vs := hd vs ⟨hvl, fun k d u hd' hu => by
      obtain ⟨d', g1, g2⟩ := (hvs k u hu).2
      rw [hd'] at g1; cases g1; exact g2⟩
    have hj : j < vs.length := by omega
    have hjc : j < cs.length := h2
    exact ⟨cs[j], vs[j], List.getElem?_eq_getElem hjc, (hvs j _ (List.getElem?_eq_getElem hj)).1, hD.2 j _ _ (List.getElem?_eq_getElem hjc) (List.getElem?_eq_getElem hj)⟩
  · obtain ⟨rfl, rfl⟩ := one hm
    obtain ⟨rfl, rfl⟩ := one hm'
    rw [hl1] at hl2; cases hl2; rfl
  · exact h.own hro 0 loc (hat v loc hl').2
theorem SMem.only (h : SMem C M base w) (hi : IdsOk M ids Rs) (hb : BidsOk C M bids Bs (C.only ids bids)) (hp : p) : SMem (C.only ids bids) (bookM Rs Bs p) base w := by
  have hget : ∀ i v, (C.only ids bids).unk.row i = some v → ∃ r, ids[i]? = some r ∧ C.unk.row r = some v := fun i v hv => by
    have hv : (match ids[i]? with | some r => C.unk.row r | none => none) = some v := hv
    split at hv
    · exact ⟨_, by assumption, hv⟩
    · cases hv
  have hrow : ∀ i R, rowGet (bookM Rs Bs p).rows i = some R → ∃ r R0, ids[i]? = some r ∧ rowGet M.rows r = some R0 ∧ R0.fr = false ∧ R = R0.bare := fun i R hR => by
    have hR : rowGet (numR 0 Rs) i = some R := hR
    rw [numR_get, if_pos (Nat.zero_le _), Nat.sub_zero] at hR
    have hlt : i < ids.length := by rw [← hi.len]; exact (List.getElem?_eq_some_iff.1 hR).1
    obtain ⟨R0, h1, h2, h3⟩ := hi.row i _ (List.getElem?_eq_getElem hlt)
    rw [hR] at h3; cases h3
    exact ⟨_, R0, List.getElem?_eq_getElem hlt, h1, h2, rfl⟩
  have hmem : Mem (C.only ids bids) (ofL Bs) base w := by
    refine ⟨fun i X hX => ?_, fun i v loc hl => ?_, fun i v loc i' v' loc' hl hl' hne => ?_, h.mem.base⟩
    · rw [ofL_get hb.sm] at hX
      have hlt : i < bids.length := by rw [← hb.len]; exact (List.getElem?_eq_some_iff.1 hX).1
      obtain ⟨B, cs, h1, h2, h3, h4, h5, h6, h7, h8, h9, h10⟩ := hb.box i _ (List.getElem?_eq_getElem hlt)
      rw [hX] at h8; cases h8
      refine ⟨(List.getElem?_eq_some_iff.1 hX).1, ?_⟩
      exact (h.mem.blk _ B h1).2.box h4 h5 h7 h9 (fun v loc hl => by
        obtain ⟨rfl, c, g1, g2⟩ := Cx.only_at hl
        rw [List.getElem?_eq_getElem hlt] at g1; cases g1
        exact ⟨rfl, g2⟩) (fun loc hl => by rw [Cx.only_to (List.getElem?_eq_getElem hlt)]; exact hl) h10 (by decide)
    · obtain ⟨rfl, c, g1, g2⟩ := Cx.only_at hl
      have hlt : i < Bs.length := by rw [hb.len]; exact (List.getElem?_eq_some_iff.1 g1).1
      exact ⟨Bs[i], by rw [ofL_get hb.sm]; exact List.getElem?_eq_getElem hlt⟩
    · obtain ⟨rfl, c, g1, g2⟩ := Cx.only_at hl
      obtain ⟨rfl, c', g1', g2'⟩ := Cx.only_at hl'
      exact h.mem.sep c 0 loc c' 0 loc' g2 g2' (fun e => hne (hb.nd i i' c g1 (by rw [e]; exact g1')))
  refine ⟨hmem, hp, h.fits, fun i R hR => ?_, fun i v hv => ?_, fun i R j R' v v' hne h1 h2 _ _ h3 h4 => ?_, fun b _ ver loc hl a ha => ?_, fun i R v hR _ hv b ver loc hl => ?_, fun b s hm => (by simp [bookM] at hm), fun b s hm => (by simp [bookM] at hm)⟩
  · obtain ⟨r, R0, h1, h2, h3, rfl⟩ := hrow i R hR
    obtain ⟨v, h4, h5⟩ := h.row r R0 h2
    refine ⟨v, ?_, fun _ => h5.own h3, (fun h => by cases h), (fun n h => by cases h)⟩
    show (match ids[i]? with | some r => C.unk.row r | none => none) = some v
    rw [h1]; exact h4
  · obtain ⟨r, h1, h2⟩ := hget i v hv
    refine ⟨?_, (h.lt r v h2).2⟩
    show i < Rs.length
    rw [hi.len]; exact (List.getElem?_eq_some_iff.1 h1).1
  · obtain ⟨r, R0, g1, g2, g3, rfl⟩ := hrow i R h1
    obtain ⟨r', R0', k1, k2, k3, rfl⟩ := hrow j R' h2
    obtain ⟨q, q1, q2⟩ := hget i v h3
    obtain ⟨q', q1', q2'⟩ := hget j v' h4
    rw [g1] at q1; cases q1
    rw [k1] at q1'; cases q1'
    refine h.apart r R0 r' R0' v v' (fun e => hne ?_) g2 k2 g3 k3 q2 q2'
    subst e
    have hil := (List.getElem?_eq_some_iff.1 g1)
    have hjl := (List.getElem?_eq_some_iff.1 k1)
    exact (List.getElem_inj (h₀ := hil.1) (h₁ := hjl.1) hi.nd).1 (hil.2.trans hjl.2.symm)
  · obtain ⟨rfl, c, g1, g2⟩ := Cx.only_at hl
    obtain ⟨B, cs, h1, h2, h3, _⟩ := hb.box b c g1
    exact h.imms c h3 0 loc g2 a ha
  · obtain ⟨rfl, c, g1, g2⟩ := Cx.only_at hl
    obtain ⟨r, R0, k1, k2, k3, rfl⟩ := hrow i R hR
    obtain ⟨q, q1, q2⟩ := hget i v hv
    rw [k1] at q1; cases q1
    exact h.rowat r R0 v k2 k3 q2 c 0 loc g2
theorem only_free {k : Nat} (h : Free C k) : Free (C.only ids bids) k := ⟨(fun b v loc hl => by
  obtain ⟨rfl, c, g1, g2⟩ := Cx.only_at hl
  exact h.1 c 0 loc g2), fun i v hv => by
  have hv : (match ids[i]? with | some r => C.unk.row r | none => none) = some v := hv
  split at hv
  · exact h.2 _ v hv
  · cases hv⟩
theorem LStep.only (hS : LStep C C2 M base w w') (hi : IdsOk M ids Rs) (hb : BidsOk C2 M bids Bs (C2.only ids bids)) (hat : ∀ b v loc, C.at_ b v = some loc → v = 0 ∧ bids[b]? = some b) (hp : p) : LStep C (C2.only ids bids) (bookM Rs Bs p) base w w' :=
  ⟨fun b v loc hl => by
    obtain ⟨rfl, h1⟩ := hat b v loc hl
    rw [Cx.only_to h1]; exact hS.at_ b 0 loc hl, hS.mem.only hi hb hp, hS.imm, hS.below, fun k hk hn => by
    obtain ⟨h1, h2, h3⟩ := hS.rest k hk hn
    exact ⟨h1, only_free h2, h3⟩⟩
theorem C00_mem {I : Imm} (h : Fits I w) (hb : base ≤ w.heap.size) (hp : p) : SMem (C00 I) (bookM [] [] p) base w :=
  ⟨⟨fun b B hB => by rw [show (bookM [] [] p).H = ofL [] from rfl, ofL_get (by decide)] at hB; simp at hB, fun b v loc h => (by cases h), fun b v loc b' v' loc' h => (by cases h), hb⟩, hp, h, fun i R hR => (by simp [bookM, numR, rowGet] at hR), fun i v hv => (by cases hv), fun i R j R' v v' _ h1 => (by simp [bookM, numR, rowGet] at h1), fun b _ ver loc hl => (by cases hl), fun i R v h1 => (by simp [bookM, numR, rowGet] at h1), fun b s hm => (by simp [bookM] at hm), fun b s hm => (by simp [bookM] at hm)⟩
noncomputable def setX : List Nat → List Blk → Heap → Heap
  | b :: r, X :: s, H => setX r s (match H.get b with
    | some B => H.set b ⟨X.cells, X.elem, X.vers, B.next, 0, false, B.stamp + 1, none⟩
    | none => H)
  | _, _, H => H
theorem setX_nb : ∀ (l : List Nat) (Xs : List Blk) (H : Heap), (setX l Xs H).nb = H.nb
  | [], _, H => by simp [setX]
  | _ :: _, [], H => by simp [setX]
  | b :: r, X :: s, H => by
    simp only [setX]
    rw [setX_nb r s]
    split <;> rfl
theorem setX_get : ∀ (l : List Nat) (Xs : List Blk) (H : Heap), (∀ (i j b : Nat), l[i]? = some b → l[j]? = some b → i = j) → (∀ (i b : Nat), l[i]? = some b → b < 2 ^ 40 - 1 ∧ ∃ B, H.get b = some B) → Xs.length = l.length →
    (∀ b, b ∉ l → (setX l Xs H).get b = H.get b) ∧ (∀ (i b : Nat) X B, Xs[i]? = some X → l[i]? = some b → H.get b = some B → (setX l Xs H).get b = some ⟨X.cells, X.elem, X.vers, B.next, 0, false, B.stamp + 1, none⟩)
  | [], [], H, _, _, _ => ⟨fun b _ => rfl, fun i b X B h => by simp at h⟩
  | [], _ :: _, H, _, _, h => by simp at h
  | _ :: _, [], H, _, _, h => by simp at h
  | c :: r, X :: s, H, hinj, hget, hlen => by
    obtain ⟨hc, Bc, hBc⟩ := hget 0 c rfl
    have hne : ∀ b, b ≠ c → (match H.get c with | some B => H.set c ⟨X.cells, X.elem, X.vers, B.next, 0, false, B.stamp + 1, none⟩ | none => H).get b = H.get b := fun b hb => by rw [hBc]; exact Heap.get_set_ne H c b _ hb
    have hsame : (match H.get c with | some B => H.set c ⟨X.cells, X.elem, X.vers, B.next, 0, false, B.stamp + 1, none⟩ | none => H).get c = some ⟨X.cells, X.elem, X.vers, Bc.next, 0, false, Bc.stamp + 1, none⟩ := by rw [hBc]; exact Heap.get_set_same H c _ hc
    have hcr : ∀ i, r[i]? ≠ some c := fun i hi => by have := hinj 0 (i + 1) c rfl (by simpa using hi); omega
    have hcm : c ∉ r := fun hm => by obtain ⟨i, hi⟩ := List.mem_iff_getElem?.1 hm; exact hcr i hi
    obtain ⟨g1, g2⟩ := setX_get r s _ (fun i j b hi hj => by have := hinj (i + 1) (j + 1) b (by simpa using hi) (by simpa using hj); omega) (fun i b hi => by
      obtain ⟨h1, B, h2⟩ := hget (i + 1) b (by simpa using hi)
      exact ⟨h1, B, by rw [hne b (fun e => hcr i (by rw [← e]; exact hi))]; exact h2⟩) (by simpa using hlen)
    refine ⟨fun b hb => ?_, fun i b X' B hi hl hB => ?_⟩
    · simp only [List.mem_cons, not_or] at hb
      simp only [setX]
      rw [g1 b hb.2, hne b hb.1]
    · simp only [setX]
      cases i with
      | zero =>
        simp at hi hl
        subst hi; subst hl
        rw [g1 c hcm, hsame]
        rw [hBc] at hB; cases hB; rfl
      | succ i =>
        have hl' : r[i]? = some b := by simpa using hl
        refine g2 i b X' B (by simpa using hi) hl' ?_
        rw [hne b (fun e => hcr i (by rw [← e]; exact hl'))]; exact hB
noncomputable def pushX : List Blk → Heap → Heap
  | [], H => H
  | X :: r, H => pushX r (H.push X)
theorem pushX_get : ∀ (Xs : List Blk) (H : Heap), H.nb + Xs.length < 2 ^ 40 - 1 → (pushX Xs H).nb = H.nb + Xs.length ∧ (∀ b, b < H.nb → (pushX Xs H).get b = H.get b) ∧ (∀ (j : Nat) X, Xs[j]? = some X → (pushX Xs H).get (H.nb + j) = some X) ∧ (∀ b, H.nb + Xs.length ≤ b → (pushX Xs H).get b = H.get b)
  | [], H, _ => ⟨rfl, fun _ _ => rfl, fun j X h => by simp at h, fun _ _ => rfl⟩
  | X :: r, H, h => by
    simp only [List.length_cons] at h
    obtain ⟨h1, h2, h3, h4⟩ := pushX_get r (H.push X) (by show H.nb + 1 + r.length < _; omega)
    have e : (H.push X).nb = H.nb + 1 := rfl
    rw [e] at h1 h2 h3 h4
    refine ⟨by simp only [pushX, List.length_cons]; omega, fun b hb => ?_, fun j Y hj => ?_, fun b hb => ?_⟩
    · simp only [pushX]
      rw [h2 b (by omega), Heap.get_push_ne H b X (by omega)]
    · simp only [pushX]
      cases j with
      | zero =>
        simp at hj; subst hj
        rw [Nat.add_zero, h2 H.nb (by omega)]
        exact Heap.get_push_same H X (by omega)
      | succ j =>
        rw [show H.nb + (j + 1) = H.nb + 1 + j by omega]
        exact h3 j Y (by simpa using hj)
    · simp only [pushX]
      simp only [List.length_cons] at hb
      rw [h4 b (by omega), Heap.get_push_ne H b X (by omega)]
def atJ (C : Cx) (nb n : Nat) (C2 : Cx) (b v : Nat) : Option Loc := if b < nb then C.at_ b v else C2.at_ (n + (b - nb)) v
def Cx.join (C : Cx) (nr nb n : Nat) (C2 : Cx) : Cx := ⟨atJ C nb n C2, ⟨C2.unk.imm, fun r => if r < nr then C.unk.row r else C2.unk.row (r - nr)⟩⟩
def dropB : Nat → List Blk → List Blk
  | 0, l => l
  | n + 1, _ :: r => dropB n r
  | _ + 1, [] => []
theorem dropB_eq : ∀ (n : Nat) (l : List Blk), dropB n l = l.drop n
  | 0, l => rfl
  | n + 1, [] => rfl
  | n + 1, _ :: r => dropB_eq n r
noncomputable def joinM (M : SH) (ids bids : List Nat) (Rs2 : List Row) (Bs2 : List Blk) (p : Prop) : SH := ⟨pushX (dropB bids.length Bs2) (setX bids Bs2 M.H), numR M.nr Rs2 ++ rowDels ids M.rows, M.nr + Rs2.length, M.fz, p⟩
structure BoxesOk (C2 : Cx) (Bs Bs2 Bs3 : List Blk) (C3 : Cx) : Prop where
  l2 : Bs.length ≤ Bs2.length
  l3 : Bs3.length = Bs2.length
  box : ∀ (i : Nat), i < Bs2.length → ∃ T c2 c3, Bs2[i]? = some (boxB T c2) ∧ Bs3[i]? = some (boxB T c3) ∧ c3.length = c2.length ∧ (∀ vs, Dens C2 c2 vs → Dens C3 c3 vs) ∧ ∀ X, Bs[i]? = some X → X.elem = T
theorem setX_pre : ∀ (l : List Nat) (Xs : List Blk) (H : Heap), l.length ≤ Xs.length → setX l Xs H = setX l (Xs.take l.length) H
  | [], Xs, H, _ => by simp [setX]
  | b :: r, [], H, h => by simp at h
  | b :: r, X :: s, H, h => by
    simp only [List.length_cons, List.take_succ_cons, setX]
    exact setX_pre r s _ (by simpa using h)
theorem rejoin (h : SMem C M base w) (hi : IdsOk M ids Rs) (hb : BidsOk C M bids Bs (C.only ids bids)) {base1 : Nat} (hb1 : base ≤ base1) {Rs2 : List Row} {Bs2 Bs3 : List Blk} {p2 : Prop} (hS : LStep (C.only ids bids) C2 (bookM Rs2 Bs2 p2) base1 w w') (hX : BoxesOk C2 Bs Bs2 Bs3 (C.join M.nr M.H.nb bids.length C2)) (hnb : M.H.nb + Bs2.length < 2 ^ 40 - 1) (hp : p) :
    SStep C (C.join M.nr M.H.nb bids.length C2) M (joinM M ids bids Rs2 Bs3 p) base w w' := by
  have hatlt : ∀ b ver loc, C.at_ b ver = some loc → loc.blk < w.heap.size := fun b ver loc hl => by
    obtain ⟨B, hB⟩ := h.mem.known b ver loc hl
    exact ((h.mem.blk b B hB).2.ver ver loc hl).2
  have hsm2 : Bs2.length < 2 ^ 40 - 1 := by omega
  have hatnb : ∀ b ver loc, C.at_ b ver = some loc → b < M.H.nb := fun b ver loc hl => by
    obtain ⟨B, hB⟩ := h.mem.known b ver loc hl
    exact (h.mem.blk b B hB).1
  have hjold : ∀ b ver, b < M.H.nb → (C.join M.nr M.H.nb bids.length C2).at_ b ver = C.at_ b ver := fun b ver hlt => by
    show atJ C M.H.nb bids.length C2 b ver = _
    unfold atJ; rw [if_pos hlt]
  have hjnew : ∀ b ver, ¬ b < M.H.nb → (C.join M.nr M.H.nb bids.length C2).at_ b ver = C2.at_ (bids.length + (b - M.H.nb)) ver := fun b ver hlt => by
    show atJ C M.H.nb bids.length C2 b ver = _
    unfold atJ; rw [if_neg hlt]
  -- boxes that were given
  have hgiven : ∀ (i b : Nat), bids[i]? = some b → ∃ B cs, M.H.get b = some B ∧ b < 2 ^ 40 - 1 ∧ (∀ s, (b, s) ∉ M.fz) ∧ B.next = 1 ∧ ∀ v loc, C.at_ b v = some loc → v = 0 ∧ C2.at_ i 0 = some loc := fun i b hib => by
    obtain ⟨B, cs, h1, h2, h3, h4, h5, h6, h7, h8, h9, h10⟩ := hb.box i b hib
    refine ⟨B, cs, h1, h2, h3, h6, fun v loc hl => ?_⟩
    have := ((h.mem.blk b B h1).2.ver v loc hl).1
    have hv : v = 0 := by omega
    subst hv
    exact ⟨rfl, hS.at_ i 0 loc (by rw [Cx.only_to hib]; exact hl)⟩
  -- a block that only a row or a box of those has is not free; all others are
  have hfree : ∀ k, (∀ (i r : Nat) (v : Value), ids[i]? = some r → C.unk.row r = some v → v.ownBlock ≠ some k) → (∀ (i b : Nat) loc, bids[i]? = some b → C.at_ b 0 = some loc → loc.blk ≠ k) → Free (C.only ids bids) k := fun k hk hk2 => ⟨(fun b v loc hl => by
    obtain ⟨rfl, c, g1, g2⟩ := Cx.only_at hl
    exact hk2 b c loc g1 g2), fun i v hv => by
    have hv : (match ids[i]? with | some r => C.unk.row r | none => none) = some v := hv
    split at hv
    · exact hk i _ v (by assumption) hv
    · cases hv⟩
  have fat : ∀ b ver loc, b ∉ bids → C.at_ b ver = some loc → Free (C.only ids bids) loc.blk := fun b ver loc hnb hl => hfree _ (fun i r v hr hv e => by
    obtain ⟨R, h1, h2, _⟩ := hi.row i r hr
    exact h.rowat r R v h1 h2 hv b ver loc hl e) (fun i c loc' hc hl' e => h.mem.sep c 0 loc' b ver loc hl' hl (fun e => hnb (by rw [← e]; exact List.mem_of_getElem? hc)) e)
  have frow : ∀ j Q v, rowGet M.rows j = some Q → Q.fr = false → j ∉ ids → C.unk.row j = some v → ∀ g, v.ownBlock = some g → Free (C.only ids bids) g := fun j Q v hj hf hn hv g hg => hfree _ (fun i r u hr hu e => by
    obtain ⟨R, h1, h2, _⟩ := hi.row i r hr
    exact h.apart j Q r R v u (fun e => hn (by rw [e]; exact List.mem_of_getElem? hr)) hj h1 hf h2 hv hu g hg e) (fun i c loc hc hl e => h.rowat j Q v hj hf hv c 0 loc hl (by rw [e]; exact hg))
  have hE : SExt C (C.join M.nr M.H.nb bids.length C2) := ⟨fun b v loc hl => by rw [hjold b v (hatnb b v loc hl)]; exact hl, ⟨hS.imm, fun r v hv => by
    show (if r < M.nr then C.unk.row r else C2.unk.row (r - M.nr)) = some v
    rw [if_pos (h.lt r v hv).1]; exact hv⟩⟩
  have hblk : ∀ b ver loc, b ∉ bids → C.at_ b ver = some loc → w'.heap[loc.blk]? = w.heap[loc.blk]? := fun b ver loc hnb hl => (hS.rest _ (hatlt b ver loc hl) (fat b ver loc hnb hl)).1
  have hsize := hS.below.size
  -- the rows that are there now
  have hrows : ∀ j Q, rowGet (joinM M ids bids Rs2 Bs3 p).rows j = some Q → (M.nr ≤ j ∧ rowGet (bookM Rs2 Bs2 p2).rows (j - M.nr) = some Q) ∨ (rowGet M.rows j = some Q ∧ j ∉ ids ∧ j < M.nr) := fun j Q hj => by
    rcases rowGet_append (show rowGet (numR M.nr Rs2 ++ rowDels ids M.rows) j = some Q from hj) with h1 | h1
    · rw [numR_get] at h1
      split at h1
      · rename_i hle
        refine .inl ⟨hle, ?_⟩
        show rowGet (numR 0 Rs2) (j - M.nr) = some Q
        rw [numR_get, if_pos (Nat.zero_le _), Nat.sub_zero]; exact h1
      · cases h1
    · obtain ⟨h2, h3⟩ := rowGet_dels h1
      obtain ⟨v, h4, _⟩ := h.row j Q h2
      exact .inr ⟨h2, h3, (h.lt j v h4).1⟩
  have hnew : ∀ j v, C2.unk.row j = some v → ∀ g, v.ownBlock = some g → g < w.heap.size → ¬ Free (C.only ids bids) g := fun j v hv g hg hlt hfr => (hS.rest g hlt hfr).2.1.2 j v hv hg
  have row_new : ∀ j v, M.nr ≤ j → (C.join M.nr M.H.nb bids.length C2).unk.row j = some v → C2.unk.row (j - M.nr) = some v := fun j v hj hv => by
    have hv : (if j < M.nr then C.unk.row j else C2.unk.row (j - M.nr)) = some v := hv
    rwa [if_neg (by omega)] at hv
  have row_old : ∀ j v, j < M.nr → (C.join M.nr M.H.nb bids.length C2).unk.row j = some v → C.unk.row j = some v := fun j v hj hv => by
    have hv : (if j < M.nr then C.unk.row j else C2.unk.row (j - M.nr)) = some v := hv
    rwa [if_pos hj] at hv
  have hmix : ∀ j Q v i u, rowGet M.rows j = some Q → Q.fr = false → j ∉ ids → C.unk.row j = some v → C2.unk.row i = some u → Apart v u := fun j Q v i u hj hf hn hv hu g hg hgu =>
    hnew i u hu g hgu ((h.lt j v hv).2 g hg) (frow j Q v hj hf hn hv g hg)
  -- the blocks that are there now
  have hlen3 : bids.length ≤ Bs3.length := by rw [hX.l3, ← hb.len]; exact hX.l2
  obtain ⟨sx1', sx2'⟩ := setX_get bids (Bs3.take bids.length) M.H hb.nd (fun i b hib => by
    obtain ⟨B, _, h1, h2, _⟩ := hgiven i b hib
    exact ⟨h2, B, h1⟩) (by rw [List.length_take]; omega)
  rw [← setX_pre bids Bs3 M.H hlen3] at sx1' sx2'
  have hnbx : (setX bids Bs3 M.H).nb = M.H.nb := setX_nb _ _ _
  obtain ⟨px1, px2, px3, px4⟩ := pushX_get (dropB bids.length Bs3) (setX bids Bs3 M.H) (by rw [hnbx, dropB_eq, List.length_drop, hX.l3]; omega)
  rw [hnbx] at px1 px2 px3 px4
  rw [dropB_eq] at px1 px2 px3 px4
  rw [List.length_drop] at px1 px4
  have sx1 : ∀ b, b < M.H.nb → b ∉ bids → (pushX (Bs3.drop bids.length) (setX bids Bs3 M.H)).get b = M.H.get b := fun b hlt hnm => by rw [px2 b hlt]; exact sx1' b hnm
  have hboth : ∀ (i b : Nat), bids[i]? = some b → ∃ B X c2 c3, M.H.get b = some B ∧ Bs[i]? = some X ∧ X.elem = B.elem ∧ Bs2[i]? = some (boxB X.elem c2) ∧ c3.length = c2.length ∧ (∀ vs, Dens C2 c2 vs → Dens (C.join M.nr M.H.nb bids.length C2) c3 vs) ∧ (pushX (Bs3.drop bids.length) (setX bids Bs3 M.H)).get b = some ⟨c3, X.elem, [(0, c3.length)], B.next, 0, false, B.stamp + 1, none⟩ := fun i b hib => by
    obtain ⟨B, cs, h1, h2, h3, h4, h5, h6, h7, h8, h9, h10⟩ := hb.box i b hib
    have hil : i < bids.length := (List.getElem?_eq_some_iff.1 hib).1
    obtain ⟨T, c2, c3, g1, g2, g3, g4, g5⟩ := hX.box i (by have := hX.l2; rw [hb.len] at this; omega)
    have eT := g5 _ h8
    refine ⟨B, _, c2, c3, h1, h8, rfl, by rw [eT]; exact g1, g3, g4, ?_⟩
    rw [px2 b (h.mem.blk b B h1).1, sx2' i b _ B (by rw [List.getElem?_take, if_pos hil]; exact g2) hib h1]
    simp only [boxB] at eT ⊢
    rw [eT]
  -- the boxes that came
  have hcome : ∀ b, ¬ b < M.H.nb → b < M.H.nb + (Bs3.length - bids.length) → ∃ T c2 c3, Bs2[bids.length + (b - M.H.nb)]? = some (boxB T c2) ∧ c3.length = c2.length ∧ (∀ vs, Dens C2 c2 vs → Dens (C.join M.nr M.H.nb bids.length C2) c3 vs) ∧ (pushX (Bs3.drop bids.length) (setX bids Bs3 M.H)).get b = some (boxB T c3) := fun b hge hlt => by
    obtain ⟨T, c2, c3, g1, g2, g3, g4, g5⟩ := hX.box (bids.length + (b - M.H.nb)) (by rw [← hX.l3]; omega)
    refine ⟨T, c2, c3, g1, g3, g4, ?_⟩
    have := px3 (b - M.H.nb) _ (by rw [List.getElem?_drop]; exact g2)
    rwa [show M.H.nb + (b - M.H.nb) = b by omega] at this
  have hrange : ∀ b B', (pushX (Bs3.drop bids.length) (setX bids Bs3 M.H)).get b = some B' → b < M.H.nb ∨ (¬ b < M.H.nb ∧ b < M.H.nb + (Bs3.length - bids.length)) := fun b B' hB' => by
    by_cases h1 : b < M.H.nb
    · exact .inl h1
    · by_cases h2 : b < M.H.nb + (Bs3.length - bids.length)
      · exact .inr ⟨h1, h2⟩
      · exfalso
        rw [px4 b (by omega)] at hB'
        by_cases hbm : b ∈ bids
        · obtain ⟨i, hib⟩ := List.mem_iff_getElem?.1 hbm
          obtain ⟨B, _, k1, _⟩ := hgiven i b hib
          exact h1 (h.mem.blk b B k1).1
        · rw [sx1' b hbm] at hB'
          exact h1 (h.mem.blk b B' hB').1
  have hnewat : ∀ b ver loc, ¬ b < M.H.nb → (C.join M.nr M.H.nb bids.length C2).at_ b ver = some loc → C2.at_ (bids.length + (b - M.H.nb)) ver = some loc ∧ b < M.H.nb + (Bs3.length - bids.length) := fun b ver loc hge hl => by
    rw [hjnew b ver hge] at hl
    refine ⟨hl, ?_⟩
    obtain ⟨B, hB⟩ := hS.mem.mem.known _ _ _ hl
    have hB : (ofL Bs2).get (bids.length + (b - M.H.nb)) = some B := hB
    rw [ofL_get hsm2] at hB
    have := (List.getElem?_eq_some_iff.1 hB).1
    rw [hX.l3]; omega
  -- a box that came lies in no block that was told before
  have hapart : ∀ b ver loc b' ver' loc', b < M.H.nb → C.at_ b ver = some loc → ¬ b' < M.H.nb → C2.at_ (bids.length + (b' - M.H.nb)) ver' = some loc' → loc.blk ≠ loc'.blk := fun b ver loc b' ver' loc' hlt hl hge hl' e => by
    by_cases hbm : b ∈ bids
    · obtain ⟨i, hib⟩ := List.mem_iff_getElem?.1 hbm
      obtain ⟨_, _, _, _, _, _, k5⟩ := hgiven i b hib
      obtain ⟨rfl, k6⟩ := k5 ver loc hl
      have hil := (List.getElem?_eq_some_iff.1 hib).1
      exact hS.mem.mem.sep i 0 loc _ ver' loc' k6 hl' (by omega) e
    · exact (hS.rest _ (hatlt b ver loc hl) (fat b ver loc hbm hl)).2.1.1 _ _ _ hl' e.symm
  have hmem : Mem (C.join M.nr M.H.nb bids.length C2) (pushX (Bs3.drop bids.length) (setX bids Bs3 M.H)) base w' := by
    refine ⟨fun b B' hB' => ?_, fun b v loc hl => ?_, fun b v loc b' v' loc' hl hl' hne => ?_, Nat.le_trans h.mem.base hsize⟩
    · rw [px1]
      rcases hrange b B' hB' with hlt | ⟨hge, hlt⟩
      · refine ⟨by omega, ?_⟩
        by_cases hbm : b ∈ bids
        · obtain ⟨i, hib⟩ := List.mem_iff_getElem?.1 hbm
          obtain ⟨B, X, c2, c3, h1, h2, h3, h4, h5, h6, h7⟩ := hboth i b hib
          obtain ⟨_, _, k1, k2, k3, k4, k5⟩ := hgiven i b hib
          rw [h1] at k1; cases k1
          rw [h7] at hB'; cases hB'
          have hL := (hS.mem.mem.blk i _ (by show (ofL Bs2).get i = _; rw [ofL_get hsm2]; exact h4)).2
          have := hL.box (C' := C.join M.nr M.H.nb bids.length C2) (i := b) (cs := c3) rfl rfl (by simp [boxB]) h5 (fun v loc hl => k5 v loc (by rw [hjold b v hlt] at hl; exact hl)) (fun loc hl => by
            -- the box of that number is the one that was given
            rw [hjold b 0 hlt]
            obtain ⟨loc0, e1, _⟩ := (h.mem.blk b B h1).2.dom 0 _ (by
              obtain ⟨B', cs, q1, q2, q3, q4, q5, q6, q7, q8⟩ := hb.box i b hib
              rw [h1] at q1; cases q1; exact q7)
            have := (k5 0 loc0 e1).2
            rw [hl] at this; cases this
            exact e1) (fun vs hvs => h6 vs hvs) (nx := B.next) (st := B.stamp + 1) (by omega)
          obtain ⟨b1, b2, b3, b4, b5, b6, b7, b8⟩ := this
          exact ⟨b1, b2, b3, b4, b5, fun hro v loc hl => Nat.le_trans hb1 (b6 hro v loc hl), b7, b8⟩
        · rw [sx1 b hlt hbm] at hB'
          exact (h.mem.blk b B' hB').2.smono hE (fun v => hjold b v hlt) (fun v loc hl => hblk b v loc hbm hl) hsize
      · refine ⟨by omega, ?_⟩
        obtain ⟨T, c2, c3, g1, g2, g3, g4⟩ := hcome b hge hlt
        rw [g4] at hB'; cases hB'
        have hL := (hS.mem.mem.blk _ _ (by show (ofL Bs2).get _ = _; rw [ofL_get hsm2]; exact g1)).2
        have := hL.box (C' := C.join M.nr M.H.nb bids.length C2) (i := b) (cs := c3) rfl rfl (by simp [boxB]) g2 (fun v loc hl => by
          rw [hjnew b v hge] at hl
          have := (hL.ver v loc hl).1
          have hv : v = 0 := by simp only [boxB] at this; omega
          subst hv
          exact ⟨rfl, hl⟩) (fun loc hl => by rw [hjnew b 0 hge]; exact hl) (fun vs hvs => g3 vs hvs) (nx := 1) (st := 0) (by decide)
        obtain ⟨b1, b2, b3, b4, b5, b6, b7, b8⟩ := this
        exact ⟨b1, b2, b3, b4, b5, fun hro v loc hl => Nat.le_trans hb1 (b6 hro v loc hl), b7, b8⟩
    · by_cases hlt : b < M.H.nb
      · rw [hjold b v hlt] at hl
        obtain ⟨B, hB⟩ := h.mem.known b v loc hl
        by_cases hbm : b ∈ bids
        · obtain ⟨i, hib⟩ := List.mem_iff_getElem?.1 hbm
          obtain ⟨_, _, _, _, _, _, _, _, _, _, h7⟩ := hboth i b hib
          exact ⟨_, h7⟩
        · exact ⟨B, by rw [sx1 b hlt hbm]; exact hB⟩
      · obtain ⟨_, h2⟩ := hnewat b v loc hlt hl
        obtain ⟨_, _, _, _, _, _, g4⟩ := hcome b hlt h2
        exact ⟨_, g4⟩
    · by_cases hlt : b < M.H.nb
      · rw [hjold b v hlt] at hl
        by_cases hlt' : b' < M.H.nb
        · rw [hjold b' v' hlt'] at hl'
          exact h.mem.sep b v loc b' v' loc' hl hl' hne
        · exact hapart b v loc b' v' loc' hlt hl hlt' (hnewat b' v' loc' hlt' hl').1
      · have k1 := (hnewat b v loc hlt hl).1
        by_cases hlt' : b' < M.H.nb
        · rw [hjold b' v' hlt'] at hl'
          exact fun e => hapart b' v' loc' b v loc hlt' hl' hlt k1 e.symm
        · have k2 := (hnewat b' v' loc' hlt' hl').1
          exact hS.mem.mem.sep _ v loc _ v' loc' k1 k2 (by omega)
  have hfzb : ∀ b s, (b, s) ∈ M.fz → b ∉ bids := fun b s hm hbm => by
    obtain ⟨i, hib⟩ := List.mem_iff_getElem?.1 hbm
    obtain ⟨_, _, _, _, k3, _⟩ := hgiven i b hib
    exact k3 s hm
  refine ⟨hE.at_, hE.sx, ⟨by show Mem _ (pushX (dropB bids.length Bs3) (setX bids Bs3 M.H)) base w'; rw [dropB_eq]; exact hmem, hp, hS.mem.fits, fun j Q hj => ?_, fun j v hv => ?_, fun j Q j' Q' v v' hne h1 h2 hf1 hf2 h3 h4 => ?_, fun b hb' ver loc hl a ha => ?_, fun j Q v hj hf hv b ver loc hl e => ?_, fun b s hm => ?_, fun b s hm => ?_⟩, hS.below.mono hb1, fun b B hB => ?_, fun k hk hn => ?_, Nat.le_add_right _ _⟩
  · rcases hrows j Q hj with ⟨hle, h1⟩ | ⟨h1, h2, h3⟩
    · obtain ⟨v, h4, h5⟩ := hS.mem.row _ Q h1
      refine ⟨v, ?_, fun hf => (h5.own hf).lower hb1, h5.rep, h5.cl⟩
      show (if j < M.nr then C.unk.row j else C2.unk.row (j - M.nr)) = some v
      rw [if_neg (by omega)]; exact h4
    · obtain ⟨v, h4, h5⟩ := h.row j Q h1
      refine ⟨v, ?_, fun hf => ?_, fun hf => (h5.rep hf).mono hS.imm, h5.cl⟩
      · show (if j < M.nr then C.unk.row j else C2.unk.row (j - M.nr)) = some v
        rw [if_pos h3]; exact h4
      · have hfr := frow j Q v h1 hf h2 h4
        have hlt := (h.lt j v h4).2
        obtain ⟨⟨xs, k1, k2⟩, k3⟩ := Own.keepBlk (h5.own hf) (fun g hg => (hS.rest g (hlt g hg) (hfr g hg)).1)
        exact ⟨⟨xs, k1, k2.mono hS.imm⟩, fun g hg a ha => ((hS.rest g (hlt g hg) (hfr g hg)).2.2 a ha).trans (k3 g hg a ha)⟩
  · by_cases hj : j < M.nr
    · have := row_old j v hj hv
      obtain ⟨h1, h2⟩ := h.lt j v this
      exact ⟨Nat.lt_of_lt_of_le h1 (Nat.le_add_right _ _), fun g hg => Nat.lt_of_lt_of_le (h2 g hg) hsize⟩
    · have := row_new j v (by omega) hv
      obtain ⟨h1, h2⟩ := hS.mem.lt _ v this
      refine ⟨?_, h2⟩
      have h1 : j - M.nr < Rs2.length := h1
      show j < M.nr + Rs2.length
      omega
  · rcases hrows j Q h1 with ⟨g1, g2⟩ | ⟨g1, g2, g3⟩
    · have e1 := row_new j v g1 h3
      rcases hrows j' Q' h2 with ⟨k1, k2⟩ | ⟨k1, k2, k3⟩
      · have e2 := row_new j' v' k1 h4
        exact hS.mem.apart _ Q _ Q' v v' (by omega) g2 k2 hf1 hf2 e1 e2
      · have e2 := row_old j' v' k3 h4
        exact (hmix j' Q' v' _ v k1 hf2 k2 e2 e1).symm
    · have e1 := row_old j v g3 h3
      rcases hrows j' Q' h2 with ⟨k1, k2⟩ | ⟨k1, k2, k3⟩
      · have e2 := row_new j' v' k1 h4
        exact hmix j Q v _ v' g1 hf1 g2 e1 e2
      · have e2 := row_old j' v' k3 h4
        exact h.apart j Q j' Q' v v' hne g1 k1 hf1 hf2 e1 e2
  · show C2.unk.imm a = none
    by_cases hlt : b < M.H.nb
    · rw [hjold b ver hlt] at hl
      by_cases hbm : b ∈ bids
      · obtain ⟨i, hib⟩ := List.mem_iff_getElem?.1 hbm
        obtain ⟨_, _, _, _, _, _, k5⟩ := hgiven i b hib
        obtain ⟨rfl, k6⟩ := k5 ver loc hl
        exact hS.mem.imms i (fun s hm => by simp [bookM] at hm) 0 loc k6 a ha
      · rw [(hS.rest _ (hatlt b ver loc hl) (fat b ver loc hbm hl)).2.2 a ha]
        exact h.imms b hb' ver loc hl a ha
    · exact hS.mem.imms _ (fun s hm => by simp [bookM] at hm) ver loc (hnewat b ver loc hlt hl).1 a ha
  · by_cases hlt : b < M.H.nb
    · rw [hjold b ver hlt] at hl
      by_cases hbm : b ∈ bids
      · obtain ⟨i, hib⟩ := List.mem_iff_getElem?.1 hbm
        obtain ⟨_, _, _, _, _, _, k5⟩ := hgiven i b hib
        obtain ⟨rfl, k6⟩ := k5 ver loc hl
        rcases hrows j Q hj with ⟨g1, g2⟩ | ⟨g1, g2, g3⟩
        · exact hS.mem.rowat _ Q v g2 hf (row_new j v g1 hv) i 0 loc k6 e
        · exact h.rowat j Q v g1 hf (row_old j v g3 hv) b 0 loc hl e
      · rcases hrows j Q hj with ⟨g1, g2⟩ | ⟨g1, g2, g3⟩
        · exact hnew _ v (row_new j v g1 hv) _ e (hatlt b ver loc hl) (fat b ver loc hbm hl)
        · exact h.rowat j Q v g1 hf (row_old j v g3 hv) b ver loc hl e
    · have k1 := (hnewat b ver loc hlt hl).1
      rcases hrows j Q hj with ⟨g1, g2⟩ | ⟨g1, g2, g3⟩
      · exact hS.mem.rowat _ Q v g2 hf (row_new j v g1 hv) _ ver loc k1 e
      · have e1 := row_old j v g3 hv
        exact (hS.rest _ ((h.lt j v e1).2 _ e) (frow j Q v g1 hf g2 e1 _ e)).2.1.1 _ _ _ k1 rfl
  · obtain ⟨B, h1, h2⟩ := h.fzs b s hm
    exact ⟨B, by show (pushX (dropB bids.length Bs3) (setX bids Bs3 M.H)).get b = _; rw [dropB_eq, sx1 b (h.mem.blk b B h1).1 (hfzb b s hm)]; exact h1, h2⟩
  · obtain ⟨loc, h1, h2⟩ := h.fzi b s hm
    refine ⟨loc, by rw [hjold b 0 (hatnb b 0 loc h1)]; exact h1, fun a u ha hc => hS.imm _ _ (h2 a u ha ?_)⟩
    rw [← hc]
    exact (cell_of_heap (by rw [ha]; exact hblk b 0 loc (hfzb b s hm) h1)).symm
  · have hlt := (h.mem.blk b B hB).1
    by_cases hbm : b ∈ bids
    · obtain ⟨i, hib⟩ := List.mem_iff_getElem?.1 hbm
      obtain ⟨B0, X, c2, c3, h1, h2, h3, h4, h5, h6, h7⟩ := hboth i b hib
      rw [hB] at h1; cases h1
      refine ⟨_, by show (pushX (dropB bids.length Bs3) (setX bids Bs3 M.H)).get b = _; rw [dropB_eq]; exact h7, Nat.le_succ _, fun e => absurd (show B.stamp + 1 = B.stamp from e) (by omega)⟩
    · exact ⟨B, by show (pushX (dropB bids.length Bs3) (setX bids Bs3 M.H)).get b = _; rw [dropB_eq, sx1 b hlt hbm]; exact hB, Nat.le_refl _, fun _ ver loc hl => hblk b ver loc hbm hl⟩
  · have hfr : Free (C.only ids bids) k := only_free hn
    obtain ⟨h1, h2, h3⟩ := hS.rest k hk hfr
    refine ⟨h1, ⟨fun b v loc hl => ?_, fun j v hv e => ?_⟩, h3⟩
    · by_cases hlt : b < M.H.nb
      · rw [hjold b v hlt] at hl; exact hn.1 b v loc hl
      · exact h2.1 _ _ _ (hnewat b v loc hlt hl).1
    · by_cases hj : j < M.nr
      · exact hn.2 j v (row_old j v hj hv) e
      · exact h2.2 _ v (row_new j v (by omega) hv) e
end
end Go.EV
