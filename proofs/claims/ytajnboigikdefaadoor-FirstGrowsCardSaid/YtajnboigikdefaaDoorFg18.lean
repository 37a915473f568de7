/- Texts that the proof of a law rests on, put together: part 18. -/
import Derived.Test.YtajnboigikdefaaDoorFg17
namespace Go.EV
open Go Go.RowKit
open Go.XW (Imm Fits DD RepV SL LeafOk leafB Own Apart addI)
set_option linter.unusedVariables false
set_option linter.unusedSimpArgs false
structure Row where
  t : Ty
  T : TypeId
  xs : List t.den
  /-- how long it is, if that is known -/
  cl : Option Nat
  /-- told as read: it is written no more -/
  fr : Bool
structure SH where
  H : Heap
  rows : List (Nat × Row)
  nr : Nat
  fz : List (Nat × Nat)
  pc : Prop
def rowGet : List (Nat × Row) → Nat → Option Row
  | [], _ => none
  | (k, R) :: l, r => match Nat.beq k r with
    | true => some R
    | false => rowGet l r
def rowDel (r : Nat) : List (Nat × Row) → List (Nat × Row)
  | [] => []
  | (k, R) :: l => match Nat.beq k r with
    | true => rowDel r l
    | false => (k, R) :: rowDel r l
def rowSet (r : Nat) (R' : Row) : List (Nat × Row) → List (Nat × Row)
  | [] => []
  | (k, R) :: l => match Nat.beq k r with
    | true => (k, R') :: l
    | false => (k, R) :: rowSet r R' l
theorem rowGet_del {r : Nat} : ∀ {l : List (Nat × Row)} {j : Nat} {R : Row}, rowGet (rowDel r l) j = some R → rowGet l j = some R ∧ j ≠ r
  | [], j, R, h => by simp [rowDel, rowGet] at h
  | (k, Q) :: l, j, R, h => by
    simp only [rowDel] at h
    cases hb : Nat.beq k r with
    | true =>
      rw [hb] at h
      obtain ⟨h1, h2⟩ := rowGet_del h
      have e := Nat.eq_of_beq_eq_true hb
      refine ⟨?_, h2⟩
      simp only [rowGet]
      have : Nat.beq k j = false := by
        cases hb2 : Nat.beq k j with
        | false => rfl
        | true => exact absurd ((Nat.eq_of_beq_eq_true hb2).symm.trans e) h2
      rw [this]; exact h1
    | false =>
      rw [hb] at h
      simp only [rowGet] at h ⊢
      cases hb2 : Nat.beq k j with
      | true =>
        rw [hb2] at h
        refine ⟨h, fun e => ?_⟩
        have := Nat.eq_of_beq_eq_true hb2
        subst this; subst e; simp at hb
      | false => rw [hb2] at h; exact rowGet_del h
theorem rowGet_set {r : Nat} {R' : Row} : ∀ {l : List (Nat × Row)} {j : Nat} {R : Row}, rowGet (rowSet r R' l) j = some R → (j = r ∧ R = R' ∧ ∃ R0, rowGet l r = some R0) ∨ (j ≠ r ∧ rowGet l j = some R)
  | [], j, R, h => by simp [rowSet, rowGet] at h
  | (k, Q) :: l, j, R, h => by
    simp only [rowSet] at h
    cases hb : Nat.beq k r with
    | true =>
      have e := Nat.eq_of_beq_eq_true hb
      subst e
      rw [hb] at h
      simp only [rowGet] at h ⊢
      cases hb2 : Nat.beq k j with
      | true =>
        rw [hb2] at h
        cases h
        exact .inl ⟨(Nat.eq_of_beq_eq_true hb2).symm, rfl, Q, by simp⟩
      | false =>
        rw [hb2] at h
        exact .inr ⟨(fun e => by subst e; simp at hb2), h⟩
    | false =>
      rw [hb] at h
      simp only [rowGet] at h ⊢
      rw [hb]
      cases hb2 : Nat.beq k j with
      | true =>
        rw [hb2] at h
        refine .inr ⟨fun e => ?_, h⟩
        have := Nat.eq_of_beq_eq_true hb2
        subst this; subst e; simp at hb
      | false => rw [hb2] at h; exact rowGet_set h
theorem rowGet_cons {k : Nat} {Q : Row} {l : List (Nat × Row)} {j : Nat} {R : Row} (h : rowGet ((k, Q) :: l) j = some R) : (j = k ∧ R = Q) ∨ (j ≠ k ∧ rowGet l j = some R) := by
  simp only [rowGet] at h
  cases hb : Nat.beq k j with
  | true => rw [hb] at h; cases h; exact .inl ⟨(Nat.eq_of_beq_eq_true hb).symm, rfl⟩
  | false => rw [hb] at h; exact .inr ⟨(fun e => by subst e; simp at hb), h⟩
structure RowOk (I : Imm) (base : Nat) (w : World) (R : Row) (v : Value) : Prop where
  own : R.fr = false → Own base I w R.T R.t.cells R.t.dd R.xs v
  rep : R.fr = true → RepV I (SL R.t.cells R.t.dd R.xs) v
  cl : ∀ n, R.cl = some n → R.xs.length = n
structure SMem (C : Cx) (M : SH) (base : Nat) (w : World) : Prop where
  mem : Mem C M.H base w
  pc : M.pc
  fits : Fits C.unk.imm w
  row : ∀ r R, rowGet M.rows r = some R → ∃ v, C.unk.row r = some v ∧ RowOk C.unk.imm base w R v
  lt : ∀ r v, C.unk.row r = some v → r < M.nr ∧ ∀ g, v.ownBlock = some g → g < w.heap.size
  apart : ∀ r R r' R' v v', r ≠ r' → rowGet M.rows r = some R → rowGet M.rows r' = some R' → R.fr = false → R'.fr = false → C.unk.row r = some v → C.unk.row r' = some v' → Apart v v'
  imms : ∀ b, (∀ s, (b, s) ∉ M.fz) → ∀ ver loc, C.at_ b ver = some loc → ∀ a : Addr, a.block = loc.blk → C.unk.imm a = none
  rowat : ∀ r R v, rowGet M.rows r = some R → R.fr = false → C.unk.row r = some v → ∀ b ver loc, C.at_ b ver = some loc → v.ownBlock ≠ some loc.blk
  fzs : ∀ b s, (b, s) ∈ M.fz → ∃ B, M.H.get b = some B ∧ B.stamp = s
  fzi : ∀ b s, (b, s) ∈ M.fz → ∃ loc, C.at_ b 0 = some loc ∧ ∀ (a : Addr) u, a.block = loc.blk → w.cell? a = some u → C.unk.imm a = some u
def Free (C : Cx) (k : Nat) : Prop := (∀ b v loc, C.at_ b v = some loc → loc.blk ≠ k) ∧ ∀ r v, C.unk.row r = some v → v.ownBlock ≠ some k
structure SStep (C C' : Cx) (M M' : SH) (base : Nat) (w w' : World) : Prop where
  at_ : ∀ b v loc, C.at_ b v = some loc → C'.at_ b v = some loc
  sx : SxExt C.unk C'.unk
  mem : SMem C' M' base w'
  below : Below base w w'
  keep : ∀ b B, M.H.get b = some B → ∃ B', M'.H.get b = some B' ∧ B.stamp ≤ B'.stamp ∧ (B'.stamp = B.stamp → ∀ v loc, C.at_ b v = some loc → w'.heap[loc.blk]? = w.heap[loc.blk]?)
  rest : ∀ k, k < w.heap.size → Free C k → w'.heap[k]? = w.heap[k]? ∧ Free C' k ∧ ∀ a : Addr, a.block = k → C'.unk.imm a = C.unk.imm a
  nr : M.nr ≤ M'.nr
section
variable {C C' : Cx} {M M' : SH} {base : Nat} {w w' : World}
theorem SStep.refl (h : SMem C M base w) : SStep C C M M base w w :=
  ⟨fun _ _ _ h => h, .refl _, h, Below.refl _ _, fun b B hB => ⟨B, hB, Nat.le_refl _, fun _ _ _ _ => rfl⟩, fun k _ hn => ⟨rfl, hn, fun _ _ => rfl⟩, Nat.le_refl _⟩
theorem SStep.trans {A B C : Cx} {H I J : SH} {u v w : World} (h : SStep A B H I base u v) (k : SStep B C I J base v w) : SStep A C H J base u w := by
  refine ⟨fun b x l hl => k.at_ b x l (h.at_ b x l hl), h.sx.trans k.sx, k.mem, h.below.trans k.below, fun b X hX => ?_, fun j hj hn => ?_, Nat.le_trans h.nr k.nr⟩
  · obtain ⟨Y, hY, h1, h2⟩ := h.keep b X hX
    obtain ⟨Z, hZ, h3, h4⟩ := k.keep b Y hY
    refine ⟨Z, hZ, by omega, fun e x loc hl => ?_⟩
    rw [h4 (by omega) x loc (h.at_ _ _ _ hl), h2 (by omega) x loc hl]
  · obtain ⟨h5, h6, h7⟩ := h.rest j hj hn
    obtain ⟨h8, h9, h10⟩ := k.rest j (by have := h.below.size; omega) h6
    exact ⟨h8.trans h5, h9, fun a ha => (h10 a ha).trans (h7 a ha)⟩
structure SExt (C C' : Cx) : Prop where
  at_ : ∀ b v loc, C.at_ b v = some loc → C'.at_ b v = some loc
  sx : SxExt C.unk C'.unk
theorem SExt.refl (C : Cx) : SExt C C := ⟨fun _ _ _ h => h, .refl _⟩
theorem SStep.ext (h : SStep C C' M M' base w w') : SExt C C' := ⟨h.at_, h.sx⟩
theorem Den.smono (hE : SExt C C') {d : AV} {u : Value} (h : Den C d u) : Den C' d u := by
  induction h with
  | lit v => exact .lit v
  | any h => exact .any h
  | ptr h h1 => exact .ptr (hE.at_ _ _ _ h) h1
  | empty a c => exact .empty a c
  | sl h h1 h3 h4 h5 h6 => exact .sl (hE.at_ _ _ _ h) h1 h3 h4 h5 h6
  | mp h => exact .mp (hE.at_ _ _ _ h)
  | hole v => exact .hole v
  | agg hl _ ih => exact .agg hl ih
  | tup hl _ ih => exact .tup hl ih
  | iface _ ih => exact .iface ih
  | clo hl hm _ _ ih ih' => exact .clo hl hm ih ih'
  | sym h => exact .sym (h.mono hE.sx)
theorem Dens.smono (hE : SExt C C') {l : List AV} {vs : List Value} (h : Dens C l vs) : Dens C' l vs := ⟨h.1, fun i d u hd hu => (h.2 i d u hd hu).smono hE⟩
theorem ESat.smono (hE : SExt C C') {n : Nat} {E : EnvA} {a : Act} (h : ESat C n E a) : ESat C' n E a := ⟨h.size, fun i d hd => let ⟨v, hv, hD⟩ := h.slot i d hd; ⟨v, hv, hD.smono hE⟩⟩
theorem DefOk.smono (hE : SExt C C') {l : List (FuncId × List AV × List AV)} {m : List Deferred} (h : DefOk C l m) : DefOk C' l m := by
  induction h with
  | nil => exact .nil
  | cons h1 h2 _ ih => exact .cons (h1.smono hE) (h2.smono hE) ih
theorem ObjOk.smono (hE : SExt C C') {a : AObj} {o : Obj} (h : ObjOk C a o) : ObjOk C' a o := by
  cases h with
  | iter => exact .iter _ _
  | map hl h => exact .map hl (fun i x y hx hy => let ⟨h1, h2, h3⟩ := h i x y hx hy; ⟨h1.smono hE, h2.smono hE, h3⟩)
theorem Local.smono {b : Nat} {B : Blk} (h : Local C b B base w) (hE : SExt C C') (hat : ∀ v, C'.at_ b v = C.at_ b v) (hw : ∀ v loc, C.at_ b v = some loc → w'.heap[loc.blk]? = w.heap[loc.blk]?) (hs : w.heap.size ≤ w'.heap.size) : Local C' b B base w' := by
  refine ⟨fun v n hv => ?_, fun v loc hl => ?_, fun v n loc hv hl => ?_, fun v n loc hv hl i h1 h2 => ?_, fun v n v' n' loc loc' hv hv' hl hl' hbk => ?_, fun hr v loc hl => ?_, fun a ha => ?_, fun loc hl => by rw [hat] at hl; exact h.at0 loc hl⟩
  · rw [hat]; exact h.dom v n hv
  · rw [hat] at hl
    have := h.ver v loc hl
    exact ⟨this.1, by omega⟩
  · rw [hat] at hl
    rw [hw v loc hl]; exact h.obj v n loc hv hl
  · rw [hat] at hl
    obtain ⟨d, u, hd, hu, hD⟩ := h.cell v n loc hv hl i h1 h2
    exact ⟨d, u, hd, by rw [cell_of_heap (w := w) (hw v loc hl)]; exact hu, hD.smono hE⟩
  · rw [hat] at hl hl'; exact h.fam v n v' n' loc loc' hv hv' hl hl' hbk
  · rw [hat] at hl; exact h.own hr v loc hl
  · obtain ⟨loc, o, h1, h2, h3, h4⟩ := h.objs a ha
    exact ⟨loc, o, by rw [hat]; exact h1, by rw [hw 0 loc h1]; exact h2, h3.smono hE, h4⟩
theorem Mem.smono {H : Heap} (h : Mem C H base w) (hE : SExt C C') (hat : C'.at_ = C.at_) (hw : ∀ b v loc, C.at_ b v = some loc → w'.heap[loc.blk]? = w.heap[loc.blk]?) (hs : w.heap.size ≤ w'.heap.size) : Mem C' H base w' :=
  ⟨fun b B hB => ⟨(h.blk b B hB).1, (h.blk b B hB).2.smono hE (fun v => by rw [hat]) (fun v loc hl => hw b v loc hl) hs⟩, fun b v loc hl => h.known b v loc (by rw [← hat]; exact hl), fun b v loc b' v' loc' hl hl' hne => h.sep b v loc b' v' loc' (by rw [← hat]; exact hl) (by rw [← hat]; exact hl') hne, Nat.le_trans h.base hs⟩
theorem Own.keepBlk {α : Type} {I : Imm} {T e : Nat} {f : α → List DD} {l : List α} {v : Value} (h : Own base I w T e f l v) (hw : ∀ g, v.ownBlock = some g → w'.heap[g]? = w.heap[g]?) : Own base I w' T e f l v := by
  obtain ⟨xs, ⟨h1, h2⟩, h3⟩ := h.row
  refine ⟨⟨xs, ⟨h1, ?_⟩, h3⟩, h.away⟩
  rcases h2 with h2 | ⟨g, cap, cur, rfl, hb, hg, rest⟩
  · exact .inl h2
  · exact .inr ⟨g, cap, cur, rfl, hb, by rw [hw g rfl]; exact hg, rest⟩
noncomputable def fzOk (H : Heap) : List (Nat × Nat) → Bool
  | [] => true
  | (b, s) :: r => match H.get b with
    | some B => Nat.beq B.stamp s && fzOk H r
    | none => false
theorem fzOk_spec {H : Heap} : ∀ {l : List (Nat × Nat)}, fzOk H l = true → ∀ b s, (b, s) ∈ l → ∃ B, H.get b = some B ∧ B.stamp = s
  | [], _, b, s, hm => by simp at hm
  | (c, u) :: r, h, b, s, hm => by
    simp only [fzOk] at h
    split at h
    · rename_i B hB
      simp only [Bool.and_eq_true] at h
      rcases List.mem_cons.1 hm with e | hm
      · cases e; exact ⟨B, hB, Nat.eq_of_beq_eq_true h.1⟩
      · exact fzOk_spec h.2 b s hm
    · cases h
theorem SMem.lift {H' : Heap} (h : SMem C M base w) (hS : Step C C' M.H H' base w w') (hz : fzOk H' M.fz = true) : SStep C C' M { M with H := H' } base w w' := by
  have hu : C'.unk = C.unk := hS.ext.unk
  have unn : ∀ k, k < w.heap.size → (∀ b v loc, C.at_ b v = some loc → loc.blk ≠ k) → w'.heap[k]? = w.heap[k]? := fun k hk hn => (hS.rest k hk hn).1
  have hfits : Fits C'.unk.imm w' := fun a v ha => by
    rw [hu] at ha
    have hk := h.fits.lt ha
    have hcell := h.fits a v ha
    by_cases hn : ∀ b v loc, C.at_ b v = some loc → loc.blk ≠ a.block
    · rw [cell_of_heap (w := w) (unn _ hk hn)]; exact hcell
    · simp only [Classical.not_forall, ne_eq, Classical.not_not] at hn
      obtain ⟨b, ver, loc, hl, hb⟩ := hn
      by_cases hf : ∀ s, (b, s) ∉ M.fz
      · rw [h.imms b hf ver loc hl a hb.symm] at ha; cases ha
      · simp only [Classical.not_forall, Classical.not_not] at hf
        obtain ⟨s, hs⟩ := hf
        obtain ⟨B, hB, e1⟩ := h.fzs b s hs
        obtain ⟨B', hB', e2⟩ := fzOk_spec hz b s hs
        obtain ⟨B'', hB'', _, h3⟩ := hS.keep b B hB
        rw [hB'] at hB''; cases hB''
        have := h3 (by omega) ver loc hl
        rw [hb] at this
        rw [cell_of_heap (w := w) this]; exact hcell
  have hrowblk : ∀ r R v, rowGet M.rows r = some R → R.fr = false → C.unk.row r = some v → ∀ g, v.ownBlock = some g → w'.heap[g]? = w.heap[g]? := fun r R v hr hf hv g hg =>
    unn g ((h.lt r v hv).2 g hg) (fun b ver loc hl e => h.rowat r R v hr hf hv b ver loc hl (by rw [e]; exact hg))
  refine ⟨hS.ext.at_, by rw [hu]; exact .refl _, ⟨hS.mem, h.pc, hfits, fun r R hr => ?_, fun r v hv => ?_, fun r R r' R' v v' hne h1 h2 hf1 hf2 h3 h4 => h.apart r R r' R' v v' hne h1 h2 hf1 hf2 (by rw [← hu]; exact h3) (by rw [← hu]; exact h4), fun b hb ver loc hl a ha => ?_, fun r R v hr hf hv b ver loc hl hg => ?_, fun b s hm => fzOk_spec hz b s hm, fun b s hm => ?_⟩, hS.below, hS.keep, fun k hk hn => ⟨unn k hk hn.1, ⟨(hS.rest k hk hn.1).2, by rw [hu]; exact hn.2⟩, fun a _ => by rw [hu]⟩, Nat.le_refl _⟩
  · obtain ⟨v, h1, h2⟩ := h.row r R hr
    refine ⟨v, by rw [hu]; exact h1, fun hf => ?_, fun hf => by rw [hu]; exact h2.rep hf, h2.cl⟩
    rw [hu]
    exact Own.keepBlk (h2.own hf) (hrowblk r R v hr hf h1)
  · rw [hu] at hv
    obtain ⟨h1, h2⟩ := h.lt r v hv
    exact ⟨h1, fun g hg => Nat.lt_of_lt_of_le (h2 g hg) hS.below.size⟩
  · rw [hu]
    cases hI : C.unk.imm a with
    | none => rfl
    | some u =>
      exfalso
      have hk := h.fits.lt hI
      by_cases hn : ∀ b v loc, C.at_ b v = some loc → loc.blk ≠ a.block
      · exact (hS.rest _ hk hn).2 b ver loc hl ha.symm
      · simp only [Classical.not_forall, ne_eq, Classical.not_not] at hn
        obtain ⟨b0, v0, loc0, hl0, hb0⟩ := hn
        by_cases e : b0 = b
        · subst e
          rw [h.imms b0 hb v0 loc0 hl0 a hb0.symm] at hI; cases hI
        · exact hS.mem.sep b0 v0 loc0 b ver loc (hS.ext.at_ _ _ _ hl0) hl e (by rw [hb0, ha])
  · rw [hu] at hv
    have hk := (h.lt r v hv).2 loc.blk hg
    exact (hS.rest loc.blk hk (fun b v' l' hl' e => h.rowat r R v hr hf hv b v' l' hl' (by rw [e]; exact hg))).2 b ver loc hl rfl
  · obtain ⟨loc, h1, h2⟩ := h.fzi b s hm
    refine ⟨loc, hS.ext.at_ _ _ _ h1, fun a u ha hc => ?_⟩
    obtain ⟨B, hB, e1⟩ := h.fzs b s hm
    obtain ⟨B', hB', e2⟩ := fzOk_spec hz b s hm
    obtain ⟨B'', hB'', _, h3⟩ := hS.keep b B hB
    rw [hB'] at hB''; cases hB''
    have := h3 (by omega) 0 loc h1
    rw [hu]
    exact h2 a u ha (by rw [← hc]; exact (cell_of_heap (by rw [ha]; exact this)).symm)
theorem SMem.cond (h : SMem C M base w) {p : Prop} (hp : p) : SStep C C M { M with pc := p } base w w :=
  ⟨fun _ _ _ h => h, .refl _, ⟨h.mem, hp, h.fits, h.row, h.lt, h.apart, h.imms, h.rowat, h.fzs, h.fzi⟩, Below.refl _ _, fun b B hB => ⟨B, hB, Nat.le_refl _, fun _ _ _ _ => rfl⟩, fun k _ hn => ⟨rfl, hn, fun _ _ => rfl⟩, Nat.le_refl _⟩
theorem SMem.drew (h : SMem C M base w) (hb : Below w.heap.size w w') : SStep C C M M base w w' := by
  have hS := Step.same h.mem hb
  have hz : fzOk M.H M.fz = true := by
    have : ∀ l : List (Nat × Nat), (∀ b s, (b, s) ∈ l → ∃ B, M.H.get b = some B ∧ B.stamp = s) → fzOk M.H l = true := by
      intro l
      induction l with
      | nil => intro _; rfl
      | cons x r ih =>
        intro hl
        obtain ⟨b, s⟩ := x
        obtain ⟨B, hB, e⟩ := hl b s List.mem_cons_self
        simp only [fzOk, hB, e, Nat.beq_refl, Bool.true_and]
        exact ih (fun b s hm => hl b s (List.mem_cons_of_mem _ hm))
    exact this _ h.fzs
  exact h.lift hS hz
def Cx.withRow (C : Cx) (r : Nat) (v : Value) : Cx := ⟨C.at_, ⟨C.unk.imm, fun i => if i = r then some v else C.unk.row i⟩⟩
theorem Cx.withRow_same (C : Cx) (r : Nat) (v : Value) : (C.withRow r v).unk.row r = some v := by show (if r = r then some v else _) = _; rw [if_pos rfl]
theorem Cx.withRow_ne (C : Cx) {r i : Nat} (v : Value) (h : i ≠ r) : (C.withRow r v).unk.row i = C.unk.row i := by show (if i = r then some v else _) = _; rw [if_neg h]
theorem SMem.newRow (h : SMem C M base w) (R : Row) (v : Value) (rows' : List (Nat × Row)) (hsub : ∀ j Q, rowGet rows' j = some Q → rowGet M.rows j = some Q) (blk : Option Nat)
    (hown : RowOk C.unk.imm base w' R v) (hg : w.grownBy w' blk) (hb : ∀ g, v.ownBlock = some g → blk = some g ∨ g = w.heap.size) (hvlt : ∀ g, v.ownBlock = some g → g < w'.heap.size) (hfr : R.fr = false)
    (hblk : ∀ g, blk = some g → ∃ r0 R0 v0, rowGet M.rows r0 = some R0 ∧ R0.fr = false ∧ C.unk.row r0 = some v0 ∧ v0.ownBlock = some g ∧ ∀ Q, rowGet rows' r0 ≠ some Q) :
    SStep C (C.withRow M.nr v) M { M with rows := (M.nr, R) :: rows', nr := M.nr + 1 } base w w' := by
  have hfresh : ∀ u, C.unk.row M.nr ≠ some u := fun u hu => by have := (h.lt _ _ hu).1; omega
  have hne : ∀ r u, C.unk.row r = some u → r ≠ M.nr := fun r u hu e => hfresh u (e ▸ hu)
  have hE : SExt C (C.withRow M.nr v) := ⟨fun _ _ _ h => h, ⟨XW.Ext.refl _, fun r u hu => by rw [Cx.withRow_ne C v (hne r u hu)]; exact hu⟩⟩
  -- blocks that the book names otherwise stay
  have hat : ∀ b ver loc, C.at_ b ver = some loc → some loc.blk ≠ blk := fun b ver loc hl e => by
    obtain ⟨r0, R0, v0, h1, h2, h3, h4, _⟩ := hblk loc.blk e.symm
    exact h.rowat r0 R0 v0 h1 h2 h3 b ver loc hl h4
  have hatlt : ∀ b ver loc, C.at_ b ver = some loc → loc.blk < w.heap.size := fun b ver loc hl => by
    obtain ⟨B, hB⟩ := h.mem.known b ver loc hl
    exact ((h.mem.blk b B hB).2.ver ver loc hl).2
  have hother : ∀ j Q u, rowGet rows' j = some Q → Q.fr = false → C.unk.row j = some u → ∀ g, u.ownBlock = some g → some g ≠ blk := fun j Q u hj hQ hu g hg' e => by
    obtain ⟨r0, R0, v0, h1, h2, h3, h4, h5⟩ := hblk g e.symm
    by_cases ej : j = r0
    · subst ej; exact h5 Q hj
    · exact h.apart j Q r0 R0 u v0 ej (hsub j Q hj) h1 hQ h2 hu h3 g hg' h4
  have hfit : Fits C.unk.imm w' := fun a u ha => by
    have hk := h.fits.lt ha
    have hnb : some a.block ≠ blk := fun e => by
      obtain ⟨r0, R0, v0, h1, h2, h3, h4, _⟩ := hblk a.block e.symm
      obtain ⟨v1, e1, e2⟩ := h.row r0 R0 h1
      rw [h3] at e1; cases e1
      rw [(e2.own h2).away a.block h4 a rfl] at ha; cases ha
    exact hg.cell (h.fits a u ha) hnb
  have hbase : ∀ g, blk = some g → base ≤ g := fun g e => by
    obtain ⟨r0, R0, v0, h1, h2, h3, h4, _⟩ := hblk g e
    obtain ⟨v1, e1, e2⟩ := h.row r0 R0 h1
    rw [h3] at e1; cases e1
    exact ((e2.own h2).lt g h4).1
  refine ⟨hE.at_, hE.sx, ⟨h.mem.smono hE rfl (fun b ver loc hl => hg.block _ (hatlt b ver loc hl) (hat b ver loc hl)) hg.size, h.pc, hfit, fun r Q hr => ?_, fun r u hu => ?_, fun r Q r' Q' u u' hn h1 h2 hf1 hf2 h3 h4 => ?_, h.imms, fun r Q u hr hf hu b ver loc hl e => ?_, h.fzs, fun b s hm => let ⟨loc, h1, h2⟩ := h.fzi b s hm; ⟨loc, h1, fun a u ha hc => h2 a u ha (by rw [← hc]; exact (cell_of_heap (by rw [ha]; exact hg.block _ (hatlt b 0 loc h1) (hat b 0 loc h1))).symm)⟩⟩, ⟨hg.os, hg.tape, hg.output, hg.size, fun k hk => hg.block k (Nat.lt_of_lt_of_le hk h.mem.base) (fun e => by have := hbase k e.symm; omega)⟩, fun b B hB => ⟨B, hB, Nat.le_refl _, fun _ ver loc hl => hg.block _ (hatlt b ver loc hl) (hat b ver loc hl)⟩, fun k hk hn => ⟨hg.block k hk (fun e => ?_), ⟨hn.1, fun r u hu e => ?_⟩, fun _ _ => rfl⟩, Nat.le_succ _⟩
  · rcases rowGet_cons hr with ⟨rfl, rfl⟩ | ⟨hne', hr⟩
    · exact ⟨v, Cx.withRow_same _ _ _, hown⟩
    · obtain ⟨u, h1, h2⟩ := h.row r Q (hsub r Q hr)
      refine ⟨u, by rw [Cx.withRow_ne C v hne']; exact h1, fun hf => ?_, h2.rep, h2.cl⟩
      exact Own.keepBlk (h2.own hf) (fun g hgu => hg.block g ((h.lt r u h1).2 g hgu) (hother r Q u hr hf h1 g hgu))
  · by_cases e : r = M.nr
    · subst e
      rw [Cx.withRow_same] at hu; cases hu
      exact ⟨Nat.lt_succ_self _, hvlt⟩
    · rw [Cx.withRow_ne C v e] at hu
      obtain ⟨h1, h2⟩ := h.lt r u hu
      exact ⟨Nat.lt_succ_of_lt h1, fun g hgu => Nat.lt_of_lt_of_le (h2 g hgu) hg.size⟩
  · have key : ∀ j Q u, rowGet rows' j = some Q → Q.fr = false → C.unk.row j = some u → Apart v u := fun j Q u hj hQ hu g hgv hgu => by
      rcases hb g hgv with e | e
      · exact hother j Q u hj hQ hu g hgu e.symm
      · have := (h.lt j u hu).2 g hgu; omega
    rcases rowGet_cons h1 with ⟨rfl, rfl⟩ | ⟨hn1, k1⟩
    · rw [Cx.withRow_same] at h3; cases h3
      rcases rowGet_cons h2 with ⟨rfl, rfl⟩ | ⟨hn2, k2⟩
      · exact absurd rfl hn
      · rw [Cx.withRow_ne C v hn2] at h4
        exact key r' Q' u' k2 hf2 h4
    · rw [Cx.withRow_ne C v hn1] at h3
      rcases rowGet_cons h2 with ⟨rfl, rfl⟩ | ⟨hn2, k2⟩
      · rw [Cx.withRow_same] at h4; cases h4
        exact (key r Q u k1 hf1 h3).symm
      · rw [Cx.withRow_ne C v hn2] at h4
        exact h.apart r Q r' Q' u u' hn (hsub _ _ k1) (hsub _ _ k2) hf1 hf2 h3 h4
  · rcases rowGet_cons hr with ⟨rfl, rfl⟩ | ⟨hn1, hr⟩
    · rw [Cx.withRow_same] at hu; cases hu
      rcases hb _ e with e1 | e1
      · exact hat b ver loc hl e1.symm
      · have := hatlt b ver loc hl; omega
    · rw [Cx.withRow_ne C v hn1] at hu
      exact h.rowat r Q u (hsub _ _ hr) hf hu b ver loc hl e
  · obtain ⟨r0, R0, v0, h1, h2, h3, h4, _⟩ := hblk k e.symm
    exact hn.2 r0 v0 h3 h4
  · by_cases er : r = M.nr
    · subst er
      rw [Cx.withRow_same] at hu; cases hu
      rcases hb _ e with e1 | e1
      · obtain ⟨r0, R0, v0, h1, h2, h3, h4, _⟩ := hblk k e1
        exact hn.2 r0 v0 h3 h4
      · omega
    · rw [Cx.withRow_ne C v er] at hu
      exact hn.2 r u hu e
theorem SMem.setRow (h : SMem C M base w) {r : Nat} {R : Row} {v : Value} (hr : rowGet M.rows r = some R) (hf : R.fr = false) (hv : C.unk.row r = some v) (R' : Row) (hf' : R'.fr = false) (hown : RowOk C.unk.imm base w' R' v) (hg : w.grownBy w' v.ownBlock) :
    SStep C C M { M with rows := rowSet r R' M.rows } base w w' := by
  have hown0 : Own base C.unk.imm w R.T R.t.cells R.t.dd R.xs v := by
    obtain ⟨v1, e1, e2⟩ := h.row r R hr
    rw [hv] at e1; cases e1
    exact e2.own hf
  have hatlt : ∀ b ver loc, C.at_ b ver = some loc → loc.blk < w.heap.size := fun b ver loc hl => by
    obtain ⟨B, hB⟩ := h.mem.known b ver loc hl
    exact ((h.mem.blk b B hB).2.ver ver loc hl).2
  have hat : ∀ b ver loc, C.at_ b ver = some loc → some loc.blk ≠ v.ownBlock := fun b ver loc hl e => h.rowat r R v hr hf hv b ver loc hl e.symm
  have hfit : Fits C.unk.imm w' := fun a u ha => hg.cell (h.fits a u ha) (fun e => by rw [hown0.away a.block e.symm a rfl] at ha; cases ha)
  have old : ∀ j Q, rowGet (rowSet r R' M.rows) j = some Q → ∃ Q0, rowGet M.rows j = some Q0 ∧ ((j = r ∧ Q = R' ∧ Q0 = R) ∨ (j ≠ r ∧ Q = Q0)) := fun j Q hj => by
    rcases rowGet_set hj with ⟨rfl, rfl, R0, h0⟩ | ⟨hn, h0⟩
    · rw [hr] at h0; cases h0; exact ⟨R, hr, .inl ⟨rfl, rfl, rfl⟩⟩
    · exact ⟨Q, h0, .inr ⟨hn, rfl⟩⟩
  refine ⟨fun _ _ _ h => h, .refl _, ⟨h.mem.smono (.refl C) rfl (fun b ver loc hl => hg.block _ (hatlt b ver loc hl) (hat b ver loc hl)) hg.size, h.pc, hfit, fun j Q hj => ?_, fun j u hu => ?_, fun j Q j' Q' u u' hn h1 h2 hf1 hf2 h3 h4 => ?_, h.imms, fun j Q u hj hfq hu b ver loc hl e => ?_, h.fzs, fun b s hm => let ⟨loc, h1, h2⟩ := h.fzi b s hm; ⟨loc, h1, fun a u ha hc => h2 a u ha (by rw [← hc]; exact (cell_of_heap (by rw [ha]; exact hg.block _ (hatlt b 0 loc h1) (hat b 0 loc h1))).symm)⟩⟩, ⟨hg.os, hg.tape, hg.output, hg.size, fun k hk => hg.block k (Nat.lt_of_lt_of_le hk h.mem.base) (fun e => by have := (hown0.lt k e.symm).1; omega)⟩, fun b B hB => ⟨B, hB, Nat.le_refl _, fun _ ver loc hl => hg.block _ (hatlt b ver loc hl) (hat b ver loc hl)⟩, fun k hk hn => ⟨hg.block k hk (fun e => hn.2 r v hv e.symm), hn, fun _ _ => rfl⟩, Nat.le_refl _⟩
  · obtain ⟨Q0, h0, ⟨rfl, rfl, rfl⟩ | ⟨hn, rfl⟩⟩ := old j Q hj
    · exact ⟨v, hv, hown⟩
    · obtain ⟨u, h1, h2⟩ := h.row j Q h0
      refine ⟨u, h1, fun hfq => Own.keepBlk (h2.own hfq) (fun g hgu => hg.block g ((h.lt j u h1).2 g hgu) (fun e => h.apart j Q r R u v hn h0 hr hfq hf h1 hv g hgu e.symm)), h2.rep, h2.cl⟩
  · obtain ⟨h1, h2⟩ := h.lt j u hu
    exact ⟨h1, fun g hgu => Nat.lt_of_lt_of_le (h2 g hgu) hg.size⟩
  · obtain ⟨Q0, h0, e0⟩ := old j Q h1
    obtain ⟨Q1, h5, e1⟩ := old j' Q' h2
    refine h.apart j Q0 j' Q1 u u' hn h0 h5 ?_ ?_ h3 h4
    · rcases e0 with ⟨_, _, rfl⟩ | ⟨_, rfl⟩
      · exact hf
      · exact hf1
    · rcases e1 with ⟨_, _, rfl⟩ | ⟨_, rfl⟩
      · exact hf
      · exact hf2
  · obtain ⟨Q0, h0, e0⟩ := old j Q hj
    refine h.rowat j Q0 u h0 ?_ hu b ver loc hl e
    rcases e0 with ⟨_, _, rfl⟩ | ⟨_, rfl⟩
    · exact hf
    · exact hfq
theorem SMem.shut (h : SMem C M base w) {r : Nat} {R : Row} {v : Value} (hr : rowGet M.rows r = some R) (hf : R.fr = false) (hv : C.unk.row r = some v) :
    SStep C ⟨C.at_, ⟨addI C.unk.imm w v, C.unk.row⟩⟩ M { M with rows := rowSet r { R with fr := true } M.rows } base w w := by
  have hown0 : Own base C.unk.imm w R.T R.t.cells R.t.dd R.xs v := by
    obtain ⟨v1, e1, e2⟩ := h.row r R hr
    rw [hv] at e1; cases e1
    exact e2.own hf
  have hcl : ∀ n, R.cl = some n → R.xs.length = n := by
    obtain ⟨v1, e1, e2⟩ := h.row r R hr
    exact e2.cl
  have hgrow := hown0.addGrow
  have hE : SExt C ⟨C.at_, ⟨addI C.unk.imm w v, C.unk.row⟩⟩ := ⟨fun _ _ _ h => h, ⟨hgrow.ext, fun _ _ h => h⟩⟩
  have hoff : ∀ a : Addr, (∀ g, v.ownBlock = some g → a.block ≠ g) → addI C.unk.imm w v a = C.unk.imm a := fun a ha => by
    unfold addI
    split
    · rename_i g hg; rw [if_neg (ha g hg)]
    · rfl
  refine ⟨hE.at_, hE.sx, ⟨h.mem.smono hE rfl (fun _ _ _ _ => rfl) (Nat.le_refl _), h.pc, Own.addFits h.fits, fun j Q hj => ?_, h.lt, fun j Q j' Q' u u' hn h1 h2 hf1 hf2 h3 h4 => ?_, fun b hb ver loc hl a ha => ?_, fun j Q u hj hfq hu b ver loc hl e => ?_, h.fzs, fun b s hm => let ⟨loc, h1, h2⟩ := h.fzi b s hm; ⟨loc, h1, fun a u ha hc => (hoff a (fun g hg e => h.rowat r R v hr hf hv b 0 loc h1 (by rw [hg, ← e, ha]))).trans (h2 a u ha hc)⟩⟩, Below.refl _ _, fun b B hB => ⟨B, hB, Nat.le_refl _, fun _ _ _ _ => rfl⟩, fun k hk hn => ⟨rfl, hn, fun a ha => hoff a (fun g hg e => hn.2 r v hv (by rw [hg, ← e, ha]))⟩, Nat.le_refl _⟩
  · rcases rowGet_set hj with ⟨rfl, rfl, _⟩ | ⟨hn, h0⟩
    · exact ⟨v, hv, (fun e => by cases e), fun _ => hown0.rep, hcl⟩
    · obtain ⟨u, h1, h2⟩ := h.row j Q h0
      refine ⟨u, h1, fun hfq => ?_, fun hfq => (h2.rep hfq).mono hgrow.ext, h2.cl⟩
      have hq := h2.own hfq
      refine Own.mk ?_ (fun g hg a ha => ?_)
      · obtain ⟨xs, h3, h4⟩ := hq.row
        exact ⟨xs, h3, h4.mono hgrow.ext⟩
      · show addI C.unk.imm w v a = none
        rw [hoff a (fun g' hg' e => h.apart j Q r R u v hn h0 hr hfq hf h1 hv g hg (by rw [hg', ← e, ha]))]
        exact hq.away g hg a ha
  · have hne : ∀ j Q, rowGet (rowSet r { R with fr := true } M.rows) j = some Q → Q.fr = false → rowGet M.rows j = some Q := fun j Q hj hq => by
      rcases rowGet_set hj with ⟨rfl, rfl, _⟩ | ⟨_, h0⟩
      · cases hq
      · exact h0
    exact h.apart j Q j' Q' u u' hn (hne _ _ h1 hf1) (hne _ _ h2 hf2) hf1 hf2 h3 h4
  · show addI C.unk.imm w v a = none
    rw [hoff a (fun g hg e => h.rowat r R v hr hf hv b ver loc hl (by rw [hg, ← e, ha]))]
    exact h.imms b hb ver loc hl a ha
  · rcases rowGet_set hj with ⟨rfl, rfl, _⟩ | ⟨_, h0⟩
    · cases hfq
    · exact h.rowat j Q u h0 hfq hu b ver loc hl e
theorem SMem.frz (h : SMem C M base w) {b : Nat} {B : Blk} {loc : Loc} (hB : M.H.get b = some B) (hl : C.at_ b 0 = some loc) (hnf : ∀ s, (b, s) ∉ M.fz) :
    SStep C ⟨C.at_, ⟨fun a => if a.block = loc.blk then w.cell? a else C.unk.imm a, C.unk.row⟩⟩ M { M with fz := (b, B.stamp) :: M.fz } base w w := by
  have hoff : ∀ a : Addr, a.block ≠ loc.blk → (if a.block = loc.blk then w.cell? a else C.unk.imm a) = C.unk.imm a := fun a ha => if_neg ha
  have hext : XW.Ext C.unk.imm (fun a => if a.block = loc.blk then w.cell? a else C.unk.imm a) := fun a v ha => by
    by_cases e : a.block = loc.blk
    · rw [h.imms b hnf 0 loc hl a e] at ha; cases ha
    · show (if a.block = loc.blk then w.cell? a else C.unk.imm a) = some v
      rw [if_neg e]; exact ha
  have hE : SExt C ⟨C.at_, ⟨fun a => if a.block = loc.blk then w.cell? a else C.unk.imm a, C.unk.row⟩⟩ := ⟨fun _ _ _ h => h, ⟨hext, fun _ _ h => h⟩⟩
  refine ⟨hE.at_, hE.sx, ⟨h.mem.smono hE rfl (fun _ _ _ _ => rfl) (Nat.le_refl _), h.pc, fun a u ha => ?_, fun j Q hj => ?_, h.lt, h.apart, fun b' hb' ver l' hl' a ha => ?_, h.rowat, fun b' s hm => ?_, fun b' s hm => ?_⟩, Below.refl _ _, fun b B hB => ⟨B, hB, Nat.le_refl _, fun _ _ _ _ => rfl⟩, fun k hk hn => ⟨rfl, hn, fun a ha => hoff a (fun e => hn.1 b 0 loc hl (by rw [← e, ha]))⟩, Nat.le_refl _⟩
  · have ha : (if a.block = loc.blk then w.cell? a else C.unk.imm a) = some u := ha
    split at ha
    · exact ha
    · exact h.fits a u ha
  · obtain ⟨v, h1, h2⟩ := h.row j Q hj
    refine ⟨v, h1, fun hf => ?_, fun hf => (h2.rep hf).mono hext, h2.cl⟩
    obtain ⟨⟨xs, h3, h4⟩, h5⟩ := h2.own hf
    exact ⟨⟨xs, h3, h4.mono hext⟩, fun g hg a ha => (hoff a (fun e => h.rowat j Q v hj hf h1 b 0 loc hl (by rw [hg, ← e, ha]))).trans (h5 g hg a ha)⟩
  · have hne : b' ≠ b := fun e => hb' B.stamp (by rw [e]; exact List.mem_cons_self)
    have hbk := h.mem.sep b' ver l' b 0 loc hl' hl hne
    exact (hoff a (by rw [ha]; exact hbk)).trans (h.imms b' (fun s hs => hb' s (List.mem_cons_of_mem _ hs)) ver l' hl' a ha)
  · rcases List.mem_cons.1 hm with e | hm
    · cases e; exact ⟨B, hB, rfl⟩
    · exact h.fzs b' s hm
  · rcases List.mem_cons.1 hm with e | hm
    · cases e
      exact ⟨loc, hl, fun a u ha hc => by
        show (if a.block = loc.blk then w.cell? a else C.unk.imm a) = some u
        rw [if_pos ha]; exact hc⟩
    · obtain ⟨l', h1, h2⟩ := h.fzi b' s hm
      refine ⟨l', h1, fun a u ha hc => ?_⟩
      have hne : b' ≠ b := fun e => hnf s (by rw [← e]; exact hm)
      have hbk := h.mem.sep b' 0 l' b 0 loc h1 hl hne
      exact (hoff a (by rw [ha]; exact hbk)).trans (h2 a u ha hc)
end
end Go.EV
