/- Texts that the proof of a law rests on, put together: part 36. -/
import Derived.Test.YtajnboigikdefaaDoorFg35
namespace Go.EV
open Go Go.RowKit
open Go.XW (Imm Fits DD RepV SL LeafOk leafB Own Apart addI All2)
set_option linter.unusedVariables false
set_option linter.unusedSimpArgs false
inductive Sh where
  | s (a : Sh0)
  /-- a pointer to a box; what is in it -/
  | box (T : TypeId) (l : List Sh0)
  /-- a struct; what its fields are -/
  | st (l : List Sh0)
  /-- the row of that number once more -/
  | al (j : Nat)
  /-- the pointer to the box of that number once more -/
  | alb (j : Nat)
  /-- a closure that has captured a box that may be written, then boxes that are only read -/
  | clb (f : FuncId) (T : TypeId) (l : List Sh0) (ts : List Ty)
@[match_pattern, reducible] def Sh.v (t : Ty) : Sh := .s (.v t)
@[match_pattern, reducible] def Sh.p (t : Ty) : Sh := .s (.p t)
@[match_pattern, reducible] def Sh.clo (f : FuncId) (l : List Ty) : Sh := .s (.clo f l)
@[match_pattern, reducible] def Sh.row (t : Ty) (T : TypeId) : Sh := .s (.row t T)
@[match_pattern, reducible] def Sh.un : Sh := .s .un
@[match_pattern, reducible] def Sh.np : Sh := .s .np
@[reducible] def Sh.den : Sh → Type
  | .s a => a.den
  | .box _ l => dens0 l
  | .st l => dens0 l
  | .al _ => Unit
  | .alb _ => Unit
  | .clb _ _ l ts => dens0 l × denL ts
@[reducible] def dens : List Sh → Type
  | [] => Unit
  | [s] => s.den
  | s :: u :: r => s.den × dens (u :: r)
def hdB : List Nat → Nat
  | b :: _ => b
  | [] => 0
def nthN : List Nat → Nat → Option Nat
  | [], _ => none
  | a :: _, 0 => some a
  | _ :: r, n + 1 => nthN r n
theorem nthN_eq : ∀ (l : List Nat) (n : Nat), nthN l n = l[n]?
  | [], n => by simp [nthN]
  | a :: r, 0 => rfl
  | a :: r, n + 1 => by simp [nthN, nthN_eq r n]
def ptrO : Option Nat → AV
  | some b => .ptr b 0 0
  | none => .hole
def nxs (k : Nat) : List Sh0 → Nat
  | [] => k
  | s :: r => nxs (s.nx k) r
def Sh.av (k0 : Nat) (bs0 : List Nat) (k b : Nat) : (s : Sh) → s.den → AV
  | .s a, x => a.av k x
  | .box _ _, _ => .ptr b 0 0
  | .st l, x => .agg (avs0 k l x)
  | .al j, _ => .sym (.rs (k0 + j))
  | .alb j, _ => ptrO (nthN bs0 j)
  | .clb f _ _ ts, x => .clo (.func f) [] (.ptr b 0 0 :: dpsL ts x.2)
def Sh.rw : (s : Sh) → s.den → List Row
  | .s a, x => a.rw x
  | .box _ l, x => rws0 l x
  | .st l, x => rws0 l x
  | .al _, _ => []
  | .alb _, _ => []
  | .clb _ _ l _, x => rws0 l x.1
def Sh.nx (k : Nat) : Sh → Nat
  | .s a => a.nx k
  | .box _ l => nxs k l
  | .st l => nxs k l
  | .al _ => k
  | .alb _ => k
  | .clb _ _ l _ => nxs k l
def Sh.nbs (bs : List Nat) : Sh → List Nat
  | .box _ _ => bs.tail
  | .clb _ _ _ _ => bs.tail
  | _ => bs
def Sh.bx (k : Nat) : (s : Sh) → s.den → List Blk
  | .box T l, x => [boxB T (avs0 k l x)]
  | .clb _ T l _, x => [boxB T (avs0 k l x.1)]
  | _, _ => []
def Sh.bt : Sh → List TypeId
  | .box T _ => [T]
  | .clb _ T _ _ => [T]
  | _ => []
def avsG (k0 : Nat) (bs0 : List Nat) : Nat → List Nat → (l : List Sh) → dens l → List AV
  | _, _, [], _ => []
  | k, bs, [s], x => [s.av k0 bs0 k (hdB bs) x]
  | k, bs, s :: u :: r, x => s.av k0 bs0 k (hdB bs) x.1 :: avsG k0 bs0 (s.nx k) (s.nbs bs) (u :: r) x.2
def avs (k : Nat) (bs : List Nat) (l : List Sh) (x : dens l) : List AV := avsG k bs k bs l x
def rws : (l : List Sh) → dens l → List Row
  | [], _ => []
  | [s], x => s.rw x
  | s :: u :: r, x => s.rw x.1 ++ rws (u :: r) x.2
def bxs : Nat → (l : List Sh) → dens l → List Blk
  | _, [], _ => []
  | k, [s], x => s.bx k x
  | k, s :: u :: r, x => s.bx k x.1 ++ bxs (s.nx k) (u :: r) x.2
def bts : List Sh → List TypeId
  | [] => []
  | s :: r => s.bt ++ bts r
noncomputable def boxOf (M : SH) (d : AV) : Option (Nat × Blk) := match d with
  | .ptr b 0 0 => match small b, inFz b M.fz, M.H.get b with
    | true, false, some B => match B.ro, Nat.beq B.fz 0, Nat.beq B.next 1, verN B.vers 0 with
      | false, true, true, some n => match Nat.beq n B.cells.length with
        | true => some (b, B)
        | false => none
      | _, _, _, _ => none
    | _, _, _ => none
  | _ => none
noncomputable def cboxOf (M : SH) (d : AV) : Option (Nat × Blk) := match d with
  | .clo _ _ (p :: _) => boxOf M p
  | _ => none
noncomputable def tellA (M : SH) (s : Sh) (d : AV) : SH := match s with
  | .s a => tellA0 M a d
  | .box _ l => match boxOf M d with
    | some (_, B) => tellL0 M l B.cells
    | none => M
  | .st l => match d with
    | .agg cs => tellL0 M l cs
    | _ => M
  | .clb _ _ l _ => match d with
    | .clo _ _ (p :: caps) => match boxOf M p with
      | some (_, B) => tellL0 (frzL (shutBs M caps) caps) l B.cells
      | none => M
    | _ => M
  | _ => M
noncomputable def tellL (M : SH) : List Sh → List AV → SH
  | s :: r, d :: q => tellL (tellA M s d) r q
  | _, _ => M
noncomputable def nilB (M : SH) (s : Sh) (d : AV) : SH × AV := match s with
  | .s a => match nilL0 M [a] [d] with
    | (M', [d']) => (M', d')
    | _ => (M, d)
  | .box _ l => match boxOf M d with
    | some (b, B) => match Nat.beq l.length B.cells.length with
      | true => ({ (nilL0 M l B.cells).1 with H := (nilL0 M l B.cells).1.H.set b { B with cells := (nilL0 M l B.cells).2 } }, d)
      | false => (M, d)
    | none => (M, d)
  | .st l => match d with
    | .agg cs => match Nat.beq l.length cs.length with
      | true => ((nilL0 M l cs).1, .agg (nilL0 M l cs).2)
      | false => (M, d)
    | _ => (M, d)
  | _ => (M, d)
noncomputable def nilL (M : SH) : List Sh → List AV → SH × List AV
  | s :: r, d :: q => ((nilL (nilB M s d).1 r q).1, (nilB M s d).2 :: (nilL (nilB M s d).1 r q).2)
  | _, _ => (M, [])
noncomputable def dec (M : SH) : (s : Sh) → AV → Option s.den
  | .s a, d => dec0 M a d
  | .box T l, d => match boxOf M d with
    | some (_, B) => match Nat.beq B.elem T with
      | true => decs0 M l B.cells
      | false => none
    | none => none
  | .st l, d => match d with
    | .agg cs => decs0 M l cs
    | _ => none
  | .al _, d => match d with
    | .sym (.rs _) => some ()
    | _ => none
  | .alb _, d => match d with
    | .ptr _ 0 0 => some ()
    | _ => none
  | .clb f T l ts, d => match d with
    | .clo (.func f') [] (p :: caps) => match Nat.beq f' f, boxOf M p with
      | true, some (_, B) => match Nat.beq B.elem T, decs0 M l B.cells, decPs M ts caps with
        | true, some x, some y => some (x, y)
        | _, _, _ => none
      | _, _ => none
    | _ => none
noncomputable def decs (M : SH) : (l : List Sh) → List AV → Option (dens l)
  | [], [] => some ()
  | [s], [d] => dec M s d
  | s :: u :: r, d :: q => match dec M s d, decs M (u :: r) q with
    | some x, some y => some (x, y)
    | _, _ => none
  | _, _ => none
noncomputable def idsA (M : SH) (s : Sh) (d : AV) : List Nat := match s with
  | .s a => idsL0 [a] [d]
  | .box _ l => match boxOf M d with
    | some (_, B) => idsL0 l B.cells
    | none => []
  | .st l => match d with
    | .agg cs => idsL0 l cs
    | _ => []
  | .clb _ _ l _ => match cboxOf M d with
    | some (_, B) => idsL0 l B.cells
    | none => []
  | _ => []
noncomputable def idsL (M : SH) : List Sh → List AV → List Nat
  | s :: r, d :: q => idsA M s d ++ idsL M r q
  | _, _ => []
noncomputable def bidsA (M : SH) (s : Sh) (d : AV) : List Nat := match s with
  | .box _ _ => match boxOf M d with
    | some (b, _) => [b]
    | none => []
  | .clb _ _ _ _ => match cboxOf M d with
    | some (b, _) => [b]
    | none => []
  | _ => []
def alsA (ids bids : List Nat) (s : Sh) (d : AV) : Bool := match s with
  | .al j => match d, nthN ids j with
    | .sym (.rs r), some r' => Nat.beq r' r
    | _, _ => false
  | .alb j => match d, nthN bids j with
    | .ptr b 0 0, some b' => Nat.beq b' b
    | _, _ => false
  | _ => true
def alsL (ids bids : List Nat) : List Sh → List AV → Bool
  | s :: r, d :: q => alsA ids bids s d && alsL ids bids r q
  | _, _ => true
noncomputable def bidsL (M : SH) : List Sh → List AV → List Nat
  | s :: r, d :: q => bidsA M s d ++ bidsL M r q
  | _, _ => []
theorem boxOf_spec {M : SH} {d : AV} {b : Nat} {B : Blk} (h : boxOf M d = some (b, B)) : d = .ptr b 0 0 ∧ M.H.get b = some B ∧ b < 2 ^ 40 - 1 ∧ (∀ s, (b, s) ∉ M.fz) ∧ B.ro = false ∧ B.fz = 0 ∧ B.next = 1 ∧ (0, B.cells.length) ∈ B.vers := by
  unfold boxOf at h
  split at h
  · rename_i b'
    split at h
    · rename_i B' h1 h2 h3
      split at h
      · rename_i n g1 g2 g3 g4
        split at h
        · rename_i g5
          cases h
          have e := Nat.eq_of_beq_eq_true g5
          subst e
          exact ⟨rfl, h3, small_lt h1, inFz_no h2, g1, Nat.eq_of_beq_eq_true g2, Nat.eq_of_beq_eq_true g3, verN_mem g4⟩
        · cases h
      · cases h
    · cases h
  · cases h
section
variable {C : Cx} {M : SH} {base : Nat} {w : World}
theorem tellA_spec (h : SMem C M base w) (s : Sh) (d : AV) : Told C M (tellA M s d) base w := by
  cases s with
  | s a => exact tellA0_spec h a d
  | box T l =>
    simp only [tellA]
    split
    · exact tellL0_spec l _ h
    · exact .refl h
  | st l =>
    simp only [tellA]
    split
    · exact tellL0_spec l _ h
    · exact .refl h
  | al j => exact .refl h
  | alb j => exact .refl h
  | clb f T l ts =>
    simp only [tellA]
    split
    · rename_i caps
      split
      · obtain ⟨C1, h1⟩ := shutBs_spec caps h
        obtain ⟨C2, h2⟩ := frzL_spec caps h1.mem
        obtain ⟨C3, h3⟩ := tellL0_spec l _ h2.mem
        exact ⟨C3, (h1.trans h2).trans h3⟩
      · exact .refl h
    · exact .refl h
theorem tellL_spec : ∀ (l : List Sh) (ds : List AV) {C : Cx} {M : SH}, SMem C M base w → Told C M (tellL M l ds) base w
  | [], ds, C, M, h => .refl h
  | s :: r, [], C, M, h => .refl h
  | s :: r, d :: q, C, M, h => by
    obtain ⟨C1, h1⟩ := tellA_spec h s d
    obtain ⟨C2, h2⟩ := tellL_spec r q h1.mem
    exact ⟨C2, h1.trans h2⟩
theorem SMem.recell (h : SMem C M base w) {b : Nat} {B : Blk} {cs : List AV} (hB : M.H.get b = some B) (hb : b < 2 ^ 40 - 1) (hc : ∀ (i : Nat) d u, B.cells[i]? = some d → Den C d u → ∃ d', cs[i]? = some d' ∧ Den C d' u) : SStep C C M { M with H := M.H.set b { B with cells := cs } } base w w := by
  have hget : ∀ j, j ≠ b → (M.H.set b { B with cells := cs }).get j = M.H.get j := fun j hj => Heap.get_set_ne _ _ _ _ hj
  have hsame : (M.H.set b { B with cells := cs }).get b = some { B with cells := cs } := Heap.get_set_same _ _ _ hb
  have hmem : Mem C (M.H.set b { B with cells := cs }) base w := by
    refine ⟨fun j X hX => ?_, fun j v loc hl => ?_, h.mem.sep, h.mem.base⟩
    · by_cases e : j = b
      · subst e
        rw [hsame] at hX; cases hX
        obtain ⟨hlt, k1, k2, k3, k4, k5, k6, k7, k8⟩ := h.mem.blk j B hB
        refine ⟨hlt, k1, k2, k3, fun v n loc hv hl i h1 h2 => ?_, k5, k6, k7, k8⟩
        obtain ⟨d, u, g1, g2, g3⟩ := k4 v n loc hv hl i h1 h2
        obtain ⟨d', g4, g5⟩ := hc i d u g1 g3
        exact ⟨d', u, g4, g2, g5⟩
      · rw [hget j e] at hX
        exact h.mem.blk j X hX
    · obtain ⟨X, hX⟩ := h.mem.known j v loc hl
      by_cases e : j = b
      · subst e; exact ⟨_, hsame⟩
      · exact ⟨X, by rw [hget j e]; exact hX⟩
  have hfz : ∀ j s, (j, s) ∈ M.fz → ∃ X, (M.H.set b { B with cells := cs }).get j = some X ∧ X.stamp = s := fun j s hm => by
    obtain ⟨X, h1, h2⟩ := h.fzs j s hm
    by_cases e : j = b
    · subst e
      rw [hB] at h1; cases h1
      exact ⟨_, hsame, h2⟩
    · exact ⟨X, by rw [hget j e]; exact h1, h2⟩
  refine ⟨fun _ _ _ h => h, .refl _, ⟨hmem, h.pc, h.fits, h.row, h.lt, h.apart, h.imms, h.rowat, hfz, h.fzi⟩, Below.refl _ _, fun j X hX => ?_, fun k _ hn => ⟨rfl, hn, fun _ _ => rfl⟩, Nat.le_refl _⟩
  by_cases e : j = b
  · subst e
    rw [hB] at hX; cases hX
    exact ⟨_, hsame, Nat.le_refl _, fun _ _ _ _ => rfl⟩
  · exact ⟨X, by show (M.H.set b _).get j = _; rw [hget j e]; exact hX, Nat.le_refl _, fun _ _ _ _ => rfl⟩
theorem nilL0_len : ∀ (l : List Sh0) (ds : List AV) (M : SH), l.length = ds.length → (nilL0 M l ds).2.length = ds.length
  | [], [], M, _ => rfl
  | [], _ :: _, M, h => by simp at h
  | _ :: _, [], M, h => by simp at h
  | s :: r, d :: q, M, h => by
    simp only [nilL0]
    split
    · simp only [List.length_cons]
      rw [nilL0_len r q _ (by simpa using h)]
    · simp only [List.length_cons]
      rw [nilL0_len r q _ (by simpa using h)]
theorem nilL0_H : ∀ (l : List Sh0) (ds : List AV) (M : SH), (nilL0 M l ds).1.H = M.H
  | [], [], M => rfl
  | [], _ :: _, M => rfl
  | _ :: _, [], M => rfl
  | s :: r, d :: q, M => by
    simp only [nilL0]
    split
    · exact (nilL0_H r q _).trans rfl
    · exact nilL0_H r q _
theorem nilL0_one : ∀ (l : List Sh0) (ds : List AV) {C : Cx} {M : SH}, SMem C M base w → l.length = ds.length → ∃ C', SStep C C' M (nilL0 M l ds).1 base w w ∧ ∀ (i : Nat) d u, ds[i]? = some d → Den C d u → ∃ d', (nilL0 M l ds).2[i]? = some d' ∧ Den C' d' u
  | [], [], C, M, h, _ => ⟨C, SStep.refl h, fun i d u hd => by simp at hd⟩
  | [], _ :: _, C, M, h, hl => by simp at hl
  | _ :: _, [], C, M, h, hl => by simp at hl
  | s :: r, d :: q, C, M, h, hl => by
    simp only [nilL0]
    split
    · rename_i t T hn
      have e : ∀ C u, Den C d u → u = .slice none 0 0 := fun C u h1 => by
        unfold isNilA at hn
        split at hn
        · cases h1; rfl
        · cases hn
      obtain ⟨C1, hS1, hD1⟩ := newRow_of (t := t) (T := T) (xs := []) (cl := none) h (Own.nil base C.unk.imm w T t.cells t.dd) (fun n hn => by cases hn) ⟨rfl, rfl, rfl, Nat.le_refl _, fun _ _ _ => rfl⟩ (fun g hg => by simp [Value.ownBlock] at hg)
      obtain ⟨C2, hS2, hD2⟩ := nilL0_one r q hS1.mem (by simpa using hl)
      refine ⟨C2, hS1.trans hS2, fun i d' u hd hu => ?_⟩
      cases i with
      | zero =>
        simp at hd; subst hd
        rw [e _ u hu]
        exact ⟨_, rfl, hD1.smono hS2.ext⟩
      | succ i => exact hD2 i d' u (by simpa using hd) (hu.smono hS1.ext)
    · obtain ⟨C2, hS2, hD2⟩ := nilL0_one r q h (by simpa using hl)
      refine ⟨C2, hS2, fun i d' u hd hu => ?_⟩
      cases i with
      | zero =>
        simp at hd; subst hd
        exact ⟨_, rfl, hu.smono hS2.ext⟩
      | succ i => exact hD2 i d' u (by simpa using hd) hu
theorem nilB_spec (h : SMem C M base w) (s : Sh) (d : AV) : ∃ C', SStep C C' M (nilB M s d).1 base w w ∧ ∀ u, Den C d u → Den C' (nilB M s d).2 u := by
  cases s with
  | s a =>
    obtain ⟨C1, h1, h2⟩ := nilL0_one [a] [d] h rfl
    simp only [nilB]
    split
    · rename_i M' d' he
      rw [he] at h1 h2
      exact ⟨C1, h1, fun u hu => by
        obtain ⟨d2, g1, g2⟩ := h2 0 d u rfl hu
        simp at g1; subst g1; exact g2⟩
    · exact ⟨C, SStep.refl h, fun u hu => hu⟩
  | box T l =>
    simp only [nilB]
    split
    · rename_i b B hbx
      obtain ⟨rfl, hB, hlt, hfz, _⟩ := boxOf_spec hbx
      split
      · rename_i hl
        obtain ⟨C1, h1, h2⟩ := nilL0_one l B.cells h (Nat.eq_of_beq_eq_true hl)
        have hB1 : (nilL0 M l B.cells).1.H.get b = some B := by rw [nilL0_H]; exact hB
        -- the cells' words in the new book say what the cells in the old one did
        have hcell : ∀ (i : Nat) d, B.cells[i]? = some d → ∃ d', (nilL0 M l B.cells).2[i]? = some d' ∧ (d' = d ∨ (isNilA d = true ∧ ∀ u, u = .slice none 0 0 → Den C1 d' u)) := fun i d hd => by
          have hlen := nilL0_len l B.cells M (Nat.eq_of_beq_eq_true hl)
          have hi := (List.getElem?_eq_some_iff.1 hd).1
          have key : ∀ (l : List Sh0) (ds : List AV) (M : SH) (i : Nat) d d', ds[i]? = some d → (nilL0 M l ds).2[i]? = some d' → d' = d ∨ isNilA d = true := by
            intro l
            induction l with
            | nil => intro ds M i d d' h1 h2; simp [nilL0] at h2
            | cons s r ih =>
              intro ds M i d d' h1 h2
              cases ds with
              | nil => simp at h1
              | cons e q =>
                simp only [nilL0] at h2
                split at h2
                · rename_i hn
                  cases i with
                  | zero => simp at h1; subst h1; exact .inr hn
                  | succ i => exact ih q _ i d d' (by simpa using h1) (by simpa using h2)
                · cases i with
                  | zero => simp at h1 h2; exact .inl (h2.symm.trans h1)
                  | succ i => exact ih q _ i d d' (by simpa using h1) (by simpa using h2)
          refine ⟨_, List.getElem?_eq_getElem (by rw [hlen]; exact hi), ?_⟩
          rcases key l B.cells M i d _ hd (List.getElem?_eq_getElem (by rw [hlen]; exact hi)) with e | e
          · exact .inl e
          · refine .inr ⟨e, fun u hu => ?_⟩
            subst hu
            have hdn : Den C d (.slice none 0 0) := by
              unfold isNilA at e
              split at e
              · exact .lit _
              · cases e
            obtain ⟨d2, g1, g2⟩ := h2 i d _ hd hdn
            rw [List.getElem?_eq_getElem (by rw [hlen]; exact hi)] at g1
            cases g1; exact g2
        have hS := h1.mem.recell hB1 hlt (cs := (nilL0 M l B.cells).2) (fun i d u hd hu => by
          obtain ⟨d', g1, g2⟩ := hcell i d hd
          refine ⟨d', g1, ?_⟩
          rcases g2 with rfl | ⟨g2, g3⟩
          · exact hu
          · refine g3 u ?_
            unfold isNilA at g2
            split at g2
            · cases hu; rfl
            · cases g2)
        exact ⟨C1, h1.trans hS, fun u hu => hu.smono h1.ext⟩
      · exact ⟨C, SStep.refl h, fun u hu => hu⟩
    · exact ⟨C, SStep.refl h, fun u hu => hu⟩
  | st l =>
    simp only [nilB]
    split
    · rename_i cs
      split
      · rename_i hl
        obtain ⟨C1, h1, h2⟩ := nilL0_spec l cs h (Nat.eq_of_beq_eq_true hl)
        refine ⟨C1, h1, fun u hu => ?_⟩
        cases hu with
        | @agg _ vs g1 g2 =>
          have := h2 vs ⟨g1, g2⟩
          exact .agg this.1 this.2
      · exact ⟨C, SStep.refl h, fun u hu => hu⟩
    · exact ⟨C, SStep.refl h, fun u hu => hu⟩
  | al j => exact ⟨C, SStep.refl h, fun u hu => hu⟩
  | alb j => exact ⟨C, SStep.refl h, fun u hu => hu⟩
  | clb f T l ts => exact ⟨C, SStep.refl h, fun u hu => hu⟩
theorem nilL_spec : ∀ (l : List Sh) (ds : List AV) {C : Cx} {M : SH} {vs : List Value}, SMem C M base w → Dens C ds vs → l.length = ds.length → ∃ C', SStep C C' M (nilL M l ds).1 base w w ∧ Dens C' (nilL M l ds).2 vs
  | [], [], C, M, vs, h, hd, _ => ⟨C, SStep.refl h, hd⟩
  | [], _ :: _, C, M, vs, h, hd, hl => by simp at hl
  | _ :: _, [], C, M, vs, h, hd, hl => by simp at hl
  | s :: r, d :: q, C, M, vs, h, hd, hl => by
    obtain ⟨u, us, rfl, h1, h2⟩ := hd.cons_inv
    obtain ⟨C1, hS1, hD1⟩ := nilB_spec h s d
    obtain ⟨C2, hS2, hD2⟩ := nilL_spec r q hS1.mem (h2.smono hS1.ext) (by simpa using hl)
    exact ⟨C2, hS1.trans hS2, .cons ((hD1 u h1).smono hS2.ext) hD2⟩
theorem nxs_eq : ∀ (l : List Sh0) (k : Nat) (x : dens0 l), nxs k l = k + (rws0 l x).length
  | [], k, x => rfl
  | [s], k, x => s.nx_eq k x
  | s :: t :: r, k, x => by
    show nxs (s.nx k) (t :: r) = k + (s.rw x.1 ++ rws0 (t :: r) x.2).length
    rw [nxs_eq (t :: r) _ x.2, s.nx_eq k x.1, List.length_append, Nat.add_assoc]
theorem Sh.nx_eq (k : Nat) : ∀ (s : Sh) (x : s.den), s.nx k = k + (s.rw x).length
  | .s a, x => a.nx_eq k x
  | .box T l, x => nxs_eq l k x
  | .st l, x => nxs_eq l k x
  | .al _, x => rfl
  | .alb _, x => rfl
  | .clb _ _ l _, x => nxs_eq l k x.1
theorem hdB_eq (bs : List Nat) : hdB bs = bs.getD 0 0 := by cases bs <;> rfl
theorem tail_getD (bs : List Nat) (i : Nat) : bs.tail.getD i 0 = bs.getD (i + 1) 0 := by cases bs <;> simp
theorem Sh.mono {C' : Cx} (hI : XW.Ext C.unk.imm C'.unk.imm) {k0 k0' : Nat} {bs0 bs0' : List Nat} {k k' b b' : Nat} : ∀ (s : Sh) (x : s.den) {u : Value}, (∀ j v, C.unk.row (k + j) = some v → C'.unk.row (k' + j) = some v) → (∀ j v, C.unk.row (k0 + j) = some v → C'.unk.row (k0' + j) = some v) → (0 < s.bt.length → ∀ loc, C.at_ b 0 = some loc → C'.at_ b' 0 = some loc) → (bs0'.length = bs0.length ∧ ∀ (j b b' : Nat) loc, bs0[j]? = some b → bs0'[j]? = some b' → C.at_ b 0 = some loc → C'.at_ b' 0 = some loc) → Den C (s.av k0 bs0 k b x) u → Den C' (s.av k0' bs0' k' b' x) u
  | .s a, x, u, hr, _, _, _, h => a.mono hI x (fun v hl hv => hr 0 v hv) h
  | .box T l, x, u, _, _, hb, _, h => by
    cases h with
    | ptr h1 h2 => exact .ptr (hb (by simp [Sh.bt]) _ h1) h2
  | .st l, x, u, hr, _, _, _, h => by
    cases h with
    | @agg _ vs g1 g2 =>
      have := avs0_mono hI l x k k' vs (fun j v _ hv => hr j v hv) ⟨g1, g2⟩
      exact .agg this.1 this.2
  | .al j, x, u, _, hr0, _, _, h => by
    cases sym_inv h with
    | rs h1 => exact .sym (.rs (hr0 j _ h1))
  | .alb j, x, u, _, _, _, hb0, h => by
    have h : Den C (ptrO (nthN bs0 j)) u := h
    show Den C' (ptrO (nthN bs0' j)) u
    rw [nthN_eq] at h ⊢
    by_cases hj : j < bs0.length
    · have hj' : j < bs0'.length := by rw [hb0.1]; exact hj
      rw [List.getElem?_eq_getElem hj] at h
      rw [List.getElem?_eq_getElem hj']
      cases h with
      | ptr h1 h2 => exact .ptr (hb0.2 j _ _ _ (List.getElem?_eq_getElem hj) (List.getElem?_eq_getElem hj') h1) h2
    · rw [List.getElem?_eq_none (by rw [hb0.1]; omega)]
      exact .hole _
  | .clb f T l ts, x, u, _, _, hb, _, h => by
    cases h with
    | clo hl hm h1 h2 =>
      obtain ⟨p, us, rfl, g1, g2⟩ := Dens.cons_inv (C := C) (d := .ptr b 0 0) (l := dpsL ts x.2) ⟨hm, h2⟩
      have g3 := dps_mono hI ts x.2 us g2
      have g4 : Den C' (.ptr b' 0 0) p := by
        cases g1 with
        | ptr q1 q2 => exact .ptr (hb (by simp [Sh.bt]) _ q1) q2
      have := Dens.cons g4 g3
      exact .clo hl this.1 (fun i d u hd => by simp at hd) this.2
theorem avsG_mono {C' : Cx} (hI : XW.Ext C.unk.imm C'.unk.imm) {k0 k0' : Nat} {bs0 bs0' : List Nat} (hr0 : ∀ j v, C.unk.row (k0 + j) = some v → C'.unk.row (k0' + j) = some v) (hb0 : bs0'.length = bs0.length ∧ ∀ (j b b' : Nat) loc, bs0[j]? = some b → bs0'[j]? = some b' → C.at_ b 0 = some loc → C'.at_ b' 0 = some loc) : ∀ (l : List Sh) (x : dens l) (k k' : Nat) (bs bs' : List Nat) (us : List Value), (∀ j v, C.unk.row (k + j) = some v → C'.unk.row (k' + j) = some v) → (∀ i loc, i < (bts l).length → C.at_ (bs.getD i 0) 0 = some loc → C'.at_ (bs'.getD i 0) 0 = some loc) → Dens C (avsG k0 bs0 k bs l x) us → Dens C' (avsG k0' bs0' k' bs' l x) us
  | [], x, k, k', bs, bs', us, hrow, hb, h => by rw [h.nil_inv]; exact .nil _
  | [s], x, k, k', bs, bs', us, hrow, hb, h => by
    obtain ⟨u, rfl, h1⟩ := one_inv h
    refine .cons (s.mono hI x hrow hr0 (fun hl loc hc => ?_) hb0 h1) (.nil _)
    rw [hdB_eq] at hc ⊢
    exact hb 0 loc (by simp only [bts, List.append_nil]; exact hl) hc
  | s :: t :: r, x, k, k', bs, bs', us, hrow, hb, h => by
    obtain ⟨v, vs, rfl, h1, h2⟩ := Dens.cons_inv h
    have hbl : (bts (s :: t :: r)).length = s.bt.length + (bts (t :: r)).length := List.length_append
    refine .cons (s.mono hI x.1 hrow hr0 (fun hl loc hc => ?_) hb0 h1) ?_
    · rw [hdB_eq] at hc ⊢
      exact hb 0 loc (by omega) hc
    · rw [s.nx_eq k' x.1]
      refine avsG_mono hI hr0 hb0 (t :: r) x.2 (k + (s.rw x.1).length) (k' + (s.rw x.1).length) (s.nbs bs) (s.nbs bs') vs (fun j v hv => ?_) (fun i loc hi hc => ?_) (by rw [← s.nx_eq k x.1]; exact h2)
      · rw [Nat.add_assoc] at hv ⊢
        exact hrow _ v hv
      · cases s with
        | box T l =>
          simp only [Sh.nbs, tail_getD] at hc ⊢
          exact hb (i + 1) loc (by simp only [hbl, Sh.bt, List.length_cons, List.length_nil] at *; omega) hc
        | s a => exact hb i loc (by simp only [hbl, Sh.bt, List.length_nil] at *; omega) hc
        | st l => exact hb i loc (by simp only [hbl, Sh.bt, List.length_nil] at *; omega) hc
        | al j => exact hb i loc (by simp only [hbl, Sh.bt, List.length_nil] at *; omega) hc
        | alb j => exact hb i loc (by simp only [hbl, Sh.bt, List.length_nil] at *; omega) hc
        | clb f T l ts =>
          simp only [Sh.nbs, tail_getD] at hc ⊢
          exact hb (i + 1) loc (by simp only [hbl, Sh.bt, List.length_cons, List.length_nil] at *; omega) hc
theorem avs_mono {C' : Cx} (hI : XW.Ext C.unk.imm C'.unk.imm) (l : List Sh) (x : dens l) (k k' : Nat) (bs bs' : List Nat) (us : List Value) (hrow : ∀ j v, C.unk.row (k + j) = some v → C'.unk.row (k' + j) = some v) (hl : bs.length = (bts l).length) (hl' : bs'.length = (bts l).length) (hb : ∀ (j b b' : Nat) loc, bs[j]? = some b → bs'[j]? = some b' → C.at_ b 0 = some loc → C'.at_ b' 0 = some loc) (h : Dens C (avs k bs l x) us) : Dens C' (avs k' bs' l x) us :=
  avsG_mono hI hrow ⟨by rw [hl, hl'], hb⟩ l x k k' bs bs' us hrow (fun i loc hi hc => by
    have h1 : i < bs.length := by rw [hl]; exact hi
    have h2 : i < bs'.length := by rw [hl']; exact hi
    rw [List.getD_eq_getElem?_getD, List.getElem?_eq_getElem h1] at hc
    rw [List.getD_eq_getElem?_getD, List.getElem?_eq_getElem h2]
    exact hb i _ _ loc (List.getElem?_eq_getElem h1) (List.getElem?_eq_getElem h2) hc) h
theorem bt_bx (s : Sh) : (∃ T m, ∃ g : s.den → dens0 m, s.bt = [T] ∧ (∀ k x, s.bx k x = [boxB T (avs0 k m (g x))]) ) ∨ (s.bt = [] ∧ ∀ k x, s.bx k x = []) := by
  cases s with
  | box T m => exact .inl ⟨T, m, fun x => x, rfl, fun _ _ => rfl⟩
  | s a => exact .inr ⟨rfl, fun _ _ => rfl⟩
  | st l => exact .inr ⟨rfl, fun _ _ => rfl⟩
  | al j => exact .inr ⟨rfl, fun _ _ => rfl⟩
  | alb j => exact .inr ⟨rfl, fun _ _ => rfl⟩
  | clb f T m ts => exact .inl ⟨T, m, fun x => x.1, rfl, fun _ _ => rfl⟩
theorem bx_len (s : Sh) (k : Nat) (x : s.den) : (s.bx k x).length = s.bt.length := by
  rcases bt_bx s with ⟨T, m, g, h1, h2⟩ | ⟨h1, h2⟩
  · rw [h1, h2]; rfl
  · rw [h1, h2]; rfl
theorem bxs_len : ∀ (l : List Sh) (k : Nat) (x : dens l), (bxs k l x).length = (bts l).length
  | [], k, x => rfl
  | [s], k, x => by
    show (s.bx k x).length = (s.bt ++ []).length
    rw [List.append_nil]; exact bx_len s k x
  | s :: t :: r, k, x => by
    show (s.bx k x.1 ++ bxs (s.nx k) (t :: r) x.2).length = (s.bt ++ bts (t :: r)).length
    rw [List.length_append, List.length_append, bxs_len (t :: r) _ x.2, bx_len]
theorem bx_mono {C' : Cx} (hI : XW.Ext C.unk.imm C'.unk.imm) (s : Sh) (x : s.den) (k k' : Nat) (hrow : ∀ j v, C.unk.row (k + j) = some v → C'.unk.row (k' + j) = some v) (i : Nat) (T : TypeId) (h : s.bt[i]? = some T) :
    ∃ c2 c3, (s.bx k x)[i]? = some (boxB T c2) ∧ (s.bx k' x)[i]? = some (boxB T c3) ∧ c3.length = c2.length ∧ ∀ vs, Dens C c2 vs → Dens C' c3 vs := by
  rcases bt_bx s with ⟨T', m, g, h1, h2⟩ | ⟨h1, h2⟩
  · rw [h1] at h
    cases i with
    | zero =>
      simp at h
      subst h
      exact ⟨_, _, by rw [h2]; rfl, by rw [h2]; rfl, by rw [avs0_len, avs0_len], fun vs hvs => avs0_mono hI m (g x) k k' vs (fun j v _ hv => hrow j v hv) hvs⟩
    | succ i => simp at h
  · rw [h1] at h; simp at h
theorem bxs_mono {C' : Cx} (hI : XW.Ext C.unk.imm C'.unk.imm) : ∀ (l : List Sh) (x : dens l) (k k' : Nat), (∀ j v, C.unk.row (k + j) = some v → C'.unk.row (k' + j) = some v) →
    ∀ (i : Nat) T, (bts l)[i]? = some T → ∃ c2 c3, (bxs k l x)[i]? = some (boxB T c2) ∧ (bxs k' l x)[i]? = some (boxB T c3) ∧ c3.length = c2.length ∧ ∀ vs, Dens C c2 vs → Dens C' c3 vs
  | [], x, k, k', hrow, i, T, h => by simp [bts] at h
  | [s], x, k, k', hrow, i, T, h => bx_mono hI s x k k' hrow i T (by simpa [bts] using h)
  | s :: t :: r, x, k, k', hrow, i, T, h => by
    show ∃ c2 c3, (s.bx k x.1 ++ bxs (s.nx k) (t :: r) x.2)[i]? = some (boxB T c2) ∧ (s.bx k' x.1 ++ bxs (s.nx k') (t :: r) x.2)[i]? = some (boxB T c3) ∧ _
    have h : (s.bt ++ bts (t :: r))[i]? = some T := h
    by_cases hi : i < s.bt.length
    · rw [List.getElem?_append_left hi] at h
      rw [List.getElem?_append_left (by rw [bx_len]; exact hi), List.getElem?_append_left (by rw [bx_len]; exact hi)]
      exact bx_mono hI s x.1 k k' hrow i T h
    · rw [List.getElem?_append_right (by omega)] at h
      rw [List.getElem?_append_right (by rw [bx_len]; omega), List.getElem?_append_right (by rw [bx_len]; omega), bx_len, bx_len]
      rw [s.nx_eq k x.1, s.nx_eq k' x.1]
      exact bxs_mono hI (t :: r) x.2 _ _ (fun j v hv => by
        rw [Nat.add_assoc] at hv ⊢
        exact hrow _ v hv) _ T h
theorem box_cells (hM : SMem C M base w) {b : Nat} {B : Blk} (hB : M.H.get b = some B) (hv : (0, B.cells.length) ∈ B.vers) : ∃ us, Dens C B.cells us := by
  obtain ⟨loc, hl, _⟩ := (hM.mem.blk b B hB).2.dom 0 _ hv
  obtain ⟨e0, e00⟩ := (hM.mem.blk b B hB).2.at0 loc hl
  obtain ⟨us, h1, _⟩ := hM.mem.read hB hv hl (i := 0) (k := B.cells.length) (by omega) (by omega)
  rw [List.drop_zero, List.take_length] at h1
  exact ⟨us, h1⟩
theorem dec_spec (hM : SMem C M base w) : ∀ (s : Sh) (d : AV) (x : s.den) (u : Value), dec M s d = some x → Den C d u →
    (s.rw x).length = (idsA M s d).length ∧ (∀ (i r : Nat), (idsA M s d)[i]? = some r → ∃ R, rowGet M.rows r = some R ∧ R.fr = false ∧ (s.rw x)[i]? = some R.bare) ∧
    s.bt.length = (bidsA M s d).length ∧
    (∀ (i b : Nat), (bidsA M s d)[i]? = some b → ∃ B, M.H.get b = some B ∧ b < 2 ^ 40 - 1 ∧ (∀ s, (b, s) ∉ M.fz) ∧ B.ro = false ∧ B.fz = 0 ∧ B.next = 1 ∧ (0, B.cells.length) ∈ B.vers ∧ ∀ (C' : Cx) (k : Nat), XW.Ext C.unk.imm C'.unk.imm → (∀ (i r : Nat) v, (idsA M s d)[i]? = some r → C.unk.row r = some v → C'.unk.row (k + i) = some v) →
      ∃ cs, (s.bx k x)[i]? = some (boxB B.elem cs) ∧ cs.length = B.cells.length ∧ ∀ vs, Dens C B.cells vs → Dens C' cs vs) ∧
    ∀ (C' : Cx) (k0 : Nat) (bs0 : List Nat) (k b : Nat) (idsT bidsT : List Nat), XW.Ext C.unk.imm C'.unk.imm → (∀ (i r : Nat) v, (idsA M s d)[i]? = some r → C.unk.row r = some v → C'.unk.row (k + i) = some v) → (∀ c loc, (bidsA M s d)[0]? = some c → C.at_ c 0 = some loc → C'.at_ b 0 = some loc) →
      alsA idsT bidsT s d = true → (∀ (i r : Nat) v, idsT[i]? = some r → C.unk.row r = some v → C'.unk.row (k0 + i) = some v) → (∀ (i c : Nat) loc, bidsT[i]? = some c → C.at_ c 0 = some loc → ∃ b', bs0[i]? = some b' ∧ C'.at_ b' 0 = some loc) → Den C' (s.av k0 bs0 k b x) u
  | .s a, d, x, u, h, hd => by
    obtain ⟨h1, h2, h3⟩ := decs0_spec hM [a] [d] x [u] (show decs0 M [a] [d] = some x from h) (.cons hd (.nil _))
    refine ⟨h1, h2, rfl, fun i b hb => by simp [bidsA] at hb, fun C' k0 bs0 k b iT bT hI hr _ _ _ _ => ?_⟩
    obtain ⟨u', e, h4⟩ := one_inv (show Dens C' [a.av k x] [u] from h3 C' k hI hr)
    cases e; exact h4
  | .box T l, d, x, u, h, hd => by
    simp only [dec] at h
    split at h
    · rename_i b B hbx
      split at h
      · rename_i hT
        have eT := Nat.eq_of_beq_eq_true hT
        obtain ⟨rfl, hB, hlt, hfz, hro, hf0, hnx, hv⟩ := boxOf_spec hbx
        obtain ⟨us, hus⟩ := box_cells hM hB hv
        obtain ⟨h1, h2, _⟩ := decs0_spec hM l B.cells x us h hus
        have hids : idsA M (.box T l) (.ptr b 0 0) = idsL0 l B.cells := by simp only [idsA, hbx]
        have hbid : bidsA M (.box T l) (.ptr b 0 0) = [b] := by simp only [bidsA, hbx]
        rw [hids, hbid]
        refine ⟨h1, h2, rfl, fun i c hc => ?_, fun C' k0 bs0 k b' iT bT hI hr hb _ _ _ => ?_⟩
        · cases i with
          | succ i => simp at hc
          | zero =>
            simp at hc; subst hc
            refine ⟨B, hB, hlt, hfz, hro, hf0, hnx, hv, fun C' k hI hr => ⟨avs0 k l x, by rw [eT]; rfl, ?_, fun vs hvs => (decs0_spec hM l B.cells x vs h hvs).2.2 C' k hI hr⟩⟩
            rw [avs0_len, decs0_len h]
        · cases hd with
          | ptr g1 g2 => exact .ptr (hb b _ rfl g1) g2
      · cases h
    · cases h
  | .st l, d, x, u, h, hd => by
    simp only [dec] at h
    split at h
    · rename_i cs
      cases hd with
      | @agg _ vs g1 g2 =>
        obtain ⟨h1, h2, h3⟩ := decs0_spec hM l cs x vs h ⟨g1, g2⟩
        refine ⟨h1, h2, rfl, fun i b hb => by simp [bidsA] at hb, fun C' k0 bs0 k b iT bT hI hr _ _ _ _ => ?_⟩
        have := h3 C' k hI hr
        exact .agg this.1 this.2
    · cases h
  | .al j, d, x, u, h, hd => by
    simp only [dec] at h
    split at h
    · rename_i r
      refine ⟨rfl, fun i r hr => by simp [idsA] at hr, rfl, fun i b hb => by simp [bidsA] at hb, fun C' k0 bs0 k b iT bT hI _ _ ha hr _ => ?_⟩
      simp only [alsA] at ha
      split at ha
      · rename_i r0 r' e1 e2
        cases e1
        have e := Nat.eq_of_beq_eq_true ha
        subst e
        cases sym_inv hd with
        | rs h1 => exact .sym (.rs (hr j _ _ (by rw [← nthN_eq]; exact e2) h1))
      · cases ha
    · cases h
  | .alb j, d, x, u, h, hd => by
    simp only [dec] at h
    split at h
    · rename_i b0
      refine ⟨rfl, fun i r hr => by simp [idsA] at hr, rfl, fun i b hb => by simp [bidsA] at hb, fun C' k0 bs0 k b iT bT hI _ _ ha _ hb => ?_⟩
      simp only [alsA] at ha
      split at ha
      · rename_i b1 b' e1 e2
        cases e1
        have e := Nat.eq_of_beq_eq_true ha
        subst e
        cases hd with
        | ptr g1 g2 =>
          obtain ⟨b2, q1, q2⟩ := hb j _ _ (by rw [← nthN_eq]; exact e2) g1
          show Den C' (ptrO (nthN bs0 j)) _
          rw [nthN_eq, q1]
          exact .ptr q2 g2
      · cases ha
    · cases h
  | .clb f T l ts, d, x, u, h, hd => by
    simp only [dec] at h
    split at h
    · rename_i f' p caps
      split at h
      · rename_i b B hf hbx
        split at h
        · rename_i x1 y1 hT hx1 hy1
          cases h
          have ef := Nat.eq_of_beq_eq_true hf
          subst ef
          have eT := Nat.eq_of_beq_eq_true hT
          obtain ⟨rfl, hB, hlt, hfz, hro, hf0, hnx, hv⟩ := boxOf_spec hbx
          obtain ⟨us, hus⟩ := box_cells hM hB hv
          obtain ⟨h1, h2, _⟩ := decs0_spec hM l B.cells x1 us hx1 hus
          have hids : idsA M (.clb f' T l ts) (.clo (.func f') [] (.ptr b 0 0 :: caps)) = idsL0 l B.cells := by simp only [idsA, cboxOf, hbx]
          have hbid : bidsA M (.clb f' T l ts) (.clo (.func f') [] (.ptr b 0 0 :: caps)) = [b] := by simp only [bidsA, cboxOf, hbx]
          rw [hids, hbid]
          refine ⟨h1, h2, rfl, fun i c hc => ?_, fun C' k0 bs0 k b' iT bT hI hr hb _ _ _ => ?_⟩
          · cases i with
            | succ i => simp at hc
            | zero =>
              simp at hc; subst hc
              refine ⟨B, hB, hlt, hfz, hro, hf0, hnx, hv, fun C' k hI hr => ⟨avs0 k l x1, by rw [eT]; rfl, ?_, fun vs hvs => (decs0_spec hM l B.cells x1 vs hx1 hvs).2.2 C' k hI hr⟩⟩
              rw [avs0_len, decs0_len hx1]
          · cases hd with
            | clo hl hm g1 g2 =>
              obtain ⟨p, us', rfl, q1, q2⟩ := Dens.cons_inv (C := C) (d := .ptr b 0 0) (l := caps) ⟨hm, g2⟩
              have q3 := dps_mono hI ts y1 us' (decPs_spec hM ts caps y1 us' hy1 q2)
              have q4 : Den C' (.ptr b' 0 0) p := by
                cases q1 with
                | ptr p1 p2 => exact .ptr (hb b _ rfl p1) p2
              have := Dens.cons q4 q3
              exact .clo hl this.1 (fun i d u hd => by simp at hd) this.2
        · cases h
      · cases h
    · cases h
theorem decs_spec (hM : SMem C M base w) : ∀ (l : List Sh) (ds : List AV) (x : dens l) (us : List Value), decs M l ds = some x → Dens C ds us →
    (rws l x).length = (idsL M l ds).length ∧ (∀ (i r : Nat), (idsL M l ds)[i]? = some r → ∃ R, rowGet M.rows r = some R ∧ R.fr = false ∧ (rws l x)[i]? = some R.bare) ∧
    (bts l).length = (bidsL M l ds).length ∧
    (∀ (i b : Nat), (bidsL M l ds)[i]? = some b → ∃ B, M.H.get b = some B ∧ b < 2 ^ 40 - 1 ∧ (∀ s, (b, s) ∉ M.fz) ∧ B.ro = false ∧ B.fz = 0 ∧ B.next = 1 ∧ (0, B.cells.length) ∈ B.vers ∧ ∀ (C' : Cx) (k : Nat), XW.Ext C.unk.imm C'.unk.imm → (∀ (i r : Nat) v, (idsL M l ds)[i]? = some r → C.unk.row r = some v → C'.unk.row (k + i) = some v) →
      ∃ cs, (bxs k l x)[i]? = some (boxB B.elem cs) ∧ cs.length = B.cells.length ∧ ∀ vs, Dens C B.cells vs → Dens C' cs vs) ∧
    ∀ (C' : Cx) (k0 : Nat) (bs0 : List Nat) (k : Nat) (bs idsT bidsT : List Nat), XW.Ext C.unk.imm C'.unk.imm → (∀ (i r : Nat) v, (idsL M l ds)[i]? = some r → C.unk.row r = some v → C'.unk.row (k + i) = some v) → (∀ (i c : Nat) loc, (bidsL M l ds)[i]? = some c → C.at_ c 0 = some loc → C'.at_ (bs.getD i 0) 0 = some loc) →
      alsL idsT bidsT l ds = true → (∀ (i r : Nat) v, idsT[i]? = some r → C.unk.row r = some v → C'.unk.row (k0 + i) = some v) → (∀ (i c : Nat) loc, bidsT[i]? = some c → C.at_ c 0 = some loc → ∃ b', bs0[i]? = some b' ∧ C'.at_ b' 0 = some loc) → Dens C' (avsG k0 bs0 k bs l x) us := by
  intro l
  induction l with
  | nil =>
    intro ds x us h hd
    cases ds with
    | nil => rw [hd.nil_inv]; exact ⟨rfl, fun i r hr => by simp [idsL] at hr, rfl, fun i b hb => by simp [bidsL] at hb, fun C' k0 bs0 k bs iT bT _ _ _ _ _ _ => .nil _⟩
    | cons d q => simp [decs] at h
  | cons s r ih =>
    intro ds x us h hd
    cases ds with
    | nil => cases r <;> simp [decs] at h
    | cons d q =>
      obtain ⟨u, vs, rfl, h1, h2⟩ := hd.cons_inv
      cases r with
      | nil =>
        cases q with
        | cons e q => simp [decs] at h
        | nil =>
          have h : dec M s d = some x := h
          obtain ⟨k1, k2, k3, k4, k5⟩ := dec_spec hM s d x u h h1
          rw [h2.nil_inv]
          have e1 : idsL M [s] [d] = idsA M s d := by simp [idsL]
          have e2 : bidsL M [s] [d] = bidsA M s d := by simp [bidsL]
          have e3 : bts [s] = s.bt := by simp [bts]
          rw [e1, e2, e3]
          refine ⟨k1, k2, k3, k4, fun C' k0 bs0 k bs iT bT hI hrow hb ha hrT hbT => .cons (k5 C' k0 bs0 k _ iT bT hI hrow (fun c loc hc hl => ?_) (by simpa [alsL] using ha) hrT hbT) (.nil _)⟩
          rw [hdB_eq]; exact hb 0 c loc hc hl
      | cons t r =>
        simp only [decs] at h
        split at h
        · rename_i x1 x2 e1 e2
          cases h
          obtain ⟨k1, k2, k3, k4, k5⟩ := dec_spec hM s d x1 u e1 h1
          obtain ⟨g1, g2, g3, g4, g5⟩ := ih q x2 vs e2 h2
          have hrl : (rws (s :: t :: r) (x1, x2)) = s.rw x1 ++ rws (t :: r) x2 := rfl
          have hid : idsL M (s :: t :: r) (d :: q) = idsA M s d ++ idsL M (t :: r) q := rfl
          have hbd : bidsL M (s :: t :: r) (d :: q) = bidsA M s d ++ bidsL M (t :: r) q := rfl
          have hbt : bts (s :: t :: r) = s.bt ++ bts (t :: r) := rfl
          have left : ∀ {C' : Cx} {k : Nat}, (∀ (i r' : Nat) v, (idsA M s d ++ idsL M (t :: r) q)[i]? = some r' → C.unk.row r' = some v → C'.unk.row (k + i) = some v) → ∀ (i r' : Nat) v, (idsA M s d)[i]? = some r' → C.unk.row r' = some v → C'.unk.row (k + i) = some v := fun hr i r' v hi hv =>
            hr i r' v (by rw [List.getElem?_append_left (List.getElem?_eq_some_iff.1 hi).1]; exact hi) hv
          have right : ∀ {C' : Cx} {k : Nat}, (∀ (i r' : Nat) v, (idsA M s d ++ idsL M (t :: r) q)[i]? = some r' → C.unk.row r' = some v → C'.unk.row (k + i) = some v) → ∀ (i r' : Nat) v, (idsL M (t :: r) q)[i]? = some r' → C.unk.row r' = some v → C'.unk.row (s.nx k + i) = some v := fun {C' k} hr i r' v hi hv => by
            rw [s.nx_eq k x1, k1, Nat.add_assoc]
            refine hr _ r' v ?_ hv
            rw [List.getElem?_append_right (by omega), Nat.add_sub_cancel_left]; exact hi
          rw [hid, hbd, hbt]
          refine ⟨by rw [hrl, List.length_append, List.length_append, k1, g1], fun i r' hr => ?_, by rw [List.length_append, List.length_append, k3, g3], fun i b hb => ?_, fun C' k0 bs0 k bs iT bT hI hrow hb ha hrT hbT => ?_⟩
          · rw [hrl]
            by_cases hi : i < (idsA M s d).length
            · rw [List.getElem?_append_left hi] at hr
              obtain ⟨R, q1, q2, q3⟩ := k2 i r' hr
              exact ⟨R, q1, q2, by rw [List.getElem?_append_left (by omega)]; exact q3⟩
            · rw [List.getElem?_append_right (by omega)] at hr
              obtain ⟨R, q1, q2, q3⟩ := g2 _ r' hr
              exact ⟨R, q1, q2, by rw [List.getElem?_append_right (by omega), k1]; exact q3⟩
          · have hbx : ∀ k, bxs k (s :: t :: r) (x1, x2) = s.bx k x1 ++ bxs (s.nx k) (t :: r) x2 := fun k => rfl
            have hbl : ∀ k, (s.bx k x1).length = (bidsA M s d).length := fun k => by rw [← k3]; exact bx_len s k x1
            by_cases hi : i < (bidsA M s d).length
            · rw [List.getElem?_append_left hi] at hb
              obtain ⟨B, q1, q2, q3, q4, q5, q6, q7, q8⟩ := k4 i b hb
              refine ⟨B, q1, q2, q3, q4, q5, q6, q7, fun C' k hI hr => ?_⟩
              obtain ⟨cs, p1, p2⟩ := q8 C' k hI (left hr)
              exact ⟨cs, by rw [hbx, List.getElem?_append_left (by rw [hbl]; exact hi)]; exact p1, p2⟩
            · rw [List.getElem?_append_right (by omega)] at hb
              obtain ⟨B, q1, q2, q3, q4, q5, q6, q7, q8⟩ := g4 _ b hb
              refine ⟨B, q1, q2, q3, q4, q5, q6, q7, fun C' k hI hr => ?_⟩
              obtain ⟨cs, p1, p2⟩ := q8 C' (s.nx k) hI (right hr)
              exact ⟨cs, by rw [hbx, List.getElem?_append_right (by rw [hbl]; omega), hbl]; exact p1, p2⟩
          · have ha : (alsA iT bT s d && alsL iT bT (t :: r) q) = true := ha
            simp only [Bool.and_eq_true] at ha
            refine .cons (k5 C' k0 bs0 k _ iT bT hI (left hrow) (fun c loc hc hl => ?_) ha.1 hrT hbT) (g5 C' k0 bs0 (s.nx k) (s.nbs bs) iT bT hI (right hrow) (fun i c loc hc hl => ?_) ha.2 hrT hbT)
            · rw [hdB_eq]
              exact hb 0 c loc (by rw [List.getElem?_append_left (List.getElem?_eq_some_iff.1 hc).1]; exact hc) hl
            · have := hb ((bidsA M s d).length + i) c loc (by rw [List.getElem?_append_right (by omega), Nat.add_sub_cancel_left]; exact hc) hl
              rw [← k3] at this
              cases s with
              | box T m =>
                simp only [Sh.nbs, tail_getD]
                rw [show i + 1 = 1 + i by omega]
                exact this
              | s a => simpa [Sh.bt, Sh.nbs] using this
              | st a => simpa [Sh.bt, Sh.nbs] using this
              | al a => simpa [Sh.bt, Sh.nbs] using this
              | alb a => simpa [Sh.bt, Sh.nbs] using this
              | clb f T m ts =>
                simp only [Sh.nbs, tail_getD]
                rw [show i + 1 = 1 + i by omega]
                exact this
        · cases h
end
def upN : Nat → Nat → List Nat
  | _, 0 => []
  | i, n + 1 => i :: upN (i + 1) n
theorem upN_get : ∀ (n i j : Nat), (upN i n)[j]? = if j < n then some (i + j) else none
  | 0, i, j => by simp [upN]
  | n + 1, i, 0 => by simp [upN]
  | n + 1, i, j + 1 => by
    simp only [upN, List.getElem?_cons_succ]
    rw [upN_get n (i + 1) j]
    by_cases h : j < n
    · rw [if_pos h, if_pos (by omega)]; congr 1; omega
    · rw [if_neg h, if_neg (by omega)]
theorem nodN_inj {l : List Nat} (h : nodN l = true) (i j b : Nat) (hi : l[i]? = some b) (hj : l[j]? = some b) : i = j := by
  have hn := nodN_spec h
  have h1 := List.getElem?_eq_some_iff.1 hi
  have h2 := List.getElem?_eq_some_iff.1 hj
  exact (List.getElem_inj (h₀ := h1.1) (h₁ := h2.1) hn).1 (h1.2.trans h2.2.symm)
def bns (l : List Sh) : List Nat := upN 0 (bts l).length
noncomputable def absorb (M : SH) (l : List Sh) (ds : List AV) : Option (dens l × SH × List Nat × List Nat) := match Nat.beq l.length ds.length with
  | true => match decs (nilL (tellL M l ds) l ds).1 l (nilL (tellL M l ds) l ds).2 with
    | some x => match nodN (idsL (nilL (tellL M l ds) l ds).1 l (nilL (tellL M l ds) l ds).2), nodN (bidsL (nilL (tellL M l ds) l ds).1 l (nilL (tellL M l ds) l ds).2), small (bts l).length && alsL (idsL (nilL (tellL M l ds) l ds).1 l (nilL (tellL M l ds) l ds).2) (bidsL (nilL (tellL M l ds) l ds).1 l (nilL (tellL M l ds) l ds).2) l (nilL (tellL M l ds) l ds).2 with
      | true, true, true => some (x, (nilL (tellL M l ds) l ds).1, idsL (nilL (tellL M l ds) l ds).1 l (nilL (tellL M l ds) l ds).2, bidsL (nilL (tellL M l ds) l ds).1 l (nilL (tellL M l ds) l ds).2)
      | _, _, _ => none
    | none => none
  | false => none
theorem absorb_spec {C : Cx} {M M2 : SH} {base : Nat} {w : World} {l : List Sh} {ds : List AV} {x : dens l} {ids bids : List Nat} {vs : List Value} (hM : SMem C M base w) (h : absorb M l ds = some (x, M2, ids, bids)) (hd : Dens C ds vs) :
    ∃ C2, SStep C C2 M M2 base w w ∧ IdsOk M2 ids (rws l x) ∧ BidsOk C2 M2 bids (bxs 0 l x) (C2.only ids bids) ∧ bids.length = (bts l).length ∧ Dens (C2.only ids bids) (avs 0 (bns l) l x) vs := by
  unfold absorb at h
  split at h
  · rename_i hl
    split at h
    · rename_i x' hx
      split at h
      · rename_i hnd hbd hsm
        cases h
        simp only [Bool.and_eq_true] at hsm
        obtain ⟨hsm, hals⟩ := hsm
        obtain ⟨C1, hS1⟩ := tellL_spec l ds hM
        obtain ⟨C2, hS2, hD⟩ := nilL_spec l ds hS1.mem (hd.smono hS1.ext) (Nat.eq_of_beq_eq_true hl)
        obtain ⟨h1, h2, h3, h4, h5⟩ := decs_spec hS2.mem l _ x vs hx hD
        have hrow : ∀ (i r : Nat) v, (idsL (nilL (tellL M l ds) l ds).1 l (nilL (tellL M l ds) l ds).2)[i]? = some r → C2.unk.row r = some v → (C2.only (idsL (nilL (tellL M l ds) l ds).1 l (nilL (tellL M l ds) l ds).2) (bidsL (nilL (tellL M l ds) l ds).1 l (nilL (tellL M l ds) l ds).2)).unk.row (0 + i) = some v := fun i r v hr hv => by
          show (match (idsL (nilL (tellL M l ds) l ds).1 l (nilL (tellL M l ds) l ds).2)[0 + i]? with | some r => C2.unk.row r | none => none) = some v
          rw [Nat.zero_add, hr]; exact hv
        have hbox : ∀ (i c : Nat) loc, (bidsL (nilL (tellL M l ds) l ds).1 l (nilL (tellL M l ds) l ds).2)[i]? = some c → C2.at_ c 0 = some loc → (C2.only (idsL (nilL (tellL M l ds) l ds).1 l (nilL (tellL M l ds) l ds).2) (bidsL (nilL (tellL M l ds) l ds).1 l (nilL (tellL M l ds) l ds).2)).at_ ((bns l).getD i 0) 0 = some loc := fun i c loc hic hc => by
          have hlt : i < (bts l).length := by rw [h3]; exact (List.getElem?_eq_some_iff.1 hic).1
          have : (bns l).getD i 0 = i := by
            rw [List.getD_eq_getElem?_getD, bns, upN_get, if_pos hlt]; simp
          rw [this, Cx.only_to hic]; exact hc
        refine ⟨C2, hS1.trans hS2, ⟨h1, nodN_spec hnd, h2⟩, ⟨by rw [bxs_len, h3], by rw [bxs_len]; exact small_lt hsm, nodN_inj hbd, fun i b hib => ?_⟩, h3.symm, h5 _ 0 (bns l) 0 (bns l) (idsL (nilL (tellL M l ds) l ds).1 l (nilL (tellL M l ds) l ds).2) (bidsL (nilL (tellL M l ds) l ds).1 l (nilL (tellL M l ds) l ds).2) (XW.Ext.refl _) hrow hbox hals hrow (fun i c loc hic hc => ⟨i, by rw [bns, upN_get, if_pos (by rw [h3]; exact (List.getElem?_eq_some_iff.1 hic).1)]; simp, by rw [Cx.only_to hic]; exact hc⟩)⟩
        · obtain ⟨B, q1, q2, q3, q4, q5, q6, q7, q8⟩ := h4 i b hib
          obtain ⟨cs, p1, p2, p3⟩ := q8 (C2.only _ (bidsL (nilL (tellL M l ds) l ds).1 l (nilL (tellL M l ds) l ds).2)) 0 (XW.Ext.refl _) hrow
          exact ⟨B, cs, q1, q2, q3, q4, q5, q6, q7, p1, p2, p3⟩
      · cases h
    · cases h
  · cases h
end Go.EV
