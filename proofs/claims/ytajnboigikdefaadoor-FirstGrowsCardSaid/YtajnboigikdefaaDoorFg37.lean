/- Texts that the proof of a law rests on, put together: part 37. -/
import Derived.Test.YtajnboigikdefaaDoorFg36
namespace Go.EV
open Go Go.RowKit
open Go.XW (Imm Fits DD RepV SL LeafOk leafB Own Apart addI All2)
set_option linter.unusedVariables false
set_option linter.unusedSimpArgs false
def pcA (p : Prop) : Option Prop → Prop
  | none => p
  | some q => p ∧ q
theorem pcA_mk {p : Prop} {c : Option Prop} (hp : p) (hc : holds c) : pcA p c := by cases c with | none => exact hp | some q => exact ⟨hp, hc⟩
def nbx (l : List Sh) : Nat := (bts l).length
def eqTs : List TypeId → List TypeId → Bool
  | [], [] => true
  | a :: r, b :: s => Nat.beq a b && eqTs r s
  | _, _ => false
theorem eqTs_spec : ∀ {a b : List TypeId}, eqTs a b = true → a = b
  | [], [], _ => rfl
  | [], _ :: _, h => by simp [eqTs] at h
  | _ :: _, [], h => by simp [eqTs] at h
  | a :: r, b :: s, h => by
    simp only [eqTs, Bool.and_eq_true] at h
    rw [Nat.eq_of_beq_eq_true h.1, eqTs_spec h.2]
theorem upN_len : ∀ (i n : Nat), (upN i n).length = n
  | i, 0 => rfl
  | i, n + 1 => by simp [upN, upN_len (i + 1) n]
def preTs : List TypeId → List TypeId → Bool
  | [], _ => true
  | a :: r, b :: s => Nat.beq a b && preTs r s
  | _, _ => false
theorem preTs_spec : ∀ {a b : List TypeId}, preTs a b = true → ∃ r, b = a ++ r
  | [], b, _ => ⟨b, rfl⟩
  | _ :: _, [], h => by simp [preTs] at h
  | a :: r, b :: s, h => by
    simp only [preTs, Bool.and_eq_true] at h
    obtain ⟨q, e⟩ := preTs_spec h.2
    exact ⟨q, by rw [Nat.eq_of_beq_eq_true h.1, e]; rfl⟩
def bidsJ (M : SH) (bids : List Nat) (sh : List Sh) : List Nat := bids ++ upN M.H.nb (nbx sh - bids.length)
theorem rejoinX {C2 C' : Cx} {M2 : SH} {base base1 : Nat} {w w' : World} {l sh : List Sh} {x : dens l} {y : dens sh} {ids bids : List Nat} {p : Prop} (hM : SMem C2 M2 base w) (hi : IdsOk M2 ids (rws l x)) (hb : BidsOk C2 M2 bids (bxs 0 l x) (C2.only ids bids)) (hbl : bids.length = (bts l).length) (hts : preTs (bts l) (bts sh) = true) (hsm : small (nbx sh) = true) (hsn : small M2.H.nb = true) (hb1 : base ≤ base1)
    (hL : LStep (C2.only ids bids) C' (bookM (rws sh y) (bxs 0 sh y) True) base1 w w') (hp : p) :
    ∃ C3, SStep C2 C3 M2 (joinM M2 ids bids (rws sh y) (bxs M2.nr sh y) p) base w w' ∧ ∀ us, Dens C' (avs 0 (bns sh) sh y) us → Dens C3 (avs M2.nr (bidsJ M2 bids sh) sh y) us := by
  obtain ⟨more, hmore⟩ := preTs_spec hts
  have hle : (bts l).length ≤ (bts sh).length := by rw [hmore, List.length_append]; omega
  have hrow : ∀ j v, C'.unk.row (0 + j) = some v → (C2.join M2.nr M2.H.nb bids.length C').unk.row (M2.nr + j) = some v := fun j v hv => by
    show (if M2.nr + j < M2.nr then C2.unk.row (M2.nr + j) else C'.unk.row (M2.nr + j - M2.nr)) = some v
    rw [if_neg (by omega), Nat.add_sub_cancel_left]
    rwa [Nat.zero_add] at hv
  have hnb : M2.H.nb + (bxs 0 sh y).length < 2 ^ 40 - 1 := by
    rw [bxs_len]
    have h1 := Nat.le_of_ble_eq_true hsm
    have h2 := Nat.le_of_ble_eq_true hsn
    have h1 : (bts sh).length ≤ 1000000 := h1
    omega
  refine ⟨C2.join M2.nr M2.H.nb bids.length C', rejoin hM hi hb hb1 hL ⟨?_, ?_, fun i hlt => ?_⟩ hnb hp, fun us hus => avs_mono (C := C') (C' := C2.join M2.nr M2.H.nb bids.length C') (XW.Ext.refl _) sh y 0 M2.nr (bns sh) (bidsJ M2 bids sh) us hrow (by rw [bns]; exact upN_len _ _) (by rw [bidsJ, List.length_append, upN_len, nbx]; omega) (fun i b b' loc hi1 hbi hc => ?_) hus⟩
  · rw [bxs_len, bxs_len]; exact hle
  · rw [bxs_len, bxs_len]
  · rw [bxs_len] at hlt
    obtain ⟨c2, c3, g1, g2, g3, g4⟩ := bxs_mono (C := C') (C' := C2.join M2.nr M2.H.nb bids.length C') (XW.Ext.refl _) sh y 0 M2.nr hrow i (bts sh)[i] (List.getElem?_eq_getElem hlt)
    refine ⟨_, c2, c3, g1, g2, g3, g4, fun X hX => ?_⟩
    have hil : i < (bts l).length := by rw [← bxs_len l 0 x]; exact (List.getElem?_eq_some_iff.1 hX).1
    obtain ⟨c, _, h1, _⟩ := bxs_mono (C := C') (C' := C') (XW.Ext.refl _) l x 0 0 (fun j v hv => hv) i _ (List.getElem?_eq_getElem hil)
    rw [hX] at h1; cases h1
    show (bts l)[i] = (bts sh)[i]
    have : (bts sh)[i]? = some (bts l)[i] := by rw [hmore, List.getElem?_append_left hil]; exact List.getElem?_eq_getElem hil
    rw [List.getElem?_eq_getElem hlt] at this
    exact (Option.some.inj this).symm
  · rw [bns, upN_get] at hi1
    split at hi1
    · rename_i hlt
      simp at hi1
      subst hi1
      by_cases hil : i < bids.length
      · rw [bidsJ, List.getElem?_append_left hil] at hbi
        obtain ⟨B, cs, q1, _, _, _, _, _, q7, _⟩ := hb.box i _ hbi
        obtain ⟨loc0, e1, _⟩ := (hM.mem.blk _ B q1).2.dom 0 _ q7
        have := hL.at_ i 0 loc0 (by rw [Cx.only_to hbi]; exact e1)
        rw [this] at hc; cases hc
        show atJ C2 M2.H.nb bids.length C' b' 0 = some _
        unfold atJ
        rw [if_pos (hM.mem.blk _ B q1).1]; exact e1
      · rw [bidsJ, List.getElem?_append_right (by omega), upN_get] at hbi
        split at hbi
        · cases hbi
          show atJ C2 M2.H.nb bids.length C' _ 0 = some _
          unfold atJ
          rw [if_neg (by omega), show bids.length + (M2.H.nb + (i - bids.length) - M2.H.nb) = i by omega]
          exact hc
        · cases hbi
    · cases hi1
structure FO (V : Type) where
  pan : Bool
  sh : List Sh
  f : V → dens sh
  c : V → Option Prop
structure Face where
  f : FuncId
  ps : List Sh
  pre : dens ps → Option Prop
  ex : List (FO (dens ps))
def oneT : List AV → AV
  | [d] => d
  | l => .tup l
def oneV : List Value → Value
  | [v] => v
  | l => .tuple l.toArray
theorem oneT_den {C : Cx} {l : List AV} {vs : List Value} (h : Dens C l vs) : Den C (oneT l) (oneV vs) := by
  obtain ⟨hl, hh⟩ := h
  cases l with
  | nil => cases vs with
    | nil => exact .tup (l := []) (vs := []) rfl hh
    | cons v r => simp at hl
  | cons d r =>
    cases vs with
    | nil => simp at hl
    | cons v s =>
      cases r with
      | nil => cases s with
        | nil => exact hh 0 d v rfl rfl
        | cons v' s => simp at hl
      | cons d' r => cases s with
        | nil => simp at hl
        | cons v' s => exact .tup hl hh
def dropA {α : Type} : Nat → List α → List α
  | 0, l => l
  | n + 1, _ :: r => dropA n r
  | _ + 1, [] => []
theorem dropA_den {C : Cx} : ∀ (n : Nat) {l : List AV} {vs : List Value}, Dens C l vs → Dens C (dropA n l) (dropA n vs)
  | 0, l, vs, h => h
  | n + 1, [], vs, h => by rw [h.nil_inv]; exact .nil _
  | n + 1, d :: r, vs, h => by
    obtain ⟨u, us, rfl, _, h2⟩ := h.cons_inv
    exact dropA_den n h2
def EndOk (pan : Bool) (v : Value) (e : Ending) : Prop := match pan with
  | false => e = .returned v
  | true => e = .panicked [{ v := v, recovered := false }]
def FnOk (P : Program) (S : Face) : Prop := ∀ (base : Nat) (C : Cx) (w : World) (vs : List Value) (x : dens S.ps), SMem C (bookM (rws S.ps x) (bxs 0 S.ps x) True) base w → (∀ b v loc, C.at_ b v = some loc → v = 0 ∧ b < nbx S.ps) → Dens C (avs 0 (bns S.ps) S.ps x) vs → holds (S.pre x) →
  Calls P S.f vs.toArray w (fun e w' => ∃ X ∈ S.ex, holds (X.c x) ∧ ∃ C' us, LStep C C' (bookM (rws X.sh (X.f x)) (bxs 0 X.sh (X.f x)) True) base w w' ∧ Dens C' (avs 0 (bns X.sh) X.sh (X.f x)) us ∧ EndOk X.pan (oneV (dropA (nbx S.ps) us)) e)
noncomputable def outsF (M2 : SH) (ids bids : List Nat) (n : Nat) (p : Prop) {V : Type} (x : V) : List (FO V) → List (SC × SH)
  | [] => []
  | X :: r => (match X.pan with
    | false => .val (oneT (dropA n (avs M2.nr (bidsJ M2 bids X.sh) X.sh (X.f x))))
    | true => .panic (oneT (dropA n (avs M2.nr (bidsJ M2 bids X.sh) X.sh (X.f x)))), joinM M2 ids bids (rws X.sh (X.f x)) (bxs M2.nr X.sh (X.f x)) (pcA p (X.c x))) :: outsF M2 ids bids n p x r
theorem outsF_mem {M2 : SH} {ids bids : List Nat} {n : Nat} {p : Prop} {V : Type} {x : V} {X : FO V} : ∀ {l : List (FO V)}, X ∈ l → ((match X.pan with
    | false => SC.val (oneT (dropA n (avs M2.nr (bidsJ M2 bids X.sh) X.sh (X.f x))))
    | true => SC.panic (oneT (dropA n (avs M2.nr (bidsJ M2 bids X.sh) X.sh (X.f x))))), joinM M2 ids bids (rws X.sh (X.f x)) (bxs M2.nr X.sh (X.f x)) (pcA p (X.c x))) ∈ outsF M2 ids bids n p x l
  | [], h => by simp at h
  | Y :: r, h => by
    rcases List.mem_cons.1 h with rfl | h
    · exact List.mem_cons_self
    · exact List.mem_cons_of_mem _ (outsF_mem h)
def sameB (ts : List TypeId) {V : Type} : List (FO V) → Bool
  | [] => true
  | X :: r => (preTs ts (bts X.sh) && small (nbx X.sh)) && sameB ts r
theorem sameB_spec {ts : List TypeId} {V : Type} {X : FO V} : ∀ {l : List (FO V)}, sameB ts l = true → X ∈ l → preTs ts (bts X.sh) = true ∧ small (nbx X.sh) = true
  | [], _, hm => by simp at hm
  | Y :: r, h, hm => by
    simp only [sameB, Bool.and_eq_true] at h
    rcases List.mem_cons.1 hm with rfl | hm
    · exact h.1
    · exact sameB_spec h.2 hm
noncomputable def entryS (S : Face) (args : List AV) (M : SH) : Option (List (SC × SH)) := match sameB (bts S.ps) S.ex with
  | true => match absorb M S.ps args with
    | some (x, M2, ids, bids) => match small M2.H.nb with
     | false => none
     | true => match S.pre x with
      | none => some (outsF M2 ids bids (nbx S.ps) M2.pc x S.ex)
      | some p => some ((.bad, withP M2 (¬ p)) :: outsF M2 ids bids (nbx S.ps) (M2.pc ∧ p) x S.ex)
    | none => none
  | false => none
theorem entry_ok {P : Program} {S : Face} (h : FnOk P S) {base : Nat} {args : List AV} {M : SH} {rs : List (SC × SH)} (he : entryS S args M = some rs) (hn : NBc rs) {C : Cx} {w : World} {vs : List Value} (hM : SMem C M base w) (hD : Dens C args vs) :
    Calls P S.f vs.toArray w (fun e w' => ∃ r ∈ rs, SCallOk C M base w r e w') := by
  unfold entryS at he
  split at he
  · rename_i hsb
    split at he
    · rename_i x M2 ids bids hx
      obtain ⟨C2, hS2, hi, hb, hbl, hD2⟩ := absorb_spec hM hx hD
      split at he
      · cases he
      rename_i hsn
      have fin : ∀ (p : Prop), p → holds (S.pre x) → (∀ r, r ∈ outsF M2 ids bids (nbx S.ps) p x S.ex → r ∈ rs) → Calls P S.f vs.toArray w (fun e w' => ∃ r ∈ rs, SCallOk C M base w r e w') := fun p hp hpre hin => by
        refine (h base (C2.only ids bids) w vs x (hS2.mem.only hi hb trivial) (fun b v loc hl => ?_) hD2 hpre).mono fun e w' he => ?_
        · obtain ⟨e, c, h1, h2⟩ := Cx.only_at hl
          exact ⟨e, by show b < (bts S.ps).length; rw [← hbl]; exact (List.getElem?_eq_some_iff.1 h1).1⟩
        · obtain ⟨X, hX, hc, C', us, hL, hus, hend⟩ := he
          obtain ⟨C3, hj, hden⟩ := rejoinX (x := x) (y := X.f x) hS2.mem hi hb hbl (sameB_spec hsb hX).1 (sameB_spec hsb hX).2 hsn (Nat.le_refl _) hL (pcA_mk hp hc)
          refine ⟨_, hin _ (outsF_mem hX), C3, hS2.trans hj, ?_⟩
          have hd := oneT_den (dropA_den (nbx S.ps) (hden us hus))
          cases hp : X.pan with
          | false => rw [hp] at hend; exact ⟨_, hend, hd⟩
          | true => rw [hp] at hend; exact ⟨_, hend, hd⟩
      cases hp : S.pre x with
      | none =>
        rw [hp] at he; cases he
        exact fin M2.pc hS2.mem.pc (by rw [hp]; trivial) (fun r hr => hr)
      | some p =>
        rw [hp] at he; cases he
        have hpp : p := Classical.byContradiction fun hnp => hn (withP M2 (¬ p)) List.mem_cons_self ⟨hS2.mem.pc, hnp⟩
        exact fin (M2.pc ∧ p) ⟨hS2.mem.pc, hpp⟩ (by rw [hp]; exact hpp) (fun r hr => List.mem_cons_of_mem _ hr)
    · cases he
  · cases he
noncomputable def cfOf : List Face → SCF
  | [], _, _, _ => none
  | S :: r, f, args, M => match Nat.beq S.f f with
    | true => match entryS S args M with
      | some l => some l
      | none => cfOf r f args M
    | false => cfOf r f args M
theorem cfOf_ok {P : Program} {base : Nat} : ∀ {l : List Face}, (∀ S ∈ l, FnOk P S) → SCFok P base (cfOf l)
  | [], _ => fun f args M rs h => by simp [cfOf] at h
  | S :: r, hl => fun f args M rs h hn C w vs hM hD => by
    have ih := cfOf_ok (base := base) (fun T hT => hl T (List.mem_cons_of_mem _ hT))
    simp only [cfOf] at h
    split at h
    · rename_i hb
      have e := Nat.eq_of_beq_eq_true hb
      subst e
      split at h
      · rename_i l he
        cases h
        exact entry_ok (hl S List.mem_cons_self) he hn hM hD
      · exact ih _ args M rs h hn C w vs hM hD
    · exact ih f args M rs h hn C w vs hM hD
theorem fns_nil (P : Program) : ∀ S ∈ ([] : List Face), FnOk P S := fun S h => by simp at h
theorem fns_cons {P : Program} {S : Face} {l : List Face} (h : FnOk P S) (hl : ∀ T ∈ l, FnOk P T) : ∀ T ∈ S :: l, FnOk P T := fun T hT => by
  rcases List.mem_cons.1 hT with rfl | hT
  · exact h
  · exact hl T hT
def bpt : Nat → Nat → List AV
  | _, 0 => []
  | i, n + 1 => .ptr i 0 0 :: bpt (i + 1) n
def eqNs : List Nat → List Nat → Bool
  | [], [] => true
  | a :: r, b :: s => Nat.beq a b && eqNs r s
  | _, _ => false
theorem eqNs_spec : ∀ {a b : List Nat}, eqNs a b = true → a = b := fun {a b} h => eqTs_spec (a := a) (b := b) (by
  induction a generalizing b with
  | nil => cases b with
    | nil => rfl
    | cons => simp [eqNs] at h
  | cons x r ih => cases b with
    | nil => simp [eqNs] at h
    | cons y s =>
      simp only [eqNs, Bool.and_eq_true] at h
      simp only [eqTs, Bool.and_eq_true]
      exact ⟨h.1, ih h.2⟩)
def preNs : List Nat → List Nat → Bool
  | [], _ => true
  | a :: r, b :: s => Nat.beq a b && preNs r s
  | _, _ => false
theorem preNs_spec : ∀ {a b : List Nat}, preNs a b = true → ∃ r, b = a ++ r
  | [], b, _ => ⟨b, rfl⟩
  | _ :: _, [], h => by simp [preNs] at h
  | a :: r, b :: s, h => by
    simp only [preNs, Bool.and_eq_true] at h
    obtain ⟨q, e⟩ := preNs_spec h.2
    exact ⟨q, by rw [Nat.eq_of_beq_eq_true h.1, e]; rfl⟩
def isValC {sh : List Sh} (n : Nat) (c : Option Prop) (y : dens sh) : Option (dens sh × SH × List Nat × List Nat) → Prop
  | some (y', _, _, bids) => match preNs (upN 0 n) bids with
    | true => holds c ∧ y' = y
    | false => False
  | none => False
def anyFS {V : Type} (pan : Bool) : List (FO V) → Bool
  | [] => false
  | X :: r => match X.pan, pan with
    | true, true => true
    | false, false => true
    | _, _ => anyFS pan r
def sameP : Bool → Bool → Bool
  | true, true => true
  | false, false => true
  | _, _ => false
theorem sameP_eq {a b : Bool} (h : sameP a b = true) : a = b := by cases a <;> cases b <;> first | rfl | cases h
def partsR (k : Nat) (d : AV) : Option (List AV) := match k with
  | 1 => some [d]
  | _ => match d with
    | .tup l => some l
    | _ => none
noncomputable def orF {V : Type} (n : Nat) (x : V) (pan : Bool) (d : AV) (M : SH) : List (FO V) → Prop
  | [] => False
  | X :: r => match sameP X.pan pan with
    | true => match partsR (X.sh.length - n) d with
      | some l => match anyFS pan r with
        | true => isValC n (X.c x) (X.f x) (absorb M X.sh (bpt 0 n ++ l)) ∨ orF n x pan d M r
        | false => isValC n (X.c x) (X.f x) (absorb M X.sh (bpt 0 n ++ l))
      | none => orF n x pan d M r
    | false => orF n x pan d M r
noncomputable def goodC {V : Type} (n : Nat) (x : V) (ex : List (FO V)) (c : SC) (M : SH) : Prop := match c with
  | .val d => orF n x false d M ex
  | .panic d => orF n x true d M ex
  | .bad => False
noncomputable def allGS {V : Type} (n : Nat) (x : V) (ex : List (FO V)) : List (SC × SH) → Prop
  | [] => True
  | (c, M) :: r => (M.pc → goodC n x ex c M) ∧ allGS n x ex r
noncomputable def GoodF (S : Face) (x : dens S.ps) : Option (List (SC × SH)) → Prop
  | some l => match sameB (bts S.ps) S.ex with
    | true => allGS (nbx S.ps) x S.ex l
    | false => False
  | none => False
theorem allGS_spec {V : Type} {n : Nat} {x : V} {ex : List (FO V)} : ∀ {l : List (SC × SH)}, allGS n x ex l → ∀ c M, (c, M) ∈ l → M.pc → goodC n x ex c M
  | [], _, c, M, hm => by simp at hm
  | (c0, M0) :: r, h, c, M, hm => by
    rcases List.mem_cons.1 hm with e | hm
    · cases e; exact h.1
    · exact allGS_spec h.2 c M hm
theorem orF_spec {V : Type} {n : Nat} {x : V} {pan : Bool} {d : AV} {M : SH} : ∀ {ex : List (FO V)}, orF n x pan d M ex → ∃ X ∈ ex, ∃ l, X.pan = pan ∧ partsR (X.sh.length - n) d = some l ∧ isValC n (X.c x) (X.f x) (absorb M X.sh (bpt 0 n ++ l))
  | [], h => h.elim
  | X :: r, h => by
    simp only [orF] at h
    split at h
    · rename_i hp
      split at h
      · rename_i l hl
        split at h
        · rcases h with h | h
          · exact ⟨X, List.mem_cons_self, l, sameP_eq hp, hl, h⟩
          · obtain ⟨Y, h1, h2⟩ := orF_spec h
            exact ⟨Y, List.mem_cons_of_mem _ h1, h2⟩
        · exact ⟨X, List.mem_cons_self, l, sameP_eq hp, hl, h⟩
      · obtain ⟨Y, h1, h2⟩ := orF_spec h
        exact ⟨Y, List.mem_cons_of_mem _ h1, h2⟩
    · obtain ⟨Y, h1, h2⟩ := orF_spec h
      exact ⟨Y, List.mem_cons_of_mem _ h1, h2⟩
theorem isValC_spec {sh : List Sh} {n : Nat} {c : Option Prop} {y : dens sh} {o : Option (dens sh × SH × List Nat × List Nat)} (h : isValC n c y o) : ∃ M2 ids more, o = some (y, M2, ids, upN 0 n ++ more) ∧ holds c := by
  cases o with
  | none => exact h.elim
  | some p =>
    obtain ⟨y', M2, ids, bids⟩ := p
    simp only [isValC] at h
    split at h
    · rename_i hb
      obtain ⟨h1, rfl⟩ := h
      obtain ⟨more, e⟩ := preNs_spec hb
      exact ⟨M2, ids, more, by rw [e], h1⟩
    · exact h.elim
theorem bpt_den {C : Cx} : ∀ (n i : Nat), (∀ j, j < n → ∃ loc, C.at_ (i + j) 0 = some loc ∧ loc.lo = 0) → ∃ us, Dens C (bpt i n) us ∧ us.length = n
  | 0, i, _ => ⟨[], .nil _, rfl⟩
  | n + 1, i, h => by
    obtain ⟨us, h1, h2⟩ := bpt_den n (i + 1) (fun j hj => by
      obtain ⟨loc, g⟩ := h (j + 1) (by omega)
      exact ⟨loc, by rw [show i + 1 + j = i + (j + 1) by omega]; exact g⟩)
    obtain ⟨loc, g1, g2⟩ := h 0 (by omega)
    exact ⟨_ :: us, .cons (.ptr g1 (by omega)) h1, by simp [h2]⟩
theorem dropA_append {α : Type} : ∀ (n : Nat) (a b : List α), a.length = n → dropA n (a ++ b) = b
  | 0, [], b, _ => rfl
  | 0, _ :: _, b, h => by simp at h
  | n + 1, [], b, h => by simp at h
  | n + 1, x :: a, b, h => dropA_append n a b (by simpa using h)
theorem bpt_len : ∀ (n i : Nat), (bpt i n).length = n
  | 0, i => rfl
  | n + 1, i => by simp [bpt, bpt_len n]
theorem given_at {C : Cx} {l : List Sh} {x : dens l} {base : Nat} {w : World} {p : Prop} (hM : SMem C (bookM (rws l x) (bxs 0 l x) p) base w) (hs : (bxs 0 l x).length < 2 ^ 40 - 1) (j : Nat) (hj : j < nbx l) : ∃ loc, C.at_ j 0 = some loc ∧ loc.lo = 0 := by
  obtain ⟨c, _, h1, _⟩ := bxs_mono (C := C) (C' := C) (XW.Ext.refl _) l x 0 0 (fun j v hv => hv) j _ (List.getElem?_eq_getElem hj)
  have hL := (hM.mem.blk j _ (by show (ofL (bxs 0 l x)).get j = _; rw [ofL_get hs]; exact h1)).2
  obtain ⟨loc, e1, _⟩ := hL.dom 0 c.length (by simp [boxB])
  exact ⟨loc, e1, (hL.at0 loc e1).2⟩
theorem good_end {V : Type} {C C' : Cx} {M : SH} {base n : Nat} {w w' : World} {x : V} {ex : List (FO V)} {pan : Bool} {d : AV} {v : Value} (hL : LStep C C' M base w w') (hD : Den C' d v) (hat : ∀ b v loc, C.at_ b v = some loc → v = 0 ∧ b < n) (hgv : ∀ j, j < n → ∃ loc, C.at_ j 0 = some loc ∧ loc.lo = 0) (h : orF n x pan d M ex) :
    ∃ X ∈ ex, X.pan = pan ∧ holds (X.c x) ∧ ∃ C'' us, LStep C C'' (bookM (rws X.sh (X.f x)) (bxs 0 X.sh (X.f x)) True) base w w' ∧ Dens C'' (avs 0 (bns X.sh) X.sh (X.f x)) us ∧ oneV (dropA n us) = v := by
  obtain ⟨X, hX, l, hp, hl, hv⟩ := orF_spec h
  obtain ⟨M2, ids, bmore, ha, hc⟩ := isValC_spec hv
  obtain ⟨bs, hb1, hb2⟩ := bpt_den (C := C') n 0 (fun j hj => by
    obtain ⟨loc, g1, g2⟩ := hgv j hj
    exact ⟨loc, by rw [Nat.zero_add]; exact hL.at_ _ _ _ g1, g2⟩)
  have key : ∃ vs, Dens C' l vs ∧ oneV vs = v := by
    unfold partsR at hl
    split at hl
    · cases hl
      exact ⟨[v], .cons hD (.nil _), rfl⟩
    · rename_i hne
      split at hl
      · cases hl
        cases hD with
        | @tup _ us h1 h2 =>
          refine ⟨us, ⟨h1, h2⟩, ?_⟩
          have hln : l.length = X.sh.length - n := by
            have h3 : X.sh.length = (bpt 0 n ++ l).length := by
              unfold absorb at ha
              split at ha
              · rename_i hb; exact Nat.eq_of_beq_eq_true hb
              · cases ha
            rw [List.length_append, bpt_len] at h3
            omega
          cases us with
          | nil => rfl
          | cons a r => cases r with
            | nil => exact absurd (by rw [← hln, ← h1]; rfl) hne
            | cons => rfl
      · cases hl
  obtain ⟨vs, hvs, hov⟩ := key
  have hall : Dens C' (bpt 0 n ++ l) (bs ++ vs) := by
    refine ⟨by rw [List.length_append, List.length_append, hb1.1, hvs.1], fun i a u ha hu => ?_⟩
    by_cases hi : i < (bpt 0 n).length
    · rw [List.getElem?_append_left hi] at ha
      rw [List.getElem?_append_left (by rw [hb1.1]; exact hi)] at hu
      exact hb1.2 i a u ha hu
    · rw [List.getElem?_append_right (by omega)] at ha
      rw [List.getElem?_append_right (by rw [hb1.1]; omega), hb1.1] at hu
      exact hvs.2 _ a u ha hu
  obtain ⟨C2, hS2, hi, hb, hbl, hD2⟩ := absorb_spec hL.mem ha hall
  refine ⟨X, hX, hp, hc, C2.only ids (upN 0 n ++ bmore), bs ++ vs, (hL.trans hS2.ls).only hi hb (fun b v loc hl => ?_) trivial, hD2, by rw [dropA_append n bs vs hb2]; exact hov⟩
  obtain ⟨h1, h2⟩ := hat b v loc hl
  exact ⟨h1, by rw [List.getElem?_append_left (by rw [upN_len]; exact h2), upN_get, if_pos h2]; simp⟩
theorem fnOk_eval {P : Program} {cf : SCF} {lo : FuncId → Lo} {lf : Nat} (hcf : ∀ base, SCFok P base cf) (hlo : ∀ base, LosOk P base lo) (hm : P.follows .mixedOrders = true) (S : Face) (hsm : small (nbx S.ps) = true)
    (h : ∀ x, holds (S.pre x) → GoodF S x (evalFR P cf lo lf S.f (avs 0 (bns S.ps) S.ps x) (bookM (rws S.ps x) (bxs 0 S.ps x) True))) : FnOk P S := by
  intro base C w vs x hM hat hD hpre
  have hg := h x hpre
  cases he : evalFR P cf lo lf S.f (avs 0 (bns S.ps) S.ps x) (bookM (rws S.ps x) (bxs 0 S.ps x) True) with
  | none => rw [he] at hg; exact hg.elim
  | some rs =>
    rw [he] at hg
    simp only [GoodF] at hg
    split at hg
    · rename_i hsb
      have hn : NBc rs := fun M hm' hpc => (allGS_spec hg _ M hm' hpc).elim
      refine (evalFR_spec (hcf base) (hlo base) hm S.f _ _ rs he hn C w vs hM hD).mono fun e w' hc => ?_
      obtain ⟨⟨c, M⟩, hr, C', hS, hend⟩ := hc
      have hgc := allGS_spec hg c M hr hS.mem.pc
      have hgv := given_at hM (by rw [bxs_len]; exact small_lt hsm)
      cases c with
      | val d =>
        obtain ⟨v, rfl, hDv⟩ := hend
        obtain ⟨X, hX, hp, hc, C'', us, h1, h2, h3⟩ := good_end hS.ls hDv hat hgv hgc
        exact ⟨X, hX, hc, C'', us, h1, h2, by rw [hp, h3]; rfl⟩
      | panic d =>
        obtain ⟨v, rfl, hDv⟩ := hend
        obtain ⟨X, hX, hp, hc, C'', us, h1, h2, h3⟩ := good_end hS.ls hDv hat hgv hgc
        exact ⟨X, hX, hc, C'', us, h1, h2, by rw [hp, h3]; rfl⟩
      | bad => exact hgc.elim
    · exact hg.elim
inductive XK where
  | normal
  | exit (id : Nat)
  | ret
  /-- the value stands behind the slots -/
  | panic
structure LX (V : Type) where
  x : XK
  sl : List Nat
  sh : List Sh
  f : V → dens sh
  c : V → Option Prop
structure LFace where
  sl : List Nat
  sh : List Sh
  pre : dens sh → Option Prop
  ex : List (LX (dens sh))
noncomputable def envSl : List Nat → List AV → EnvA
  | t :: r, d :: q => match Nat.blt t 4095 with
    | true => Tr.set d 12 (envSl r q) t
    | false => envSl r q
  | _, _ => .e
noncomputable def getSl (E : EnvA) : List Nat → Option (List AV)
  | [] => some []
  | t :: r => match getA E t, getSl E r with
    | some d, some l => some (d :: l)
    | _, _ => none
def Slots (n : Nat) (a : Act) (sl : List Nat) (vs : List Value) : Prop := a.tmps.size = n ∧ sl.length ≤ vs.length ∧ ∀ (i t : Nat) v, sl[i]? = some t → vs[i]? = some v → a.tmps[t]? = some v
theorem Slots.more {n : Nat} {a : Act} {sl : List Nat} {vs us : List Value} (h : Slots n a sl vs) (hl : vs.length = sl.length) : Slots n a sl (vs ++ us) :=
  ⟨h.1, by rw [List.length_append]; have := h.2.1; omega, fun i t v hi hv => h.2.2 i t v hi (by rwa [List.getElem?_append_left (by rw [hl]; exact (List.getElem?_eq_some_iff.1 hi).1)] at hv)⟩
theorem getSl_spec {C : Cx} {n : Nat} {E : EnvA} {a : Act} (h : ESat C n E a) : ∀ {sl : List Nat} {ds : List AV}, getSl E sl = some ds → ∃ vs, Dens C ds vs ∧ Slots n a sl vs ∧ vs.length = sl.length
  | [], ds, hg => by simp only [getSl, Option.some.injEq] at hg; subst hg; exact ⟨[], .nil C, ⟨h.size, Nat.le_refl _, fun i t v hi => by simp at hi⟩, rfl⟩
  | t :: r, ds, hg => by
    simp only [getSl] at hg
    split at hg
    · rename_i d l hd hl
      cases hg
      obtain ⟨v, h1, h2⟩ := h.slot t d hd
      obtain ⟨vs, h3, ⟨h4, h5, h6⟩, h7⟩ := getSl_spec h hl
      refine ⟨v :: vs, .cons h2 h3, ⟨h4, by simp [h7], fun i t' v' hi hv => ?_⟩, by simp [h7]⟩
      cases i with
      | zero => simp at hi hv; subst hi; subst hv; exact h1
      | succ i => simp at hi hv; exact h6 i t' v' hi hv
    · cases hg
theorem envSl_sat {C : Cx} {n : Nat} {a : Act} : ∀ {sl : List Nat} {ds : List AV} {vs : List Value}, Slots n a sl vs → Dens C ds vs → ESat C n (envSl sl ds) a
  | [], ds, vs, hs, hd => ⟨hs.1, fun i d h => by simp [envSl, getA, Tr.get] at h⟩
  | t :: r, [], vs, hs, hd => ⟨hs.1, fun i d h => by simp [envSl, getA, Tr.get] at h⟩
  | t :: r, d :: q, vs, hs, hd => by
    obtain ⟨u, us, rfl, h1, h2⟩ := hd.cons_inv
    have ih := envSl_sat (sl := r) (ds := q) (vs := us) ⟨hs.1, by have := hs.2.1; simpa using this, fun i t' v hi hv => hs.2.2 (i + 1) t' v (by simpa using hi) (by simpa using hv)⟩ h2
    simp only [envSl]
    split
    · rename_i hb
      have hlt : t < 4095 := by simpa [Nat.blt_eq] using hb
      refine ⟨hs.1, fun i x hx => ?_⟩
      by_cases e : i = t
      · subst e
        have : getA (Tr.set d 12 (envSl r q) i) i = some d := Tr.get_set_same d 12 _ i (by omega)
        rw [this] at hx; cases hx
        exact ⟨u, hs.2.2 0 i u rfl rfl, h1⟩
      · have : getA (Tr.set d 12 (envSl r q) t) i = getA (envSl r q) i := Tr.get_set_ne d 12 _ t i e
        rw [this] at hx
        exact ih.slot i x hx
    · exact ih
def nthA : Nat → List AV → AV
  | 0, d :: _ => d
  | n + 1, _ :: r => nthA n r
  | _, [] => .hole
theorem nthA_den {C : Cx} : ∀ (n : Nat) {l : List AV} {vs : List Value} {v : Value}, Dens C l vs → vs[n]? = some v → Den C (nthA n l) v
  | n, [], vs, v, h, hv => by rw [h.nil_inv] at hv; simp at hv
  | 0, d :: r, vs, v, h, hv => by
    obtain ⟨u, us, rfl, h1, _⟩ := h.cons_inv
    simp at hv; subst hv; exact h1
  | n + 1, d :: r, vs, v, h, hv => by
    obtain ⟨u, us, rfl, _, h2⟩ := h.cons_inv
    exact nthA_den n h2 (by simpa using hv)
def XKOk (k : XK) (n : Nat) (us : List Value) (e : Exit) : Prop := match k with
  | .normal => e = .normal
  | .exit id => e = .exit id
  | .ret => e = .ret
  | .panic => ∃ v, us[n]? = some v ∧ e = .panic [{ v := v, recovered := false }]
def XK.sx (n : Nat) (l : List AV) : XK → SX
  | .normal => .normal
  | .exit id => .exit id
  | .ret => .ret
  | .panic => .panic (nthA n l)
theorem XKOk.sx {C : Cx} {k : XK} {n : Nat} {l : List AV} {us : List Value} {e : Exit} (h : XKOk k n us e) (hd : Dens C l us) : SExOk C (k.sx n l) e := by
  cases k with
  | normal => exact h
  | exit id => exact h
  | ret => exact h
  | panic =>
    obtain ⟨v, h1, h2⟩ := h
    exact ⟨v, h2, nthA_den n hd h1⟩
def LpOk (P : Program) (n : Nat) (c : Code) (L : LFace) : Prop := ∀ (base : Nat) (C : Cx) (x : dens L.sh) (a : Act) (w : World) (vs : List Value) (Q : Exit → Act → World → Prop), holds (L.pre x) →
  SMem C (bookM (rws L.sh x) (bxs 0 L.sh x) True) base w → (∀ b v loc, C.at_ b v = some loc → v = 0 ∧ b < nbx L.sh) → Slots n a L.sl vs → Dens C (avs 0 (bns L.sh) L.sh x) vs → a.defers = [] →
  (∀ X ∈ L.ex, ∀ C' a' w' us e, holds (X.c x) → LStep C C' (bookM (rws X.sh (X.f x)) (bxs 0 X.sh (X.f x)) True) base w w' → Slots n a' X.sl us → Dens C' (avs 0 (bns X.sh) X.sh (X.f x)) us → a'.defers = [] → XKOk X.x X.sl.length us e → Q e a' w') → c.wp P Q a w
noncomputable def outsR (M2 : SH) (ids bids : List Nat) (p : Prop) {V : Type} (x : V) : List (LX V) → List (SX × SSt)
  | [] => []
  | X :: r => (X.x.sx X.sl.length (avs M2.nr (bidsJ M2 bids X.sh) X.sh (X.f x)), ⟨envSl X.sl (avs M2.nr (bidsJ M2 bids X.sh) X.sh (X.f x)), joinM M2 ids bids (rws X.sh (X.f x)) (bxs M2.nr X.sh (X.f x)) (pcA p (X.c x)), []⟩) :: outsR M2 ids bids p x r
def sameL (ts : List TypeId) {V : Type} : List (LX V) → Bool
  | [] => true
  | X :: r => (preTs ts (bts X.sh) && small (nbx X.sh)) && sameL ts r
theorem sameL_spec {ts : List TypeId} {V : Type} {X : LX V} : ∀ {l : List (LX V)}, sameL ts l = true → X ∈ l → preTs ts (bts X.sh) = true ∧ small (nbx X.sh) = true
  | [], _, hm => by simp at hm
  | Y :: r, h, hm => by
    simp only [sameL, Bool.and_eq_true] at h
    rcases List.mem_cons.1 hm with rfl | hm
    · exact h.1
    · exact sameL_spec h.2 hm
noncomputable def loopR (L : LFace) : SSt → SRS := fun s => match isNilL s.ds && sameL (bts L.sh) L.ex with
  | true => match getSl s.E L.sl with
    | some ds => match absorb s.M L.sh ds with
      | some (x, M2, ids, bids) => match small M2.H.nb with
       | false => none
       | true => match L.pre x with
        | none => some (outsR M2 ids bids M2.pc x L.ex)
        | some p => some ((.bad, ⟨.e, withP M2 (¬ p), []⟩) :: outsR M2 ids bids (M2.pc ∧ p) x L.ex)
      | none => none
    | none => none
  | _ => none
theorem outsR_mem {M2 : SH} {ids bids : List Nat} {p : Prop} {V : Type} {x : V} {X : LX V} : ∀ {l : List (LX V)}, X ∈ l → (X.x.sx X.sl.length (avs M2.nr (bidsJ M2 bids X.sh) X.sh (X.f x)), (⟨envSl X.sl (avs M2.nr (bidsJ M2 bids X.sh) X.sh (X.f x)), joinM M2 ids bids (rws X.sh (X.f x)) (bxs M2.nr X.sh (X.f x)) (pcA p (X.c x)), []⟩ : SSt)) ∈ outsR M2 ids bids p x l
  | [], h => by simp at h
  | Y :: r, h => by
    rcases List.mem_cons.1 h with rfl | h
    · exact List.mem_cons_self
    · exact List.mem_cons_of_mem _ (outsR_mem h)
theorem loopR_sound {P : Program} {n base : Nat} {c : Code} {L : LFace} (h : LpOk P n c L) : SoundR P n base c (loopR L) := by
  intro s C a w rs Q hg hn hR hQ
  unfold loopR at hg
  split at hg
  · rename_i hdn
    simp only [Bool.and_eq_true] at hdn
    obtain ⟨hds, hsl'⟩ := hdn
    have hds := isNil_spec hds
    have hdef : a.defers = [] := by have := hR.ds; rw [hds] at this; exact this.nil_inv
    split at hg
    · rename_i ds hget
      obtain ⟨vs, hvs, hsl, _⟩ := getSl_spec hR.env hget
      split at hg
      · rename_i x M2 ids bids hx
        obtain ⟨C2, hS2, hi, hb, hbl, hD2⟩ := absorb_spec hR.mem hx hvs
        split at hg
        · cases hg
        rename_i hsn
        have fin : ∀ (p : Prop), p → holds (L.pre x) → (∀ X ∈ L.ex, (X.x.sx X.sl.length (avs M2.nr (bidsJ M2 bids X.sh) X.sh (X.f x)), (⟨envSl X.sl (avs M2.nr (bidsJ M2 bids X.sh) X.sh (X.f x)), joinM M2 ids bids (rws X.sh (X.f x)) (bxs M2.nr X.sh (X.f x)) (pcA p (X.c x)), []⟩ : SSt)) ∈ rs) → c.wp P Q a w := fun p hp hpre hin => by
          refine h base (C2.only ids bids) x a w vs Q hpre (hS2.mem.only hi hb trivial) (fun b v loc hl => ?_) hsl hD2 hdef (fun X hX C' a' w' us e hc hL hus hDus hdef' hx => ?_)
          · obtain ⟨e, c, h1, h2⟩ := Cx.only_at hl
            exact ⟨e, by show b < (bts L.sh).length; rw [← hbl]; exact (List.getElem?_eq_some_iff.1 h1).1⟩
          · obtain ⟨C3, hj, hden⟩ := rejoinX (x := x) (y := X.f x) hS2.mem hi hb hbl (sameL_spec hsl' hX).1 (sameL_spec hsl' hX).2 hsn (Nat.le_refl _) hL (pcA_mk hp hc)
            have hD' := hden us hDus
            exact hQ _ _ C3 a' w' e (hin X hX) ⟨hS2.trans hj, envSl_sat hus hD', by rw [hdef']; exact .nil⟩ (hx.sx hD')
        cases hp : L.pre x with
        | none =>
          rw [hp] at hg
          cases hg
          exact fin _ hS2.mem.pc (by rw [hp]; trivial) (fun X hX => outsR_mem hX)
        | some p =>
          rw [hp] at hg
          cases hg
          have hpp : p := Classical.byContradiction fun hnp => hn _ List.mem_cons_self ⟨hS2.mem.pc, hnp⟩
          exact fin _ ⟨hS2.mem.pc, hpp⟩ (by rw [hp]; exact hpp) (fun X hX => List.mem_cons_of_mem _ (outsR_mem hX))
      · cases hg
    · cases hg
  · cases hg
def sameX : XK → XK → Bool
  | .normal, .normal => true
  | .exit i, .exit j => Nat.beq i j
  | .ret, .ret => true
  | .panic, .panic => true
  | _, _ => false
theorem sameX_eq {x y : XK} (h : sameX x y = true) : x = y := by
  cases x <;> cases y <;> simp only [sameX, Bool.false_eq_true] at h <;> first | rfl | rw [Nat.eq_of_beq_eq_true h]
def anyX {V : Type} (y : XK) : List (LX V) → Bool
  | [] => false
  | X :: r => match sameX X.x y with
    | true => true
    | false => anyX y r
noncomputable def absSt (s : SSt) (sl : List Nat) (sh : List Sh) (more : List AV) : Option (dens sh × SH × List Nat × List Nat) := match isNilL s.ds with
  | true => match getSl s.E sl with
    | some ds => absorb s.M sh (ds ++ more)
    | none => none
  | false => none
noncomputable def orX {V : Type} (n : Nat) (x : V) (y : XK) (s : SSt) (more : List AV) : List (LX V) → Prop
  | [] => False
  | X :: r => match sameX X.x y with
    | true => match anyX y r with
      | true => isValC n (X.c x) (X.f x) (absSt s X.sl X.sh more) ∨ orX n x y s more r
      | false => isValC n (X.c x) (X.f x) (absSt s X.sl X.sh more)
    | false => orX n x y s more r
def contX {V : Type} (x x' : V) : List (LX V) → Prop
  | [] => True
  | X :: r => (holds (X.c x') → holds (X.c x) ∧ X.f x' = X.f x) ∧ contX x x' r
def goodN (L : LFace) (μ : dens L.sh → Nat) (x : dens L.sh) : Option (dens L.sh × SH × List Nat × List Nat) → Prop
  | some (x', _, _, bids) => match eqNs bids (upN 0 (nbx L.sh)) with
    | true => holds (L.pre x') ∧ μ x' < μ x ∧ contX x x' L.ex
    | false => False
  | none => False
noncomputable def goodW (id : Nat) (L : LFace) (μ : dens L.sh → Nat) (x : dens L.sh) (y : SX) (s : SSt) : Prop := match y with
  | .normal => goodN L μ x (absSt s L.sl L.sh [])
  | .exit j => match Nat.beq j id with
    | true => orX (nbx L.sh) x .normal s [] L.ex
    | false => orX (nbx L.sh) x (.exit j) s [] L.ex
  | .ret => orX (nbx L.sh) x .ret s [] L.ex
  | .panic d => orX (nbx L.sh) x .panic s [d] L.ex
  | .bad => False
noncomputable def allW (id : Nat) (L : LFace) (μ : dens L.sh → Nat) (x : dens L.sh) : List (SX × SSt) → Prop
  | [] => True
  | (y, s) :: r => (s.M.pc → goodW id L μ x y s) ∧ allW id L μ x r
noncomputable def GoodL (id : Nat) (L : LFace) (μ : dens L.sh → Nat) (x : dens L.sh) : SRS → Prop
  | some l => match sameL (bts L.sh) L.ex with
    | true => allW id L μ x l
    | false => False
  | none => False
theorem allW_spec {id : Nat} {L : LFace} {μ : dens L.sh → Nat} {x : dens L.sh} : ∀ {l : List (SX × SSt)}, allW id L μ x l → ∀ y s, (y, s) ∈ l → s.M.pc → goodW id L μ x y s
  | [], _, y, s, hm => by simp at hm
  | (y0, s0) :: r, h, y, s, hm => by
    rcases List.mem_cons.1 hm with e | hm
    · cases e; exact h.1
    · exact allW_spec h.2 y s hm
theorem contX_spec {V : Type} {x x' : V} : ∀ {l : List (LX V)}, contX x x' l → ∀ X ∈ l, holds (X.c x') → holds (X.c x) ∧ X.f x' = X.f x
  | [], _, X, hm => by simp at hm
  | Y :: r, h, X, hm => by
    rcases List.mem_cons.1 hm with rfl | hm
    · exact h.1
    · exact contX_spec h.2 X hm
theorem orX_spec {V : Type} {n : Nat} {x : V} {y : XK} {s : SSt} {more : List AV} : ∀ {l : List (LX V)}, orX n x y s more l → ∃ X ∈ l, X.x = y ∧ isValC n (X.c x) (X.f x) (absSt s X.sl X.sh more)
  | [], h => h.elim
  | X :: r, h => by
    simp only [orX] at h
    split at h
    · rename_i hx
      split at h
      · rcases h with h | h
        · exact ⟨X, List.mem_cons_self, sameX_eq hx, h⟩
        · obtain ⟨Y, h1, h2⟩ := orX_spec h
          exact ⟨Y, List.mem_cons_of_mem _ h1, h2⟩
      · exact ⟨X, List.mem_cons_self, sameX_eq hx, h⟩
    · obtain ⟨Y, h1, h2⟩ := orX_spec h
      exact ⟨Y, List.mem_cons_of_mem _ h1, h2⟩
theorem absSt_spec {C0 C : Cx} {n m base : Nat} {s : SSt} {a : Act} {w0 w : World} {sl : List Nat} {sh : List Sh} {more : List AV} {mv : List Value} {y : dens sh} {M2 : SH} {ids : List Nat} {bmore : List Nat} (h : absSt s sl sh more = some (y, M2, ids, upN 0 m ++ bmore)) (hR : SRel C n base s a w) (hm : Dens C more mv) (hL : LStep C0 C s.M base w0 w) (hat : ∀ b v loc, C0.at_ b v = some loc → v = 0 ∧ b < m) :
    ∃ C2 us, LStep C0 C2 (bookM (rws sh y) (bxs 0 sh y) True) base w0 w ∧ Slots n a sl us ∧ (∀ i v, mv[i]? = some v → us[sl.length + i]? = some v) ∧ Dens C2 (avs 0 (bns sh) sh y) us ∧ a.defers = [] := by
  unfold absSt at h
  split at h
  · rename_i hds
    have hds := isNil_spec hds
    have hdef : a.defers = [] := by have := hR.ds; rw [hds] at this; exact this.nil_inv
    split at h
    · rename_i ds hget
      obtain ⟨vs, hvs, hsl, hvl⟩ := getSl_spec hR.env hget
      have hall : Dens C (ds ++ more) (vs ++ mv) := by
        refine ⟨by rw [List.length_append, List.length_append, hvs.1, hm.1], fun i a u ha hu => ?_⟩
        by_cases hi : i < ds.length
        · rw [List.getElem?_append_left hi] at ha
          rw [List.getElem?_append_left (by rw [hvs.1]; exact hi)] at hu
          exact hvs.2 i a u ha hu
        · rw [List.getElem?_append_right (by omega)] at ha
          rw [List.getElem?_append_right (by rw [hvs.1]; omega), hvs.1] at hu
          exact hm.2 _ a u ha hu
      obtain ⟨C2, hS2, hi, hb, hbl, hD2⟩ := absorb_spec hR.mem h hall
      refine ⟨C2.only ids (upN 0 m ++ bmore), vs ++ mv, (hL.trans hS2.ls).only hi hb (fun b v loc hl => ?_) trivial, hsl.more hvl, fun i v hv => ?_, hD2, hdef⟩
      · obtain ⟨h1, h2⟩ := hat b v loc hl
        exact ⟨h1, by rw [List.getElem?_append_left (by rw [upN_len]; exact h2), upN_get, if_pos h2]; simp⟩
      · rw [List.getElem?_append_right (by omega), hvl, Nat.add_sub_cancel_left]; exact hv
    · cases h
  · cases h
noncomputable def goodP {V : Type} (n : Nat) (x : V) (ex : List (LX V)) (y : SX) (s : SSt) : Prop := match y with
  | .normal => orX n x .normal s [] ex
  | .exit j => orX n x (.exit j) s [] ex
  | .ret => orX n x .ret s [] ex
  | .panic d => orX n x .panic s [d] ex
  | .bad => False
noncomputable def allP {V : Type} (n : Nat) (x : V) (ex : List (LX V)) : List (SX × SSt) → Prop
  | [] => True
  | (y, s) :: r => (s.M.pc → goodP n x ex y s) ∧ allP n x ex r
noncomputable def GoodP (L : LFace) (x : dens L.sh) : SRS → Prop
  | some l => match sameL (bts L.sh) L.ex with
    | true => allP (nbx L.sh) x L.ex l
    | false => False
  | none => False
theorem allP_spec {V : Type} {n : Nat} {x : V} {ex : List (LX V)} : ∀ {l : List (SX × SSt)}, allP n x ex l → ∀ y s, (y, s) ∈ l → s.M.pc → goodP n x ex y s
  | [], _, y, s, hm => by simp at hm
  | (y0, s0) :: r, h, y, s, hm => by
    rcases List.mem_cons.1 hm with e | hm
    · cases e; exact h.1
    · exact allP_spec h.2 y s hm
theorem piece_law {P : Program} {n : Nat} {d : Code} {f : SSt → SRS} (hb : ∀ base, SoundR P n base d f) (L : LFace)
    (h : ∀ x, holds (L.pre x) → GoodP L x (f ⟨envSl L.sl (avs 0 (bns L.sh) L.sh x), bookM (rws L.sh x) (bxs 0 L.sh x) True, []⟩)) : LpOk P n d L := by
  intro base C x a w vs Q hpre hM hat hsl hD hdef hQ
  have hg := h x hpre
  cases he : f ⟨envSl L.sl (avs 0 (bns L.sh) L.sh x), bookM (rws L.sh x) (bxs 0 L.sh x) True, []⟩ with
  | none => rw [he] at hg; exact hg.elim
  | some rs =>
    rw [he] at hg
    simp only [GoodP] at hg
    split at hg
    · have hn : NBs rs := fun s hm hpc => (allP_spec hg _ s hm hpc).elim
      refine hb base _ C a w rs _ he hn ⟨hM, envSl_sat hsl hD, by rw [hdef]; exact .nil⟩ (fun y s C2 a2 w2 e hin hG hx => ?_)
      have hw := allP_spec hg y s hin hG.step.mem.pc
      have hL2 : LStep C C2 s.M base w w2 := hG.step.ls
      have out : ∀ (z : XK) (more : List AV) (mv : List Value), orX (nbx L.sh) x z s more L.ex → Dens C2 more mv → (∀ k us, (∀ i v, mv[i]? = some v → us[k + i]? = some v) → XKOk z k us e) → Q e a2 w2 := fun z more mv ho hmv hz => by
        obtain ⟨X, hX1, hX2, hX3⟩ := orX_spec ho
        obtain ⟨M2, ids, bmore, ha, hc⟩ := isValC_spec hX3
        obtain ⟨C3, us, k1, k2, k5, k3, k4⟩ := absSt_spec ha hG.rel hmv hL2 hat
        exact hQ X hX1 C3 a2 w2 us e hc k1 k2 k3 k4 (by rw [hX2]; exact hz _ us k5)
      cases y with
      | normal => obtain rfl : e = .normal := hx; exact out .normal [] [] hw (.nil _) (fun _ _ _ => rfl)
      | exit j => obtain rfl : e = .exit j := hx; exact out (.exit j) [] [] hw (.nil _) (fun _ _ _ => rfl)
      | ret => obtain rfl : e = .ret := hx; exact out .ret [] [] hw (.nil _) (fun _ _ _ => rfl)
      | panic d =>
        obtain ⟨v, rfl, hdv⟩ := hx
        exact out .panic [d] [v] hw (.cons hdv (.nil _)) (fun k us hus => ⟨v, hus 0 v rfl, rfl⟩)
      | bad => exact hw.elim
    · exact hg.elim
theorem loop_law {P : Program} {n : Nat} {b : Code} {f : SSt → SRS} (hb : ∀ base, SoundR P n base b f) (L : LFace) (id : Nat) (μ : dens L.sh → Nat)
    (h : ∀ x, holds (L.pre x) → GoodL id L μ x (f ⟨envSl L.sl (avs 0 (bns L.sh) L.sh x), bookM (rws L.sh x) (bxs 0 L.sh x) True, []⟩)) : LpOk P n (.block id (.loop b)) L := by
  intro base C x0 a0 w0 vs0 Q hpre0 hM0 hat0 hsl0 hD0 hdef0 hQ
  refine wp_block ?_
  refine XW.c_loop (G := dens L.sh) (fun x a w => ∃ C' vs, holds (L.pre x) ∧ LStep C C' (bookM (rws L.sh x) (bxs 0 L.sh x) True) base w0 w ∧ Slots n a L.sl vs ∧ Dens C' (avs 0 (bns L.sh) L.sh x) vs ∧ a.defers = [] ∧ ∀ X ∈ L.ex, holds (X.c x) → holds (X.c x0) ∧ X.f x = X.f x0) μ x0
    ⟨C, vs0, hpre0, ⟨fun _ _ _ h => h, hM0, XW.Ext.refl _, Below.refl _ _, fun k _ hn => ⟨rfl, hn, fun _ _ => rfl⟩⟩, hsl0, hD0, hdef0, fun X _ hc => ⟨hc, rfl⟩⟩ ?_
  rintro x a w ⟨C', vs, hpre, hL, hsl, hD, hdef, hX⟩
  have hg := h x hpre
  cases he : f ⟨envSl L.sl (avs 0 (bns L.sh) L.sh x), bookM (rws L.sh x) (bxs 0 L.sh x) True, []⟩ with
  | none => rw [he] at hg; exact hg.elim
  | some rs =>
    rw [he] at hg
    simp only [GoodL] at hg
    split at hg
    · rename_i hsb
      have hn : NBs rs := fun s hm hpc => (allW_spec hg _ s hm hpc).elim
      refine hb base _ C' a w rs _ he hn ⟨hL.mem, envSl_sat hsl hD, by rw [hdef]; exact .nil⟩ (fun y s C2 a2 w2 e hin hG hx => ?_)
      have hw := allW_spec hg y s hin hG.step.mem.pc
      have hL2 : LStep C C2 s.M base w0 w2 := hL.trans hG.step.ls
      -- out by one of the exits
      have out : ∀ (z : XK) (e' : Exit) (more : List AV) (mv : List Value), orX (nbx L.sh) x z s more L.ex → Dens C2 more mv → (∀ k us, (∀ i v, mv[i]? = some v → us[k + i]? = some v) → XKOk z k us e') → Q e' a2 w2 := fun z e' more mv ho hmv hz => by
        obtain ⟨X, hX1, hX2, hX3⟩ := orX_spec ho
        obtain ⟨M2, ids, bmore, ha, hc⟩ := isValC_spec hX3
        obtain ⟨C3, us, k1, k2, k5, k3, k4⟩ := absSt_spec ha hG.rel hmv hL2 hat0
        obtain ⟨q1, q2⟩ := hX X hX1 hc
        rw [q2] at k1 k3
        exact hQ X hX1 C3 a2 w2 us e' q1 k1 k2 k3 k4 (by rw [hX2]; exact hz _ us k5)
      cases y with
      | normal =>
        obtain rfl : e = .normal := hx
        have hw : goodN L μ x (absSt s L.sl L.sh []) := hw
        cases ha : absSt s L.sl L.sh [] with
        | none => rw [ha] at hw; exact hw.elim
        | some p =>
          obtain ⟨x', M2, ids, bids⟩ := p
          rw [ha] at hw
          simp only [goodN] at hw
          split at hw
          · rename_i hbd
            obtain ⟨h1, h2, h3⟩ := hw
            rw [eqNs_spec hbd, show upN 0 (nbx L.sh) = upN 0 (nbx L.sh) ++ [] from (List.append_nil _).symm] at ha
            obtain ⟨C3, us, k1, k2, _, k3, k4⟩ := absSt_spec ha hG.rel (.nil _) hL2 hat0
            exact ⟨x', h2, C3, us, h1, k1, k2, k3, k4, fun X hX1 hc => by
              obtain ⟨g1, g2⟩ := contX_spec h3 X hX1 hc
              obtain ⟨g3, g4⟩ := hX X hX1 g1
              exact ⟨g3, g2.trans g4⟩⟩
          · exact hw.elim
      | exit j =>
        obtain rfl : e = .exit j := hx
        simp only [goodW] at hw
        show Exit.inBlock id Q (.exit j) a2 w2
        simp only [Exit.inBlock]
        split at hw
        · rename_i hj
          rw [if_pos (Nat.eq_of_beq_eq_true hj)]
          exact out .normal .normal [] [] hw (.nil _) (fun _ _ _ => rfl)
        · rename_i hj
          rw [if_neg (fun e => by subst e; simp at hj)]
          exact out (.exit j) (.exit j) [] [] hw (.nil _) (fun _ _ _ => rfl)
      | ret =>
        obtain rfl : e = .ret := hx
        exact out .ret .ret [] [] hw (.nil _) (fun _ _ _ => rfl)
      | panic d =>
        obtain ⟨v, rfl, hdv⟩ := hx
        exact out .panic _ [d] [v] hw (.cons hdv (.nil _)) (fun k us hus => ⟨v, hus 0 v rfl, rfl⟩)
      | bad => exact hw.elim
    · exact hg.elim
end Go.EV
