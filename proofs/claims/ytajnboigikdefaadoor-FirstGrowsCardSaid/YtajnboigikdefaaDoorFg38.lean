/- Texts that the proof of a law rests on, put together: part 38. -/
import Derived.Test.YtajnboigikdefaaDoorFg37
namespace Go.EV
open Go Go.RowKit
open Go.XW (Imm Fits DD RepV SL LeafOk leafB Own Apart addI All2)
set_option linter.unusedVariables false
set_option linter.unusedSimpArgs false
def scaT : Ty → Bool
  | .int _ => true
  | .bool => true
  | .str => true
  | .flt _ => true
  | _ => false
def scaL : List Sh → Bool
  | [] => true
  | .s (.v t) :: r => scaT t && scaL r
  | _ => false
def plane0 : Sh0 → Bool
  | .v _ => true
  | .p _ => true
  | .clo _ _ => true
  | _ => false
def planeL : List Sh → Bool
  | [] => true
  | .s a :: r => plane0 a && planeL r
  | _ => false
theorem plane0_rw {a : Sh0} (h : plane0 a = true) (x : a.den) : a.rw x = [] := by
  cases a <;> first | rfl | cases h
theorem planeL_rws : ∀ (l : List Sh) (x : dens l), planeL l = true → rws l x = [] ∧ bts l = []
  | [], _, _ => ⟨rfl, rfl⟩
  | [s], x, h => by
    cases s with
    | s a =>
      simp only [planeL, Bool.and_eq_true] at h
      exact ⟨plane0_rw h.1 x, by cases a <;> rfl⟩
    | _ => cases h
  | s :: u :: r, x, h => by
    cases s with
    | s a =>
      simp only [planeL, Bool.and_eq_true] at h
      obtain ⟨h1, h2⟩ := planeL_rws (u :: r) x.2 h.2
      refine ⟨?_, ?_⟩
      · show a.rw x.1 ++ rws (u :: r) x.2 = []
        rw [plane0_rw h.1, h1]; rfl
      · show (Sh.s a).bt ++ bts (u :: r) = []
        rw [h2]; cases a <;> rfl
    | _ => cases h
theorem sca_den {C D : Cx} {t : Ty} (h : scaT t = true) {x : t.den} {u : Value} (hd : Den C (t.arg x) u) : Den D (t.arg x) u := by
  cases t with
  | int k => cases sym_inv (show Den C (.sym (.int k x)) u from hd); exact .sym (.int _ _)
  | bool => cases sym_inv (show Den C (.sym (.bool x)) u from hd); exact .sym (.bool _)
  | str => cases sym_inv (show Den C (.sym (.str x)) u from hd); exact .sym (.str _)
  | flt k => cases sym_inv (show Den C (.sym (.flt k x)) u from hd); exact .sym (.flt _ _)
  | _ => cases h
theorem scaL_den {C D : Cx} {k0 k0' : Nat} {bs0 bs0' : List Nat} : ∀ (l : List Sh) (x : dens l) (k k' : Nat) (bs bs' : List Nat) {us : List Value}, scaL l = true → Dens C (avsG k0 bs0 k bs l x) us → Dens D (avsG k0' bs0' k' bs' l x) us
  | [], x, k, k', bs, bs', us, _, h => by rw [h.nil_inv]; exact .nil _
  | [s], x, k, k', bs, bs', us, hs, h => by
    cases s with
    | s a => cases a with
      | v t =>
        simp only [scaL, Bool.and_eq_true] at hs
        obtain ⟨u, us', rfl, h1, h2⟩ := h.cons_inv
        rw [h2.nil_inv]
        exact .cons (sca_den hs.1 h1) (.nil _)
      | _ => cases hs
    | _ => cases hs
  | s :: v :: r, x, k, k', bs, bs', us, hs, h => by
    cases s with
    | s a => cases a with
      | v t =>
        simp only [scaL, Bool.and_eq_true] at hs
        obtain ⟨u, us', rfl, h1, h2⟩ := h.cons_inv
        exact .cons (sca_den hs.1 h1) (scaL_den (v :: r) x.2 _ _ _ _ hs.2 h2)
      | _ => cases hs
    | _ => cases hs
def allB {V : Type} : List (FO V) → Bool
  | [] => true
  | X :: r => (!X.pan && scaL X.sh) && allB r
theorem allB_spec {V : Type} {X : FO V} : ∀ {l : List (FO V)}, allB l = true → X ∈ l → X.pan = false ∧ scaL X.sh = true
  | [], _, hm => by simp at hm
  | Y :: r, h, hm => by
    simp only [allB, Bool.and_eq_true, Bool.not_eq_true'] at h
    rcases List.mem_cons.1 hm with rfl | hm
    · exact h.1
    · exact allB_spec h.2 hm
noncomputable def outsB (M : SH) (p : Prop) {V : Type} (x : V) : List (FO V) → List (SC × SH)
  | [] => []
  | X :: r => (.val (oneT (avs 0 [] X.sh (X.f x))), { M with pc := pcA p (X.c x) }) :: outsB M p x r
theorem outsB_mem {M : SH} {p : Prop} {V : Type} {x : V} {X : FO V} : ∀ {l : List (FO V)}, X ∈ l → (SC.val (oneT (avs 0 [] X.sh (X.f x))), ({ M with pc := pcA p (X.c x) } : SH)) ∈ outsB M p x l
  | [], h => by simp at h
  | Y :: r, h => by
    rcases List.mem_cons.1 h with rfl | h
    · exact List.mem_cons_self
    · exact List.mem_cons_of_mem _ (outsB_mem h)
noncomputable def entryB (S : Face) (args : List AV) (M : SH) : Option (List (SC × SH)) := match planeL S.ps, allB S.ex with
  | true, true => match absorb M S.ps args with
    | some (x, _, _, _) => match S.pre x with
      | none => some (outsB M M.pc x S.ex)
      | some p => some ((.bad, withP M (¬ p)) :: outsB M (M.pc ∧ p) x S.ex)
    | none => none
  | _, _ => none
theorem entryB_ok {P : Program} {S : Face} (h : FnOk P S) {base : Nat} {args : List AV} {M : SH} {rs : List (SC × SH)} (he : entryB S args M = some rs) (hn : NBc rs) {C : Cx} {w : World} {vs : List Value} (hM : SMem C M base w) (hD : Dens C args vs) :
    Calls P S.f vs.toArray w (fun e w' => ∃ r ∈ rs, SCallOk C M base w r e w') := by
  unfold entryB at he
  split at he
  · rename_i hpl hal
    split at he
    · rename_i x M2 ids bids hx
      obtain ⟨C2, hS2, hi, hb, hbl, hD2⟩ := absorb_spec hM hx hD
      obtain ⟨hr0, hb0⟩ := planeL_rws S.ps x hpl
      have hbids : bids = [] := List.eq_nil_of_length_eq_zero (by rw [hbl, hb0]; rfl)
      have hids : ids = [] := by
        have := hi.len
        rw [hr0] at this
        exact List.eq_nil_of_length_eq_zero this.symm
      have fin : ∀ (p : Prop), p → holds (S.pre x) → (∀ r, r ∈ outsB M p x S.ex → r ∈ rs) → Calls P S.f vs.toArray w (fun e w' => ∃ r ∈ rs, SCallOk C M base w r e w') := fun p hp hpre hin => by
        refine (h base (C2.only ids bids) w vs x (hS2.mem.only hi hb trivial) (fun b v loc hl => ?_) hD2 hpre).mono fun e w' he => ?_
        · obtain ⟨e, c, h1, h2⟩ := Cx.only_at hl
          exact ⟨e, by show b < (bts S.ps).length; rw [← hbl]; exact (List.getElem?_eq_some_iff.1 h1).1⟩
        · obtain ⟨X, hX, hc, C', us, hL, hus, hend⟩ := he
          obtain ⟨hpan, hsc⟩ := allB_spec hal hX
          have hfree : ∀ k, Free (C2.only ids bids) k := fun k => by
            subst hbids; subst hids
            refine ⟨fun b v loc hl => ?_, fun r v hv => ?_⟩
            · obtain ⟨_, c, h1, _⟩ := Cx.only_at hl
              simp at h1
            · simp [Cx.only] at hv
          have hbel : Below w.heap.size w w' := ⟨hL.below.os, hL.below.tape, hL.below.output, hL.below.size, fun k hk => (hL.rest k hk (hfree k)).1⟩
          have hS := hM.drew hbel
          have hpc : pcA p (X.c x) := pcA_mk hp hc
          refine ⟨_, hin _ (outsB_mem hX), C, hS.trans (hS.mem.cond hpc), ?_⟩
          rw [hpan] at hend
          have hn0 : nbx S.ps = 0 := by show (bts S.ps).length = 0; rw [hb0]; rfl
          rw [hn0] at hend
          exact ⟨_, hend, oneT_den (scaL_den X.sh (X.f x) _ _ _ _ hsc hus)⟩
      cases hp : S.pre x with
      | none =>
        rw [hp] at he; cases he
        exact fin M.pc hM.pc (by rw [hp]; trivial) (fun r hr => hr)
      | some p =>
        rw [hp] at he; cases he
        have hpp : p := Classical.byContradiction fun hnp => hn (withP M (¬ p)) List.mem_cons_self ⟨hM.pc, hnp⟩
        exact fin (M.pc ∧ p) ⟨hM.pc, hpp⟩ (by rw [hp]; exact hpp) (fun r hr => List.mem_cons_of_mem _ hr)
    · cases he
  · cases he
noncomputable def cfB : List Face → SCF → SCF
  | [], cf, f, args, M => cf f args M
  | S :: r, cf, f, args, M => match Nat.beq S.f f with
    | true => match entryB S args M with
      | some l => some l
      | none => cfB r cf f args M
    | false => cfB r cf f args M
theorem cfB_ok {P : Program} {cf : SCF} (hc : ∀ base, SCFok P base cf) : ∀ {l : List Face}, (∀ S ∈ l, FnOk P S) → ∀ base, SCFok P base (cfB l cf)
  | [], _, base => fun f args M rs h => hc base f args M rs h
  | S :: r, hl, base => fun f args M rs h hn C w vs hM hD => by
    have ih := cfB_ok hc (fun T hT => hl T (List.mem_cons_of_mem _ hT)) base
    simp only [cfB] at h
    split at h
    · rename_i hb
      have e := Nat.eq_of_beq_eq_true hb
      subst e
      split at h
      · rename_i l he
        cases h
        exact entryB_ok (hl S List.mem_cons_self) he hn hM hD
      · exact ih _ args M rs h hn C w vs hM hD
    · exact ih f args M rs h hn C w vs hM hD
end Go.EV
