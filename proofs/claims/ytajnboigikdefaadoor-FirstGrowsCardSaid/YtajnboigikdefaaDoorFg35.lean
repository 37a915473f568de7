/- Texts that the proof of a law rests on, put together: part 35. -/
import Derived.Test.YtajnboigikdefaaDoorFg34
namespace Go.EV
open Go Go.RowKit
open Go.XW (Imm Fits DD RepV SL LeafOk leafB Own Apart addI All2)
set_option linter.unusedVariables false
set_option linter.unusedSimpArgs false
@[reducible] def denL : List Ty → Type
  | [] => Unit
  | [t] => t.den
  | t :: u :: r => t.den × denL (u :: r)
inductive Sh0 where
  /-- a datum -/
  | v (t : Ty)
  /-- a pointer to a datum that is only read -/
  | p (t : Ty)
  /-- a closure; what it has captured are data that are only read -/
  | clo (f : FuncId) (l : List Ty)
  /-- a row of the call's own -/
  | row (t : Ty) (T : TypeId)
  /-- whatever it is: it is used no more -/
  | un
  /-- an interface that holds a struct without fields, of that type -/
  | k (T : TypeId)
  /-- the pointer to nothing -/
  | np
@[reducible] def Sh0.den : Sh0 → Type
  | .v t => t.den
  | .p t => t.den
  | .clo _ l => denL l
  | .row t _ => List t.den
  | .un => Unit
  | .k _ => Unit
  | .np => Unit
@[reducible] def dens0 : List Sh0 → Type
  | [] => Unit
  | [s] => s.den
  | s :: u :: r => s.den × dens0 (u :: r)
def Ty.isAgg : Ty → Bool
  | .pr .. => true
  | .tree => true
  | _ => false
def Ty.arg (t : Ty) (x : t.den) : AV := match t.isAgg with
  | true => .agg (t.av x)
  | false => match t.av x with
    | [d] => d
    | _ => .hole
def dpsL : (l : List Ty) → denL l → List AV
  | [], _ => []
  | [t], x => [.sym (.dp t x 0)]
  | t :: u :: r, x => .sym (.dp t x.1 0) :: dpsL (u :: r) x.2
def Sh0.av (k : Nat) : (s : Sh0) → s.den → AV
  | .v t, x => t.arg x
  | .p t, x => .sym (.dp t x 0)
  | .clo f l, x => .clo (.func f) [] (dpsL l x)
  | .row _ _, _ => .sym (.rs k)
  | .un, _ => .hole
  | .k T, _ => .iface T (.agg [])
  | .np, _ => .lit (.pointer none)
def Sh0.rw : (s : Sh0) → s.den → List Row
  | .row t T, xs => [⟨t, T, xs, none, false⟩]
  | _, _ => []
def Sh0.nx (k : Nat) : Sh0 → Nat
  | .row _ _ => k + 1
  | _ => k
def avs0 : Nat → (l : List Sh0) → dens0 l → List AV
  | _, [], _ => []
  | k, [s], x => [s.av k x]
  | k, s :: u :: r, x => s.av k x.1 :: avs0 (s.nx k) (u :: r) x.2
def rws0 : (l : List Sh0) → dens0 l → List Row
  | [], _ => []
  | [s], x => s.rw x
  | s :: u :: r, x => s.rw x.1 ++ rws0 (u :: r) x.2
def inFz (b : Nat) : List (Nat × Nat) → Bool
  | [] => false
  | (c, _) :: r => match Nat.beq c b with
    | true => true
    | false => inFz b r
theorem inFz_no {b : Nat} : ∀ {l : List (Nat × Nat)}, inFz b l = false → ∀ s, (b, s) ∉ l
  | [], _, s, hm => by simp at hm
  | (c, u) :: r, h, s, hm => by
    simp only [inFz] at h
    split at h
    · cases h
    · rename_i hb
      rcases List.mem_cons.1 hm with e | hm
      · cases e; simp at hb
      · exact inFz_no h s hm
theorem inFz_yes {b : Nat} : ∀ {l : List (Nat × Nat)}, inFz b l = true → ∃ s, (b, s) ∈ l
  | [], h => by simp [inFz] at h
  | (c, u) :: r, h => by
    simp only [inFz] at h
    split at h
    · rename_i hb
      have := Nat.eq_of_beq_eq_true hb
      subst this
      exact ⟨u, List.mem_cons_self⟩
    · obtain ⟨s, hs⟩ := inFz_yes h
      exact ⟨s, List.mem_cons_of_mem _ hs⟩
noncomputable def frzB (M : SH) (b : Nat) : SH := match inFz b M.fz with
  | true => M
  | false => match M.H.get b with
    | some B => match verN B.vers 0 with
      | some _ => { M with fz := (b, B.stamp) :: M.fz }
      | none => M
    | none => M
noncomputable def frzA (M : SH) : AV → SH
  | .ptr b 0 0 => frzB M b
  | _ => M
noncomputable def frzL (M : SH) : List AV → SH
  | [] => M
  | d :: r => frzL (frzA M d) r
noncomputable def shutB (M : SH) : AV → SH
  | .ptr b 0 0 => match M.H.get b with
    | some B => shutL M B.cells
    | none => M
  | _ => M
noncomputable def shutBs (M : SH) : List AV → SH
  | [] => M
  | d :: r => shutBs (shutB M d) r
noncomputable def tellA0 (M : SH) (s : Sh0) (d : AV) : SH := match s with
  | .v _ => shutD M d
  | .p _ => frzA (shutB M d) d
  | .clo _ _ => match d with
    | .clo _ _ l => frzL (shutBs M l) l
    | _ => M
  | .row _ _ => M
  | .un => M
  | .k _ => M
  | .np => M
noncomputable def tellL0 (M : SH) : List Sh0 → List AV → SH
  | s :: r, d :: q => tellL0 (tellA0 M s d) r q
  | _, _ => M
section
variable {C : Cx} {M : SH} {base : Nat} {w : World}
theorem frzB_spec (h : SMem C M base w) (b : Nat) : Told C M (frzB M b) base w := by
  unfold frzB
  split
  · exact .refl h
  · rename_i hf
    split
    · rename_i B hB
      split
      · rename_i n hv
        obtain ⟨loc, hl, _⟩ := (h.mem.blk b B hB).2.dom 0 n (verN_mem hv)
        exact ⟨_, h.frz hB hl (inFz_no hf)⟩
      · exact .refl h
    · exact .refl h
theorem frzA_spec (h : SMem C M base w) (d : AV) : Told C M (frzA M d) base w := by
  unfold frzA
  split
  · exact frzB_spec h _
  · exact .refl h
theorem frzL_spec : ∀ (l : List AV) {C : Cx} {M : SH}, SMem C M base w → Told C M (frzL M l) base w
  | [], C, M, h => .refl h
  | d :: r, C, M, h => by
    obtain ⟨C1, h1⟩ := frzA_spec h d
    obtain ⟨C2, h2⟩ := frzL_spec r h1.mem
    exact ⟨C2, h1.trans h2⟩
theorem shutB_spec (h : SMem C M base w) (d : AV) : Told C M (shutB M d) base w := by
  unfold shutB
  split
  · split
    · exact shutL_spec _ h
    · exact .refl h
  · exact .refl h
theorem shutBs_spec : ∀ (l : List AV) {C : Cx} {M : SH}, SMem C M base w → Told C M (shutBs M l) base w
  | [], C, M, h => .refl h
  | d :: r, C, M, h => by
    obtain ⟨C1, h1⟩ := shutB_spec h d
    obtain ⟨C2, h2⟩ := shutBs_spec r h1.mem
    exact ⟨C2, h1.trans h2⟩
theorem tellA0_spec (h : SMem C M base w) (s : Sh0) (d : AV) : Told C M (tellA0 M s d) base w := by
  unfold tellA0
  split
  · exact shutD_spec h d
  · obtain ⟨C1, h1⟩ := shutB_spec h d
    obtain ⟨C2, h2⟩ := frzA_spec h1.mem d
    exact ⟨C2, h1.trans h2⟩
  · split
    · rename_i l
      obtain ⟨C1, h1⟩ := shutBs_spec l h
      obtain ⟨C2, h2⟩ := frzL_spec l h1.mem
      exact ⟨C2, h1.trans h2⟩
    · exact .refl h
  · exact .refl h
  · exact .refl h
  · exact .refl h
  · exact .refl h
theorem tellL0_spec : ∀ (l : List Sh0) (ds : List AV) {C : Cx} {M : SH}, SMem C M base w → Told C M (tellL0 M l ds) base w
  | [], ds, C, M, h => by unfold tellL0; exact .refl h
  | s :: r, [], C, M, h => by unfold tellL0; exact .refl h
  | s :: r, d :: q, C, M, h => by
    obtain ⟨C1, h1⟩ := tellA0_spec h s d
    obtain ⟨C2, h2⟩ := tellL0_spec r q h1.mem
    exact ⟨C2, h1.trans h2⟩
end
def nilL0 (M : SH) : List Sh0 → List AV → SH × List AV
  | s :: r, d :: q => match s, isNilA d with
    | .row t T, true => let p := nilL0 (newR M t T [] none).2 r q
      (p.1, (newR M t T [] none).1 :: p.2)
    | _, _ => let p := nilL0 M r q
      (p.1, d :: p.2)
  | _, _ => (M, [])
theorem nilL0_spec {base : Nat} {w : World} : ∀ (l : List Sh0) (ds : List AV) {C : Cx} {M : SH}, SMem C M base w → l.length = ds.length → ∃ C', SStep C C' M (nilL0 M l ds).1 base w w ∧ ∀ vs, Dens C ds vs → Dens C' (nilL0 M l ds).2 vs
  | [], [], C, M, h, _ => ⟨C, SStep.refl h, fun _ hd => hd⟩
  | [], _ :: _, C, M, h, hl => by simp at hl
  | _ :: _, [], C, M, h, hl => by simp at hl
  | s :: r, d :: q, C, M, h, hl => by
    simp only [nilL0]
    split
    · rename_i t T hn
      have e : ∀ C u, Den C d u → u = .slice none 0 0 := fun C u h1 => by
        unfold isNilA at hn
        split at hn
        · cases h1; rfl
        · cases hn
      obtain ⟨C1, hS1, hD1⟩ := newRow_of (t := t) (T := T) (xs := []) (cl := none) h (Own.nil base C.unk.imm w T t.cells t.dd) (fun n hn => by cases hn) ⟨rfl, rfl, rfl, Nat.le_refl _, fun _ _ _ => rfl⟩ (fun g hg => by simp [Value.ownBlock] at hg)
      obtain ⟨C2, hS2, hD2⟩ := nilL0_spec r q hS1.mem (by simpa using hl)
      refine ⟨C2, hS1.trans hS2, fun vs hd => ?_⟩
      obtain ⟨u, us, rfl, h1, h2⟩ := hd.cons_inv
      rw [e _ u h1]
      exact .cons (hD1.smono hS2.ext) (hD2 us (h2.smono hS1.ext))
    · obtain ⟨C2, hS2, hD2⟩ := nilL0_spec r q h (by simpa using hl)
      refine ⟨C2, hS2, fun vs hd => ?_⟩
      obtain ⟨u, us, rfl, h1, h2⟩ := hd.cons_inv
      exact .cons (h1.smono hS2.ext) (hD2 us h2)
def castD {a b : Ty} (h : a = b) (x : a.den) : b.den := h ▸ x
def decV (M : SH) (t : Ty) (d : AV) : Option t.den := match t.isAgg with
  | true => match d with
    | .agg l => match ofAv M t l with
      | some (x, []) => some x
      | _ => none
    | _ => none
  | false => match ofAv M t [d] with
    | some (x, []) => some x
    | _ => none
noncomputable def decP (M : SH) (t : Ty) (d : AV) : Option t.den := match d with
  | .sym (.dp t' y 0) => if h : t' = t then some (castD h y) else none
  | .ptr b 0 0 => match inFz b M.fz with
    | true => match M.H.get b with
      | some B => match verN B.vers 0 with
        | some n => match Nat.beq n B.cells.length, ofAv M t B.cells with
          | true, some (x, []) => some x
          | _, _ => none
        | none => none
      | none => none
    | false => none
  | _ => none
noncomputable def decPs (M : SH) : (l : List Ty) → List AV → Option (denL l)
  | [], [] => some ()
  | [t], [d] => decP M t d
  | t :: u :: r, d :: q => match decP M t d, decPs M (u :: r) q with
    | some x, some y => some (x, y)
    | _, _ => none
  | _, _ => none
noncomputable def dec0 (M : SH) : (s : Sh0) → AV → Option s.den
  | .v t, d => decV M t d
  | .p t, d => decP M t d
  | .clo f l, d => match d with
    | .clo (.func f') [] caps => match Nat.beq f' f with
      | true => decPs M l caps
      | false => none
    | _ => none
  | .row t T, d => match asR M d with
    | some (_, R) => match Nat.beq R.T T with
      | true => if h : R.t = t then some (castL h R.xs) else none
      | false => none
    | none => none
  | .un, _ => some ()
  | .k T, d => match d with
    | .iface T' (.agg []) => match Nat.beq T' T with
      | true => some ()
      | false => none
    | _ => none
  | .np, d => match d with
    | .lit (.pointer none) => some ()
    | _ => none
noncomputable def decs0 (M : SH) : (l : List Sh0) → List AV → Option (dens0 l)
  | [], [] => some ()
  | [s], [d] => dec0 M s d
  | s :: u :: r, d :: q => match dec0 M s d, decs0 M (u :: r) q with
    | some x, some y => some (x, y)
    | _, _ => none
  | _, _ => none
def idsL0 : List Sh0 → List AV → List Nat
  | .row _ _ :: r, .sym (.rs k) :: q => k :: idsL0 r q
  | _ :: r, _ :: q => idsL0 r q
  | _, _ => []
def nodN : List Nat → Bool
  | [] => true
  | x :: r => !(XW.memN x r) && nodN r
theorem nodN_spec : ∀ {l : List Nat}, nodN l = true → l.Nodup
  | [], _ => List.nodup_nil
  | x :: r, h => by
    simp only [nodN, Bool.and_eq_true, Bool.not_eq_true'] at h
    refine List.nodup_cons.2 ⟨fun hm => ?_, nodN_spec h.2⟩
    rw [(XW.memN_iff _ _).2 hm] at h; cases h.1
section
variable {C : Cx} {M : SH} {base : Nat} {w : World}
theorem arg_den {t : Ty} {x : t.den} {u : Value} (h : match t.isAgg with | true => ∃ us : List Value, u = .agg us.toArray ∧ All2 C.unk.imm (t.dd x) us | false => All2 C.unk.imm (t.dd x) [u]) : Den C (t.arg x) u := by
  unfold Ty.arg
  cases ha : t.isAgg with
  | true =>
    rw [ha] at h
    obtain ⟨us, rfl, h⟩ := h
    have := av_of t x h
    exact .agg this.1 this.2
  | false =>
    rw [ha] at h
    have := av_of t x h
    simp only
    split
    · rename_i d hd
      rw [hd] at this
      obtain ⟨u', e, h2⟩ := one_inv this
      cases e; exact h2
    · exact .hole _
theorem arg_inv {t : Ty} {x : t.den} {u : Value} (h : Den C (t.arg x) u) : match t.isAgg with | true => ∃ us : List Value, u = .agg us.toArray ∧ All2 C.unk.imm (t.dd x) us | false => t.cells = 1 → All2 C.unk.imm (t.dd x) [u] := by
  unfold Ty.arg at h
  cases ha : t.isAgg with
  | true =>
    rw [ha] at h
    cases h with
    | @agg _ vs h1 h2 => exact ⟨vs, rfl, av_to t x ⟨h1, h2⟩⟩
  | false =>
    rw [ha] at h
    intro hc
    simp only at h
    split at h
    · rename_i d hd
      exact av_to t x (by rw [hd]; exact .cons h (.nil C))
    · rename_i hne
      have hl := t.av_length x
      rw [hc] at hl
      exfalso
      cases hav : t.av x with
      | nil => rw [hav] at hl; simp at hl
      | cons d r =>
        cases r with
        | nil => exact hne d hav
        | cons e r => rw [hav] at hl; simp at hl
theorem decV_spec (hM : SMem C M base w) {t : Ty} {d : AV} {x : t.den} {u : Value} (h : decV M t d = some x) (hd : Den C d u) : Den C (t.arg x) u := by
  refine arg_den ?_
  unfold decV at h
  split at h
  · rename_i ha
    split at h
    · rename_i l
      split at h
      · rename_i x' hx
        cases h
        cases hd with
        | @agg _ vs h1 h2 =>
          obtain ⟨a, b, e1, e2, e3⟩ := ofAv_spec hM t l x [] vs hx ⟨h1, h2⟩
          rw [e3.nil_inv, List.append_nil] at e1
          exact ⟨vs, rfl, by rw [e1]; exact e2⟩
      · cases h
    · cases h
  · rename_i ha
    split at h
    · rename_i x' hx
      cases h
      obtain ⟨a, b, e1, e2, e3⟩ := ofAv_spec hM t [d] x [] [u] hx (.cons hd (.nil C))
      rw [e3.nil_inv, List.append_nil] at e1
      show All2 C.unk.imm (t.dd x) [u]
      rw [e1]; exact e2
    · cases h
theorem decP_spec (hM : SMem C M base w) {t : Ty} {d : AV} {x : t.den} {u : Value} (h : decP M t d = some x) (hd : Den C d u) : Den C (.sym (.dp t x 0)) u := by
  unfold decP at h
  split at h
  · split at h
    · rename_i t' y ht
      cases h
      subst ht
      exact hd
    · cases h
  · rename_i b
    split at h
    · rename_i hf
      split at h
      · rename_i B hB
        split at h
        · rename_i n hv
          split at h
          · rename_i x' hn hx
            cases h
            obtain ⟨s, hs⟩ := inFz_yes hf
            obtain ⟨loc, hl, hi⟩ := hM.fzi b s hs
            cases hd with
            | @ptr _ _ _ loc' hl' hlo =>
              rw [hl] at hl'; cases hl'
              obtain ⟨e0, e00⟩ := (hM.mem.blk b B hB).2.at0 loc hl
              have en := Nat.eq_of_beq_eq_true hn
              obtain ⟨us, h1, h2, h3, _⟩ := hM.mem.read hB (verN_mem hv) hl (i := 0) (k := n) (by omega) (by omega)
              rw [List.drop_zero, en, List.take_length] at h1
              obtain ⟨a, b', e1, e2, e3⟩ := ofAv_spec hM t B.cells x [] us hx h1
              rw [e3.nil_inv, List.append_nil] at e1
              have hadd : (loc.ad 0) = (loc.ad 0).add 0 := (XW.add_0 _).symm
              rw [hadd]
              refine .sym (.dp fun j q hq => ?_)
              have hb := e2.back
              have hj : j < a.length := by rw [hb.1]; exact (List.getElem?_eq_some_iff.1 hq).1
              have hu : us[j]? = some a[j] := by rw [e1]; exact List.getElem?_eq_getElem hj
              refine ⟨a[j], hi _ _ ?_ (h3 j _ hu), hb.2 j q _ hq (List.getElem?_eq_getElem hj)⟩
              unfold Addr.add Loc.ad
              split <;> rfl
          · cases h
        · cases h
      · cases h
    · cases h
  · cases h
theorem decPs_spec (hM : SMem C M base w) : ∀ (l : List Ty) (ds : List AV) (x : denL l) (us : List Value), decPs M l ds = some x → Dens C ds us → Dens C (dpsL l x) us
  | [], [], x, us, h, hd => hd
  | [], _ :: _, x, us, h, hd => by simp [decPs] at h
  | [t], [], x, us, h, hd => by simp [decPs] at h
  | [t], [d], x, us, h, hd => by
    obtain ⟨u, rfl, h1⟩ := one_inv hd
    exact .cons (decP_spec hM h h1) (.nil C)
  | [t], _ :: _ :: _, x, us, h, hd => by simp [decPs] at h
  | t :: u :: r, [], x, us, h, hd => by simp [decPs] at h
  | t :: u :: r, d :: q, x, us, h, hd => by
    obtain ⟨v, vs, rfl, h1, h2⟩ := hd.cons_inv
    simp only [decPs] at h
    split at h
    · rename_i x1 x2 e1 e2
      cases h
      exact .cons (decP_spec hM e1 h1) (decPs_spec hM (u :: r) q x2 vs e2 h2)
    · cases h
theorem arg_mono {C' : Cx} (hI : XW.Ext C.unk.imm C'.unk.imm) {t : Ty} {x : t.den} {u : Value} (h : Den C (t.arg x) u) : Den C' (t.arg x) u := by
  have hm : ∀ us, All2 C.unk.imm (t.dd x) us → All2 C'.unk.imm (t.dd x) us := fun us h => XW.All2.of h.back.1 (fun i d u hd hu => (h.back.2 i d u hd hu).mono hI)
  by_cases hc : t.isAgg = false → t.cells = 1
  · have h2 := arg_inv h
    refine arg_den ?_
    cases ha : t.isAgg with
    | true => rw [ha] at h2; obtain ⟨us, e, h3⟩ := h2; exact ⟨us, e, hm us h3⟩
    | false => rw [ha] at h2; exact hm _ (h2 (hc ha))
  · exfalso
    apply hc
    intro ha
    cases t <;> first | rfl | cases ha
theorem dp_mono {C' : Cx} (hI : XW.Ext C.unk.imm C'.unk.imm) {t : Ty} {x : t.den} {off : Nat} {u : Value} (h : Den C (.sym (.dp t x off)) u) : Den C' (.sym (.dp t x off)) u := by
  obtain ⟨ad, rfl, h1⟩ := dp_out h
  exact .sym (.dp fun j q hq => let ⟨v, h2, h3⟩ := h1 j q hq; ⟨v, hI _ _ h2, h3.mono hI⟩)
theorem dps_mono {C' : Cx} (hI : XW.Ext C.unk.imm C'.unk.imm) : ∀ (l : List Ty) (x : denL l) (us : List Value), Dens C (dpsL l x) us → Dens C' (dpsL l x) us
  | [], x, us, h => by rw [h.nil_inv]; exact .nil _
  | [t], x, us, h => by
    obtain ⟨u, rfl, h1⟩ := one_inv h
    exact .cons (dp_mono hI h1) (.nil _)
  | t :: u :: r, x, us, h => by
    obtain ⟨v, vs, rfl, h1, h2⟩ := Dens.cons_inv h
    exact .cons (dp_mono hI h1) (dps_mono hI (u :: r) x.2 vs h2)
theorem Sh0.nx_eq (k : Nat) : ∀ (s : Sh0) (x : s.den), s.nx k = k + (s.rw x).length
  | .v t, x => rfl
  | .p t, x => rfl
  | .clo f l, x => rfl
  | .row t T, x => rfl
  | .un, x => rfl
  | .k T, x => rfl
  | .np, x => rfl
theorem Sh0.mono {C' : Cx} (hI : XW.Ext C.unk.imm C'.unk.imm) {k k' : Nat} : ∀ (s : Sh0) (x : s.den) {u : Value}, (∀ v, 0 < (s.rw x).length → C.unk.row k = some v → C'.unk.row k' = some v) → Den C (s.av k x) u → Den C' (s.av k' x) u
  | .v t, x, u, _, h => arg_mono hI h
  | .p t, x, u, _, h => dp_mono hI h
  | .clo f l, x, u, _, h => by
    cases h with
    | clo hl hm h1 h2 =>
      have := dps_mono hI l x _ ⟨hm, h2⟩
      exact .clo hl this.1 (fun i d u hd => by simp at hd) this.2
  | .row t T, x, u, hrow, h => by
    cases sym_inv h with
    | rs h1 => exact .sym (.rs (hrow _ (by simp [Sh0.rw]) h1))
  | .un, x, u, _, _ => .hole _
  | .k T, x, u, _, h => by
    cases h with
    | iface h1 => cases h1 with
      | agg g1 g2 => exact .iface (.agg g1 (fun i d u hd => by simp at hd))
  | .np, x, u, _, h => by
    cases h
    exact .lit _
theorem avs0_mono {C' : Cx} (hI : XW.Ext C.unk.imm C'.unk.imm) : ∀ (l : List Sh0) (x : dens0 l) (k k' : Nat) (us : List Value), (∀ j v, j < (rws0 l x).length → C.unk.row (k + j) = some v → C'.unk.row (k' + j) = some v) → Dens C (avs0 k l x) us → Dens C' (avs0 k' l x) us
  | [], x, k, k', us, hrow, h => by rw [h.nil_inv]; exact .nil _
  | [s], x, k, k', us, hrow, h => by
    obtain ⟨u, rfl, h1⟩ := one_inv h
    exact .cons (s.mono hI x (fun v hl hv => hrow 0 v hl hv) h1) (.nil _)
  | s :: t :: r, x, k, k', us, hrow, h => by
    obtain ⟨v, vs, rfl, h1, h2⟩ := Dens.cons_inv h
    have hlen : (rws0 (s :: t :: r) x).length = (s.rw x.1).length + (rws0 (t :: r) x.2).length := List.length_append
    refine .cons (s.mono hI x.1 (fun v hl hv => hrow 0 v (by omega) hv) h1) ?_
    rw [s.nx_eq k' x.1]
    refine avs0_mono hI (t :: r) x.2 (k + (s.rw x.1).length) (k' + (s.rw x.1).length) vs (fun j v hj hv => ?_) (by rw [← s.nx_eq k x.1]; exact h2)
    rw [Nat.add_assoc] at hv ⊢
    exact hrow _ v (by omega) hv
theorem decs0_spec (hM : SMem C M base w) : ∀ (l : List Sh0) (ds : List AV) (x : dens0 l) (us : List Value), decs0 M l ds = some x → Dens C ds us →
    (rws0 l x).length = (idsL0 l ds).length ∧ (∀ (i r : Nat), (idsL0 l ds)[i]? = some r → ∃ R, rowGet M.rows r = some R ∧ R.fr = false ∧ (rws0 l x)[i]? = some R.bare) ∧
    ∀ (C' : Cx) (k : Nat), XW.Ext C.unk.imm C'.unk.imm → (∀ (i r : Nat) v, (idsL0 l ds)[i]? = some r → C.unk.row r = some v → C'.unk.row (k + i) = some v) → Dens C' (avs0 k l x) us := by
  have one : ∀ (s : Sh0) (d : AV) (x : s.den) (u : Value), dec0 M s d = some x → Den C d u → (s.rw x).length = (idsL0 [s] [d]).length ∧ (∀ (i r : Nat), (idsL0 [s] [d])[i]? = some r → ∃ R, rowGet M.rows r = some R ∧ R.fr = false ∧ (s.rw x)[i]? = some R.bare) ∧
      (∀ (q : List Sh0) (p : List AV), idsL0 (s :: q) (d :: p) = idsL0 [s] [d] ++ idsL0 q p) ∧
      ∀ (C' : Cx) (k : Nat), XW.Ext C.unk.imm C'.unk.imm → (∀ (i r : Nat) v, (idsL0 [s] [d])[i]? = some r → C.unk.row r = some v → C'.unk.row (k + i) = some v) → Den C' (s.av k x) u := by
    intro s d x u h hd
    cases s with
    | v t =>
      have h1 := decV_spec hM h hd
      refine ⟨rfl, fun i r hr => by simp [idsL0] at hr, fun q p => rfl, fun C' k hI _ => arg_mono hI h1⟩
    | p t =>
      have h1 := decP_spec hM h hd
      refine ⟨rfl, fun i r hr => by simp [idsL0] at hr, fun q p => rfl, fun C' k hI _ => dp_mono hI h1⟩
    | clo f l =>
      simp only [dec0] at h
      split at h
      · rename_i f' caps
        split at h
        · rename_i hb
          have e := Nat.eq_of_beq_eq_true hb
          subst e
          refine ⟨rfl, fun i r hr => by simp [idsL0] at hr, fun q p => rfl, fun C' k hI _ => ?_⟩
          cases hd with
          | clo hl hm h1 h2 =>
            have := dps_mono hI l x _ (decPs_spec hM l caps x _ h ⟨hm, h2⟩)
            exact .clo hl this.1 (fun i d u hd => by simp at hd) this.2
        · cases h
      · cases h
    | un => exact ⟨rfl, fun i r hr => by simp [idsL0] at hr, fun q p => rfl, fun C' k _ _ => .hole _⟩
    | k T =>
      simp only [dec0] at h
      split at h
      · split at h
        · rename_i hb
          have e := Nat.eq_of_beq_eq_true hb
          subst e
          refine ⟨rfl, fun i r hr => by simp [idsL0] at hr, fun q p => rfl, fun C' k _ _ => ?_⟩
          cases hd with
          | iface h1 => cases h1 with
            | agg g1 g2 => exact .iface (.agg g1 (fun i d u hd => by simp at hd))
        · cases h
      · cases h
    | np =>
      simp only [dec0] at h
      split at h
      · refine ⟨rfl, fun i r hr => by simp [idsL0] at hr, fun q p => rfl, fun C' k _ _ => ?_⟩
        cases hd
        exact .lit _
      · cases h
    | row t T =>
      simp only [dec0] at h
      split at h
      · rename_i r0 R hR
        split at h
        · rename_i hb
          split at h
          · rename_i ht
            cases h
            obtain ⟨rfl, h2, h3, h4, _⟩ := asR_spec hM hR hd
            have eT := Nat.eq_of_beq_eq_true hb
            refine ⟨rfl, fun i r hr => ?_, fun q p => rfl, fun C' k hI hrow => ?_⟩
            · cases i with
              | zero =>
                simp only [idsL0, List.getElem?_cons_zero, Option.some.injEq] at hr
                subst hr
                refine ⟨R, h2, h3, ?_⟩
                obtain ⟨t', T', xs', cl', fr'⟩ := R
                simp only at ht eT
                subst ht; subst eT
                rfl
              | succ i => simp [idsL0] at hr
            · obtain ⟨A, n, c, rfl⟩ : ∃ A n c, u = .slice A n c := by cases sym_inv hd; exact ⟨_, _, _, rfl⟩
              exact .sym (.rs (hrow 0 r0 _ rfl h4))
          · cases h
        · cases h
      · cases h
  intro l
  induction l with
  | nil =>
    intro ds x us h hd
    cases ds with
    | nil => rw [hd.nil_inv]; exact ⟨rfl, fun i r hr => by simp [idsL0] at hr, fun C' k _ _ => .nil _⟩
    | cons d q => simp [decs0] at h
  | cons s r ih =>
    intro ds x us h hd
    cases ds with
    | nil => cases r <;> simp [decs0] at h
    | cons d q =>
      obtain ⟨u, vs, rfl, h1, h2⟩ := hd.cons_inv
      cases r with
      | nil =>
        cases q with
        | cons e q => simp [decs0] at h
        | nil =>
          have h : dec0 M s d = some x := h
          obtain ⟨k1, k2, k3, k4⟩ := one s d x u h h1
          rw [h2.nil_inv]
          exact ⟨k1, k2, fun C' k hI hrow => .cons (k4 C' k hI hrow) (.nil _)⟩
      | cons t r =>
        simp only [decs0] at h
        split at h
        · rename_i x1 x2 e1 e2
          cases h
          obtain ⟨k1, k2, k3, k4⟩ := one s d x1 u e1 h1
          obtain ⟨g1, g2, g3⟩ := ih q x2 vs e2 h2
          rw [k3 (t :: r) q]
          have hrl : (rws0 (s :: t :: r) (x1, x2)) = s.rw x1 ++ rws0 (t :: r) x2 := rfl
          refine ⟨by rw [hrl, List.length_append, List.length_append, k1, g1], fun i r' hr => ?_, fun C' k hI hrow => ?_⟩
          · rw [hrl]
            by_cases hi : i < (idsL0 [s] [d]).length
            · rw [List.getElem?_append_left hi] at hr
              obtain ⟨R, q1, q2, q3⟩ := k2 i r' hr
              exact ⟨R, q1, q2, by rw [List.getElem?_append_left (by omega)]; exact q3⟩
            · rw [List.getElem?_append_right (by omega)] at hr
              obtain ⟨R, q1, q2, q3⟩ := g2 _ r' hr
              exact ⟨R, q1, q2, by rw [List.getElem?_append_right (by omega), k1]; exact q3⟩
          · refine .cons (k4 C' k hI (fun i r' v hr hv => hrow i r' v (by rw [List.getElem?_append_left (List.getElem?_eq_some_iff.1 hr).1]; exact hr) hv)) ?_
            rw [s.nx_eq k x1]
            refine g3 C' _ hI (fun i r' v hr hv => ?_)
            rw [k1, Nat.add_assoc]
            refine hrow _ r' v ?_ hv
            rw [List.getElem?_append_right (by omega), Nat.add_sub_cancel_left]; exact hr
        · cases h
end
theorem decs0_len {M : SH} : ∀ {l : List Sh0} {ds : List AV} {x : dens0 l}, decs0 M l ds = some x → l.length = ds.length
  | [], [], x, h => rfl
  | [], _ :: _, x, h => by simp [decs0] at h
  | [s], [], x, h => by simp [decs0] at h
  | [s], [d], x, h => rfl
  | [s], _ :: _ :: _, x, h => by simp [decs0] at h
  | s :: t :: r, [], x, h => by simp [decs0] at h
  | s :: t :: r, d :: q, x, h => by
    simp only [decs0] at h
    split at h
    · rename_i x1 x2 e1 e2
      have := decs0_len e2
      simp only [List.length_cons] at this ⊢
      omega
    · cases h
theorem avs0_len : ∀ (l : List Sh0) (k : Nat) (x : dens0 l), (avs0 k l x).length = l.length
  | [], k, x => rfl
  | [s], k, x => rfl
  | s :: t :: r, k, x => by
    show (avs0 (s.nx k) (t :: r) x.2).length + 1 = _
    rw [avs0_len (t :: r)]; rfl
end Go.EV
