/- Of no program: contracts of calls over memory that was given. -/
import Derived.Test.YtcmffeaoailoiaaDoorEView
namespace Go.EV
open Go Go.RowKit
set_option linter.unusedVariables false
set_option linter.unusedSimpArgs false

structure HE where
  f : FuncId
  args : List AV
  bs : List Blk
  rs : List (CE × List Blk)
def valOk (C : Cx) (c : CE) (e : Ending) : Prop := match c with
  | .val d => ∃ v, e = .returned v ∧ Den C d v
  | .panic d => ∃ v, e = .panicked [{ v := v, recovered := false }] ∧ Den C d v
/-- Over such memory the call ends in one of those, and what was there is as it was. -/
def HContract (P : Program) (x : HE) : Prop := (x.bs.length < 2 ^ 40 - 1 ∧ ∀ r ∈ x.rs, x.bs.length + r.2.length < 2 ^ 40 - 1) ∧ ∀ (C : Cx) (base : Nat) (w : World) (vs : List Value), Mem C (ofL x.bs) base w → Dens C x.args vs →
  Calls P x.f vs.toArray w (fun e w' => ∃ r ∈ x.rs, ∃ C', (∀ b v, b < x.bs.length → C'.at_ b v = C.at_ b v) ∧ Step C C' (ofL x.bs) (ofL (x.bs ++ r.2)) base w w' ∧ valOk C' r.1 e)
/-- A book of those blocks. -/
theorem mem_ofL {C : Cx} {bs : List Blk} {base : Nat} {w : World} (hl : bs.length < 2 ^ 40 - 1) (h1 : ∀ i B, bs[i]? = some B → Local C i B base w) (h2 : ∀ b v loc, C.at_ b v = some loc → b < bs.length)
    (h3 : ∀ b v loc b' v' loc', C.at_ b v = some loc → C.at_ b' v' = some loc' → b ≠ b' → loc.blk ≠ loc'.blk) (h4 : base ≤ w.heap.size) : Mem C (ofL bs) base w := by
  refine ⟨fun b B hB => ?_, fun b v loc h => ?_, h3, h4⟩
  · rw [ofL_get hl] at hB
    exact ⟨(List.getElem?_eq_some_iff.1 hB).1, h1 b B hB⟩
  · rw [ofL_get hl]
    exact ⟨_, List.getElem?_eq_getElem (h2 b v loc h)⟩
theorem ofL_lt {C : Cx} {bs : List Blk} {base : Nat} {w : World} (hM : Mem C (ofL bs) base w) {b v : Nat} {loc : Loc} (h : C.at_ b v = some loc) : b < bs.length := by
  obtain ⟨B, hB⟩ := hM.known b v loc h
  exact (hM.blk b B hB).1

/-! ### Known from then on -/
noncomputable def getT (T : Tr Nat) (b : Nat) : Nat := match T.get b with
  | some c => c
  | none => 0
noncomputable def relT (T : Tr Nat) (b0 ver b : Nat) : Bool := match T.get b0 with
  | some c => Nat.beq c b
  | none => false
noncomputable def toT (T : Tr Nat) (m nb : Nat) (b : Nat) : Nat := match Nat.blt b m with
  | true => getT T b
  | false => nb + (b - m)
noncomputable def pushBs (ρ : Nat → Nat) : List Blk → Heap → Heap
  | [], H => H
  | B :: r, H => pushBs ρ r (H.push (renB ρ B))
noncomputable def renCE (ρ : Nat → Nat) : CE → CE
  | .val d => .val (renN ρ 12 d)
  | .panic d => .panic (renN ρ 12 d)
noncomputable def resR (H : Heap) (T : Tr Nat) (m : Nat) : List (CE × List Blk) → List (CE × Heap)
  | [] => []
  | (c, bs) :: r => (renCE (toT T m H.nb) c, pushBs (toT T m H.nb) bs H) :: resR H T m r
noncomputable def findH (H : Heap) (f : FuncId) (args : List AV) (ids : List Nat) (T : Tr Nat) : List HE → Option HE
  | [] => none
  | x :: r => match Nat.beq x.f f with
    | true => match eqLs (eqN (relT T) 12) x.args args with
      | true => match chkBs (relT T) H x.bs ids with
        | true => some x
        | false => findH H f args ids T r
      | false => findH H f args ids T r
    | false => findH H f args ids T r
def anyF (f : FuncId) : List HE → Bool
  | [] => false
  | x :: r => match Nat.beq x.f f with
    | true => true
    | false => anyF f r
noncomputable def knownH (m : List HE) : CF := fun f args H => match anyF f m with
  | false => none
  | true => (fun ids => match nodupB ids, small (H.nb + 100000) with
    | true, true => (fun T => match findH H f args ids T m with
      | some x => some (resR H T x.bs.length x.rs)
      | none => none) (trOf 0 ids)
    | _, _ => none) (reachN H 0 100000 args [])
noncomputable def knownB (m : Memo) (hm : List HE) : CF := fun f args H => match findM m f args with
  | some ds => some (withH H ds)
  | none => knownH hm f args H
section
variable {P : Program} {C : Cx} {H : Heap} {base : Nat} {w : World} {f : FuncId} {args : List AV} {ids : List Nat} {T : Tr Nat}
theorem findH_spec : ∀ {m : List HE} {x : HE}, findH H f args ids T m = some x → x ∈ m ∧ x.f = f ∧ eqLs (eqN (relT T) 12) x.args args = true ∧ chkBs (relT T) H x.bs ids = true
  | [], x, h => by simp [findH] at h
  | y :: r, x, h => by
    have ih := @findH_spec r x
    simp only [findH] at h
    split at h
    · rename_i h1
      split at h
      · rename_i h2
        split at h
        · rename_i h3
          cases h
          exact ⟨List.mem_cons_self, Nat.eq_of_beq_eq_true h1, h2, h3⟩
        · exact ⟨List.mem_cons_of_mem _ (ih h).1, (ih h).2⟩
      · exact ⟨List.mem_cons_of_mem _ (ih h).1, (ih h).2⟩
    · exact ⟨List.mem_cons_of_mem _ (ih h).1, (ih h).2⟩
theorem resR_mem {m : Nat} : ∀ {rs : List (CE × List Blk)} {r : CE × List Blk}, r ∈ rs → (renCE (toT T m H.nb) r.1, pushBs (toT T m H.nb) r.2 H) ∈ resR H T m rs
  | [], r, h => by simp at h
  | (c, bs) :: s, r, h => by
    rcases List.mem_cons.1 h with rfl | h
    · exact List.mem_cons_self
    · exact List.mem_cons_of_mem _ (resR_mem h)
theorem pushBs_get {ρ : Nat → Nat} : ∀ {bs : List Blk} {H : Heap}, H.nb + bs.length < 2 ^ 40 - 1 → (pushBs ρ bs H).nb = H.nb + bs.length ∧ (∀ b, b < H.nb → (pushBs ρ bs H).get b = H.get b) ∧ (∀ j B, bs[j]? = some B → (pushBs ρ bs H).get (H.nb + j) = some (renB ρ B)) ∧ (∀ b, H.nb + bs.length ≤ b → (pushBs ρ bs H).get b = H.get b)
  | [], H, h => ⟨by simp [pushBs], fun b hb => rfl, fun j B hB => by simp at hB, fun b hb => rfl⟩
  | B :: r, H, h => by
    simp only [List.length_cons] at h
    have hnb : (H.push (renB ρ B)).nb = H.nb + 1 := rfl
    obtain ⟨h1, h2, h3, h4⟩ := @pushBs_get ρ r (H.push (renB ρ B)) (by rw [hnb]; omega)
    have hne : ∀ b, b ≠ H.nb → (H.push (renB ρ B)).get b = H.get b := fun b hb => Tr.get_set_ne _ FUEL H.t H.nb b hb
    have hsame : (H.push (renB ρ B)).get H.nb = some (renB ρ B) := Tr.get_set_same _ FUEL H.t H.nb (by simp only [FUEL]; omega)
    rw [hnb] at h1 h2 h3 h4
    refine ⟨by simp only [pushBs, List.length_cons]; omega, fun b hb => ?_, fun j X hX => ?_, fun b hb => ?_⟩
    · simp only [pushBs]; rw [h2 b (by omega), hne b (by omega)]
    · simp only [pushBs]
      cases j with
      | zero => simp at hX; subst hX; rw [Nat.add_zero, h2 _ (by omega), hsame]
      | succ j => simp at hX; rw [show H.nb + (j + 1) = H.nb + 1 + j by omega]; exact h3 j X hX
    · simp only [pushBs]; simp only [List.length_cons] at hb
      rw [h4 b (by omega), hne b (by omega)]
/-- Seen through other numbers. -/
noncomputable def viewC (C : Cx) (T : Tr Nat) : Cx := ⟨fun b v => match T.get b with | some c => C.at_ c v | none => none, C.unk⟩
theorem viewC_at {b v : Nat} {loc : Loc} (h : (viewC C T).at_ b v = some loc) : ∃ c, T.get b = some c ∧ C.at_ c v = some loc := by
  simp only [viewC] at h
  split at h
  · exact ⟨_, by assumption, h⟩
  · cases h
theorem relT_spec (b0 ver b : Nat) (h : relT T b0 ver b = true) (loc : Loc) (hl : C.at_ b ver = some loc) : (viewC C T).at_ b0 ver = some loc := by
  unfold relT at h
  split at h
  · rename_i c hc
    simp only [viewC, hc]
    rw [Nat.eq_of_beq_eq_true h]; exact hl
  · cases h
theorem knownH_step {x : HE} (hx : HContract P x) (hM : Mem C H base w) {vs : List Value} (hD : Dens C args vs) (hnd : nodupB ids = true) (hsm : small (H.nb + 100000) = true) (hrs : ∀ r ∈ x.rs, r.2.length ≤ 100000) (hT : T = trOf 0 ids)
    (ha : eqLs (eqN (relT T) 12) x.args args = true) (hc : chkBs (relT T) H x.bs ids = true) : Calls P x.f vs.toArray w (fun e w' => ∃ r ∈ resR H T x.bs.length x.rs, CallOk C H base w r e w') := by
  obtain ⟨⟨hlen, hlen2⟩, hcon⟩ := hx
  obtain ⟨hids, hblk⟩ := chkBs_spec hc
  have hTg : ∀ b, T.get b = ids[b]? := fun b => by
    rw [hT, trOf_get ids 0 b (by omega)]; simp
  have hinj := nodupB_spec hnd
  have hsm' := small_lt hsm
  have hV : Mem (viewC C T) (ofL x.bs) base w := by
    refine mem_ofL hlen (fun i B0 hB0 => ?_) (fun b v loc h => ?_) (fun b v loc b' v' loc' h h' hne => ?_) hM.base
    · have hi : i < ids.length := by rw [hids]; exact (List.getElem?_eq_some_iff.1 hB0).1
      obtain ⟨B0', B, g1, g2, g3⟩ := hblk i ids[i] (List.getElem?_eq_getElem hi)
      rw [hB0] at g1; cases g1
      exact local_view (C := C) relT_spec g3 (fun v => by simp only [viewC, hTg, List.getElem?_eq_getElem hi]) (hM.blk _ _ g2).2
    · obtain ⟨c, g1, g2⟩ := viewC_at h
      rw [hTg] at g1
      rw [← hids]; exact (List.getElem?_eq_some_iff.1 g1).1
    · obtain ⟨c, g1, g2⟩ := viewC_at h
      obtain ⟨c', g1', g2'⟩ := viewC_at h'
      rw [hTg] at g1 g1'
      exact hM.sep _ _ _ _ _ _ g2 g2' (fun e => hne (hinj b b' c g1 (e ▸ g1')))
  have hDV : Dens (viewC C T) x.args vs := eqLs_dens (fun a0 a v => eqN_den (C := C) relT_spec 12 a0 a v) ha hD
  refine (hcon (viewC C T) base w vs hV hDV).mono fun e w' he => ?_
  obtain ⟨r, hr, C1, hC1, hS, hval⟩ := he
  have hrl := hrs r hr
  have hlr := hlen2 r hr
  have hM1 := hS.mem
  refine ⟨_, resR_mem hr, ?_⟩
  have hCnb : ∀ b v loc, C.at_ b v = some loc → b < H.nb ∧ loc.blk < w.heap.size := fun b v loc h => by
    obtain ⟨B, hB⟩ := hM.known b v loc h
    exact ⟨(hM.blk b B hB).1, ((hM.blk b B hB).2.ver v loc h).2⟩
  -- the context
  let C' : Cx := ⟨fun b v => if b < H.nb then C.at_ b v else C1.at_ (x.bs.length + (b - H.nb)) v, C.unk⟩
  have hC'lt : ∀ b v, b < H.nb → C'.at_ b v = C.at_ b v := fun b v h => by simp only [C', if_pos h]
  have hC'ge : ∀ j v, C'.at_ (H.nb + j) v = C1.at_ (x.bs.length + j) v := fun j v => by
    simp only [C']; rw [if_neg (by omega), Nat.add_sub_cancel_left]
  have hExt : Ext C C' := ⟨fun b v loc h => by rw [hC'lt b v (hCnb b v loc h).1]; exact h, rfl⟩
  have hρ : ∀ b ver loc, C1.at_ b ver = some loc → C'.at_ (toT T x.bs.length H.nb b) ver = some loc := fun b ver loc h => by
    unfold toT
    split
    · rename_i hb
      have hb' : b < x.bs.length := Nat.le_of_ble_eq_true hb
      rw [hC1 b ver hb'] at h
      obtain ⟨c, g1, g2⟩ := viewC_at h
      simp only [getT, g1]
      rw [hC'lt c ver (hCnb _ _ _ g2).1]; exact g2
    · rename_i hb
      have hb' : ¬ b < x.bs.length := fun hlt => by rw [show Nat.blt b x.bs.length = true from Nat.ble_eq_true_of_le hlt] at hb; cases hb
      rw [hC'ge, show x.bs.length + (b - x.bs.length) = b by omega]; exact h
  -- what was there stays
  have hsame : ∀ b v loc, C.at_ b v = some loc → w'.heap[loc.blk]? = w.heap[loc.blk]? := fun b v loc h => by
    by_cases hi : ∃ i : Nat, ids[i]? = some b
    · obtain ⟨i, hi⟩ := hi
      obtain ⟨B0, B, g1, g2, g3⟩ := hblk i b hi
      have hil := (List.getElem?_eq_some_iff.1 g1).1
      obtain ⟨B', k1, k2, k3⟩ := hS.keep i B0 (by rw [ofL_get hlen]; exact g1)
      rw [ofL_get (by simpa using hlr), List.getElem?_append_left hil, g1] at k1
      cases k1
      exact k3 rfl v loc (by simp only [viewC, hTg, hi]; exact h)
    · refine (hS.rest loc.blk (hCnb b v loc h).2 (fun b' v' loc' h' => ?_)).1
      obtain ⟨c, g1, g2⟩ := viewC_at h'
      rw [hTg] at g1
      exact hM.sep _ _ _ _ _ _ g2 h (fun e => hi ⟨b', e ▸ g1⟩)
  -- and is not told anew
  have hapart : ∀ b v loc j v' loc', C.at_ b v = some loc → C1.at_ (x.bs.length + j) v' = some loc' → loc.blk ≠ loc'.blk := fun b v loc j v' loc' h h' => by
    by_cases hi : ∃ i : Nat, ids[i]? = some b
    · obtain ⟨i, hi⟩ := hi
      have hil : i < x.bs.length := by rw [← hids]; exact (List.getElem?_eq_some_iff.1 hi).1
      have h1 : C1.at_ i v = some loc := by rw [hC1 i v hil]; simp only [viewC, hTg, hi]; exact h
      exact hM1.sep _ _ _ _ _ _ h1 h' (by omega)
    · intro e
      refine (hS.rest loc.blk (hCnb b v loc h).2 (fun b2 v2 loc2 h2 => by
        obtain ⟨c, g1, g2⟩ := viewC_at h2
        rw [hTg] at g1
        exact hM.sep _ _ _ _ _ _ g2 h (fun e => hi ⟨b2, e ▸ g1⟩))).2 _ _ _ h' e.symm
  obtain ⟨hp1, hp2, hp3, hp4⟩ := @pushBs_get (toT T x.bs.length H.nb) r.2 H (by omega)
  have hsize := hS.below.size
  have hMem : Mem C' (pushBs (toT T x.bs.length H.nb) r.2 H) base w' := by
    refine ⟨fun b B hB => ?_, fun b v loc h => ?_, fun b v loc b' v' loc' h h' hne => ?_, hM1.base⟩
    · by_cases hb : b < H.nb
      · rw [hp2 b hb] at hB
        exact ⟨by omega, (hM.blk b B hB).2.keep hExt (fun v => hC'lt b v hb) (fun v loc h => hsame b v loc h) hsize⟩
      · by_cases hb2 : b < H.nb + r.2.length
        · obtain ⟨j, rfl⟩ : ∃ j, b = H.nb + j := ⟨b - H.nb, by omega⟩
          have hj : j < r.2.length := by omega
          rw [hp3 j _ (List.getElem?_eq_getElem hj)] at hB
          cases hB
          have hg : (ofL (x.bs ++ r.2)).get (x.bs.length + j) = some r.2[j] := by
            rw [ofL_get (by simpa using hlr), List.getElem?_append_right (by omega), Nat.add_sub_cancel_left, List.getElem?_eq_getElem hj]
          exact ⟨by omega, local_ren (C1 := C1) hρ (fun v => hC'ge j v) (hM1.blk _ _ hg).2⟩
        · rw [hp4 b (by omega)] at hB
          exact absurd (hM.blk b B hB).1 hb
    · by_cases hb : b < H.nb
      · rw [hC'lt b v hb] at h
        obtain ⟨B, hB⟩ := hM.known b v loc h
        exact ⟨B, by rw [hp2 b hb]; exact hB⟩
      · obtain ⟨j, rfl⟩ : ∃ j, b = H.nb + j := ⟨b - H.nb, by omega⟩
        rw [hC'ge] at h
        have hlt := ofL_lt hM1 h
        rw [List.length_append] at hlt
        have hj : j < r.2.length := by omega
        exact ⟨_, hp3 j _ (List.getElem?_eq_getElem hj)⟩
    · by_cases hb : b < H.nb
      · rw [hC'lt b v hb] at h
        by_cases hb' : b' < H.nb
        · rw [hC'lt b' v' hb'] at h'
          exact hM.sep _ _ _ _ _ _ h h' hne
        · obtain ⟨j, rfl⟩ : ∃ j, b' = H.nb + j := ⟨b' - H.nb, by omega⟩
          rw [hC'ge] at h'
          exact hapart _ _ _ _ _ _ h h'
      · obtain ⟨j, rfl⟩ : ∃ j, b = H.nb + j := ⟨b - H.nb, by omega⟩
        rw [hC'ge] at h
        by_cases hb' : b' < H.nb
        · rw [hC'lt b' v' hb'] at h'
          exact fun e => hapart _ _ _ _ _ _ h' h e.symm
        · obtain ⟨j', rfl⟩ : ∃ j, b' = H.nb + j := ⟨b' - H.nb, by omega⟩
          rw [hC'ge] at h'
          exact hM1.sep _ _ _ _ _ _ h h' (by omega)
  refine ⟨C', ⟨hExt, hMem, hS.below, fun b B hB => ?_, fun k hk hn => ?_⟩, ?_⟩
  · have hb := (hM.blk b B hB).1
    exact ⟨B, by show (pushBs _ r.2 H).get b = _; rw [hp2 b hb]; exact hB, Nat.le_refl _, fun _ v loc h => hsame b v loc h⟩
  · obtain ⟨k1, k2⟩ := hS.rest k hk (fun b v loc h => by
      obtain ⟨c, g1, g2⟩ := viewC_at h
      exact hn _ _ _ g2)
    refine ⟨k1, fun b v loc h => ?_⟩
    by_cases hb : b < H.nb
    · rw [hC'lt b v hb] at h
      exact hn _ _ _ h
    · obtain ⟨j, rfl⟩ : ∃ j, b = H.nb + j := ⟨b - H.nb, by omega⟩
      rw [hC'ge] at h
      exact k2 _ _ _ h
  · obtain ⟨c, news⟩ := r
    cases c with
    | val d =>
      obtain ⟨v, rfl, hv⟩ := hval
      exact ⟨v, rfl, renN_den hρ 12 d v hv⟩
    | panic d =>
      obtain ⟨v, rfl, hv⟩ := hval
      exact ⟨v, rfl, renN_den hρ 12 d v hv⟩
end
def shortR : List (CE × List Blk) → Bool
  | [] => true
  | r :: s => Nat.ble r.2.length 100000 && shortR s
theorem shortR_spec : ∀ {rs : List (CE × List Blk)}, shortR rs = true → ∀ r ∈ rs, r.2.length ≤ 100000
  | [], _, r, h => by simp at h
  | x :: s, h, r, hr => by
    simp only [shortR, Bool.and_eq_true] at h
    rcases List.mem_cons.1 hr with rfl | hr
    · exact Nat.le_of_ble_eq_true h.1
    · exact shortR_spec h.2 r hr
/-- One that is known, with its bounds. -/
def HOk (P : Program) (x : HE) : Prop := HContract P x ∧ ∀ r ∈ x.rs, r.2.length ≤ 100000
theorem knownH_ok {P : Program} {m : List HE} (h : ∀ x ∈ m, HOk P x) (base : Nat) : CFok P base (knownH m) := by
  intro f args H rs hr C w vs hM hD
  unfold knownH at hr
  split at hr
  · cases hr
  · simp only at hr
    split at hr
    · rename_i hnd hsm
      split at hr
      · rename_i x hx
        cases hr
        obtain ⟨h1, rfl, h3, h4⟩ := findH_spec hx
        exact knownH_step (h x h1).1 hM hD hnd hsm (h x h1).2 rfl h3 h4
      · cases hr
    · cases hr
theorem knownB_ok {P : Program} {m : Memo} {hm : List HE} (h : ∀ x ∈ m, Contract P x) (h' : ∀ x ∈ hm, HOk P x) (base : Nat) : CFok P base (knownB m hm) := by
  intro f args H rs hr
  unfold knownB at hr
  split at hr
  · rename_i ds hds
    cases hr
    exact knownOf_ok h base f args H _ (by simp only [knownOf, hds])
  · exact knownH_ok h' base f args H rs hr
theorem hmemo_nil (P : Program) : ∀ x ∈ ([] : List HE), HOk P x := fun x h => by simp at h
theorem hmemo_cons {P : Program} {x : HE} {m : List HE} (h : HOk P x) (hm : ∀ x ∈ m, HOk P x) : ∀ y ∈ x :: m, HOk P y := fun y hy => by
  rcases List.mem_cons.1 hy with rfl | hy
  · exact h
  · exact hm y hy
end Go.EV
