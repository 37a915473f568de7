/- Texts that the proof of a law rests on, put together: part 40. -/
import Derived.Test.YtajnboigikdefaaDoorFg39
namespace Go.EV
open Go Go.RowKit
set_option linter.unusedVariables false
set_option linter.unusedSimpArgs false
structure HE where
  f : FuncId
  args : List AV
  bs : List Blk
  rs : List (CE × List (Option Blk) × List Blk)
def upd : List Blk → List (Option Blk) → List Blk
  | [], _ => []
  | B :: r, [] => B :: r
  | B :: r, none :: s => B :: upd r s
  | _ :: r, some B :: s => B :: upd r s
theorem upd_length : ∀ (bs : List Blk) (us : List (Option Blk)), (upd bs us).length = bs.length
  | [], us => by cases us <;> rfl
  | B :: r, [] => rfl
  | B :: r, none :: s => by simp [upd, upd_length r s]
  | B :: r, some B' :: s => by simp [upd, upd_length r s]
def isUp (us : List (Option Blk)) (i : Nat) : Option Blk := match us[i]? with
  | some (some B) => some B
  | _ => none
theorem upd_get : ∀ (bs : List Blk) (us : List (Option Blk)) (i : Nat), i < bs.length → (upd bs us)[i]? = match isUp us i with
    | some B => some B
    | none => bs[i]?
  | [], us, i, h => by simp at h
  | B :: r, [], i, h => by simp [upd, isUp]
  | B :: r, none :: s, 0, h => by simp [upd, isUp]
  | B :: r, none :: s, i + 1, h => by
    have := upd_get r s i (by simpa using h)
    simpa [upd, isUp] using this
  | B :: r, some B' :: s, 0, h => by simp [upd, isUp]
  | B :: r, some B' :: s, i + 1, h => by
    have := upd_get r s i (by simpa using h)
    simpa [upd, isUp] using this
def upsOk : List Blk → List (Option Blk) → Bool
  | _, [] => true
  | [], _ :: _ => false
  | B :: r, none :: s => upsOk r s
  | B :: r, some B' :: s => match Nat.blt B.stamp B'.stamp with
    | true => upsOk r s
    | false => false
theorem upsOk_spec : ∀ {bs : List Blk} {us : List (Option Blk)}, upsOk bs us = true → ∀ i B', isUp us i = some B' → ∃ B, bs[i]? = some B ∧ B.stamp < B'.stamp
  | bs, [], _, i, B', h => by simp [isUp] at h
  | [], _ :: _, h, _, _, _ => by simp [upsOk] at h
  | B :: r, none :: s, h, i, B', hi => by
    cases i with
    | zero => simp [isUp] at hi
    | succ i => simpa using upsOk_spec (bs := r) (us := s) h i B' (by simpa [isUp] using hi)
  | B :: r, some B0 :: s, h, i, B', hi => by
    simp only [upsOk] at h
    split at h
    · rename_i hb
      cases i with
      | zero =>
        simp [isUp] at hi
        subst hi
        exact ⟨B, rfl, Nat.le_of_ble_eq_true hb⟩
      | succ i => simpa using upsOk_spec (bs := r) (us := s) h i B' (by simpa [isUp] using hi)
    · cases h
def valOk (C : Cx) (c : CE) (e : Ending) : Prop := match c with
  | .val d => ∃ v, e = .returned v ∧ Den C d v
  | .panic d => ∃ v, e = .panicked [{ v := v, recovered := false }] ∧ Den C d v
def HContract (P : Program) (x : HE) : Prop := (x.bs.length < 2 ^ 40 - 1 ∧ ∀ r ∈ x.rs, x.bs.length + r.2.2.length < 2 ^ 40 - 1) ∧ ∀ (C : Cx) (base : Nat) (w : World) (vs : List Value), Mem C (ofL x.bs) base w → Dens C x.args vs →
  Calls P x.f vs.toArray w (fun e w' => ∃ r ∈ x.rs, ∃ C', (∀ b v, b < x.bs.length → isUp r.2.1 b = none → C'.at_ b v = C.at_ b v) ∧ Step C C' (ofL x.bs) (ofL (upd x.bs r.2.1 ++ r.2.2)) base w w' ∧ valOk C' r.1 e)
theorem mem_ofL {C : Cx} {bs : List Blk} {base : Nat} {w : World} (hl : bs.length < 2 ^ 40 - 1) (h1 : ∀ i B, bs[i]? = some B → Local C i B base w) (h2 : ∀ b v loc, C.at_ b v = some loc → b < bs.length)
    (h3 : ∀ b v loc b' v' loc', C.at_ b v = some loc → C.at_ b' v' = some loc' → b ≠ b' → loc.blk ≠ loc'.blk) (h4 : base ≤ w.heap.size) : Mem C (ofL bs) base w := by
  refine ⟨fun b B hB => ?_, fun b v loc h => ?_, h3, h4⟩
  · rw [ofL_get hl] at hB
    exact ⟨(List.getElem?_eq_some_iff.1 hB).1, h1 b B hB⟩
  · rw [ofL_get hl]
    exact ⟨_, List.getElem?_eq_getElem (h2 b v loc h)⟩
theorem ofL_lt {C : Cx} {bs : List Blk} {base : Nat} {w : World} (hM : Mem C (ofL bs) base w) {b v : Nat} {loc : Loc} (h : C.at_ b v = some loc) : b < bs.length := by
  obtain ⟨B, hB⟩ := hM.known b v loc h
  exact (hM.blk b B hB).1
noncomputable def getT (T : Tr Nat) (b : Nat) : Nat := match T.get b with
  | some c => c
  | none => 0
noncomputable def relT (T : Tr Nat) (b0 ver b : Nat) : Bool := match T.get b0 with
  | some c => Nat.beq c b
  | none => false
noncomputable def toT (T : Tr Nat) (m nb : Nat) (b : Nat) : Nat := match Nat.blt b m with
  | true => getT T b
  | false => nb + (b - m)
noncomputable def pushBs (ρ : Nat → Nat) : List Blk → Heap → Heap
  | [], H => H
  | B :: r, H => pushBs ρ r (H.push (renB ρ B))
noncomputable def renCE (ρ : Nat → Nat) : CE → CE
  | .val d => .val (renN ρ 12 d)
  | .panic d => .panic (renN ρ 12 d)
noncomputable def setU (ρ : Nat → Nat) (B : Blk) (b : Nat) (H : Heap) : Heap := match H.get b with
  | some B0 => H.set b { renB ρ B with stamp := B0.stamp + 1 }
  | none => H
noncomputable def setBs (ρ : Nat → Nat) : List (Option Blk) → List Nat → Heap → Heap
  | [], _, H => H
  | _ :: _, [], H => H
  | none :: s, _ :: r, H => setBs ρ s r H
  | some B :: s, b :: r, H => setBs ρ s r (setU ρ B b H)
noncomputable def resR (H : Heap) (T : Tr Nat) (m : Nat) (ids : List Nat) : List (CE × List (Option Blk) × List Blk) → List (CE × Heap)
  | [] => []
  | (c, us, bs) :: r => (renCE (toT T m H.nb) c, pushBs (toT T m H.nb) bs (setBs (toT T m H.nb) us ids H)) :: resR H T m ids r
noncomputable def findH (H : Heap) (f : FuncId) (args : List AV) (ids : List Nat) (T : Tr Nat) : List HE → Option HE
  | [] => none
  | x :: r => match Nat.beq x.f f with
    | true => match eqLs (eqN (relT T) 12) x.args args with
      | true => match chkBs (relT T) H x.bs ids with
        | true => some x
        | false => findH H f args ids T r
      | false => findH H f args ids T r
    | false => findH H f args ids T r
def anyF (f : FuncId) : List HE → Bool
  | [] => false
  | x :: r => match Nat.beq x.f f with
    | true => true
    | false => anyF f r
noncomputable def knownH (m : List HE) : CF := fun f args H => match anyF f m with
  | false => none
  | true => (fun ids => match nodupB ids, small (H.nb + 100000) with
    | true, true => (fun T => match findH H f args ids T m with
      | some x => some (resR H T x.bs.length ids x.rs)
      | none => none) (trOf 0 ids)
    | _, _ => none) (reachN H 0 100000 args [])
noncomputable def knownB (m : Memo) (hm : List HE) : CF := fun f args H => match findM m f args with
  | some ds => some (withH H ds)
  | none => knownH hm f args H
section
variable {P : Program} {C : Cx} {H : Heap} {base : Nat} {w : World} {f : FuncId} {args : List AV} {ids : List Nat} {T : Tr Nat}
theorem findH_spec : ∀ {m : List HE} {x : HE}, findH H f args ids T m = some x → x ∈ m ∧ x.f = f ∧ eqLs (eqN (relT T) 12) x.args args = true ∧ chkBs (relT T) H x.bs ids = true
  | [], x, h => by simp [findH] at h
  | y :: r, x, h => by
    have ih := @findH_spec r x
    simp only [findH] at h
    split at h
    · rename_i h1
      split at h
      · rename_i h2
        split at h
        · rename_i h3
          cases h
          exact ⟨List.mem_cons_self, Nat.eq_of_beq_eq_true h1, h2, h3⟩
        · exact ⟨List.mem_cons_of_mem _ (ih h).1, (ih h).2⟩
      · exact ⟨List.mem_cons_of_mem _ (ih h).1, (ih h).2⟩
    · exact ⟨List.mem_cons_of_mem _ (ih h).1, (ih h).2⟩
theorem resR_mem {m : Nat} : ∀ {rs : List (CE × List (Option Blk) × List Blk)} {r : CE × List (Option Blk) × List Blk}, r ∈ rs → (renCE (toT T m H.nb) r.1, pushBs (toT T m H.nb) r.2.2 (setBs (toT T m H.nb) r.2.1 ids H)) ∈ resR H T m ids rs
  | [], r, h => by simp at h
  | (c, us, bs) :: s, r, h => by
    rcases List.mem_cons.1 h with rfl | h
    · exact List.mem_cons_self
    · exact List.mem_cons_of_mem _ (resR_mem h)
theorem pushBs_get {ρ : Nat → Nat} : ∀ {bs : List Blk} {H : Heap}, H.nb + bs.length < 2 ^ 40 - 1 → (pushBs ρ bs H).nb = H.nb + bs.length ∧ (∀ b, b < H.nb → (pushBs ρ bs H).get b = H.get b) ∧ (∀ j B, bs[j]? = some B → (pushBs ρ bs H).get (H.nb + j) = some (renB ρ B)) ∧ (∀ b, H.nb + bs.length ≤ b → (pushBs ρ bs H).get b = H.get b)
  | [], H, h => ⟨by simp [pushBs], fun b hb => rfl, fun j B hB => by simp at hB, fun b hb => rfl⟩
  | B :: r, H, h => by
    simp only [List.length_cons] at h
    have hnb : (H.push (renB ρ B)).nb = H.nb + 1 := rfl
    obtain ⟨h1, h2, h3, h4⟩ := @pushBs_get ρ r (H.push (renB ρ B)) (by rw [hnb]; omega)
    have hne : ∀ b, b ≠ H.nb → (H.push (renB ρ B)).get b = H.get b := fun b hb => Tr.get_set_ne _ FUEL H.t H.nb b hb
    have hsame : (H.push (renB ρ B)).get H.nb = some (renB ρ B) := Tr.get_set_same _ FUEL H.t H.nb (by simp only [FUEL]; omega)
    rw [hnb] at h1 h2 h3 h4
    refine ⟨by simp only [pushBs, List.length_cons]; omega, fun b hb => ?_, fun j X hX => ?_, fun b hb => ?_⟩
    · simp only [pushBs]; rw [h2 b (by omega), hne b (by omega)]
    · simp only [pushBs]
      cases j with
      | zero => simp at hX; subst hX; rw [Nat.add_zero, h2 _ (by omega), hsame]
      | succ j => simp at hX; rw [show H.nb + (j + 1) = H.nb + 1 + j by omega]; exact h3 j X hX
    · simp only [pushBs]; simp only [List.length_cons] at hb
      rw [h4 b (by omega), hne b (by omega)]
theorem setU_nb {ρ : Nat → Nat} {B : Blk} {b : Nat} {H : Heap} : (setU ρ B b H).nb = H.nb := by unfold setU; split <;> rfl
theorem setBs_nb {ρ : Nat → Nat} : ∀ (us : List (Option Blk)) (l : List Nat) (H : Heap), (setBs ρ us l H).nb = H.nb
  | [], l, H => by cases l <;> rfl
  | _ :: _, [], H => by rename_i x s; cases x <;> rfl
  | none :: s, _ :: r, H => setBs_nb s r H
  | some B :: s, b :: r, H => by simp only [setBs]; rw [setBs_nb s r, setU_nb]
theorem setBs_get {ρ : Nat → Nat} : ∀ (us : List (Option Blk)) (l : List Nat) (H : Heap), (∀ (i j b : Nat), l[i]? = some b → l[j]? = some b → i = j) → (∀ (i b : Nat), l[i]? = some b → b < 2 ^ 40 - 1 ∧ ∃ B, H.get b = some B) →
    (∀ b, (∀ i B', isUp us i = some B' → l[i]? ≠ some b) → (setBs ρ us l H).get b = H.get b) ∧ (∀ i b B' B, isUp us i = some B' → l[i]? = some b → H.get b = some B → (setBs ρ us l H).get b = some { renB ρ B' with stamp := B.stamp + 1 })
  | [], l, H, _, _ => ⟨fun b _ => by cases l <;> rfl, fun i b B' B h => by simp [isUp] at h⟩
  | x :: s, [], H, _, _ => ⟨fun b _ => by cases x <;> rfl, fun i b B' B _ h => by simp at h⟩
  | none :: s, c :: r, H, hinj, hget => by
    obtain ⟨g1, g2⟩ := setBs_get s r H (fun i j b hi hj => by have := hinj (i + 1) (j + 1) b (by simpa using hi) (by simpa using hj); omega) (fun i b hi => hget (i + 1) b (by simpa using hi))
    refine ⟨fun b hb => g1 b (fun i B' hi hl => hb (i + 1) B' (by simpa [isUp] using hi) (by simpa using hl)), fun i b B' B hi hl hB => ?_⟩
    cases i with
    | zero => simp [isUp] at hi
    | succ i => exact g2 i b B' B (by simpa [isUp] using hi) (by simpa using hl) hB
  | some X :: s, c :: r, H, hinj, hget => by
    obtain ⟨hc, Bc, hBc⟩ := hget 0 c rfl
    have hset : setU ρ X c H = H.set c { renB ρ X with stamp := Bc.stamp + 1 } := by unfold setU; rw [hBc]
    have hne : ∀ b, b ≠ c → (setU ρ X c H).get b = H.get b := fun b hb => by rw [hset]; exact Heap.get_set_ne H c b _ hb
    have hsame : (setU ρ X c H).get c = some { renB ρ X with stamp := Bc.stamp + 1 } := by rw [hset]; exact Heap.get_set_same H c _ hc
    have hcr : ∀ i, r[i]? ≠ some c := fun i hi => by have := hinj 0 (i + 1) c rfl (by simpa using hi); omega
    obtain ⟨g1, g2⟩ := setBs_get s r (setU ρ X c H) (fun i j b hi hj => by have := hinj (i + 1) (j + 1) b (by simpa using hi) (by simpa using hj); omega) (fun i b hi => by
      obtain ⟨h1, B, h2⟩ := hget (i + 1) b (by simpa using hi)
      refine ⟨h1, B, ?_⟩
      rw [hne b (fun e => hcr i (by rw [← e]; exact hi))]; exact h2)
    refine ⟨fun b hb => ?_, fun i b B' B hi hl hB => ?_⟩
    · have hbc : b ≠ c := fun e => hb 0 X (by simp [isUp]) (by rw [e]; rfl)
      simp only [setBs]
      rw [g1 b (fun i B' hi hl => hb (i + 1) B' (by simpa [isUp] using hi) (by simpa using hl)), hne b hbc]
    · simp only [setBs]
      cases i with
      | zero =>
        simp [isUp] at hi
        simp at hl
        subst hi; subst hl
        rw [g1 c (fun i B' _ hl => hcr i hl), hsame]
        rw [hBc] at hB; cases hB; rfl
      | succ i =>
        have hl' : r[i]? = some b := by simpa using hl
        refine g2 i b B' B (by simpa [isUp] using hi) hl' ?_
        rw [hne b (fun e => hcr i (by rw [← e]; exact hl'))]; exact hB
noncomputable def viewC (C : Cx) (T : Tr Nat) : Cx := ⟨fun b v => match T.get b with | some c => C.at_ c v | none => none, C.unk⟩
theorem viewC_at {b v : Nat} {loc : Loc} (h : (viewC C T).at_ b v = some loc) : ∃ c, T.get b = some c ∧ C.at_ c v = some loc := by
  simp only [viewC] at h
  split at h
  · exact ⟨_, by assumption, h⟩
  · cases h
theorem relT_spec (b0 ver b : Nat) (h : relT T b0 ver b = true) (loc : Loc) (hl : C.at_ b ver = some loc) : (viewC C T).at_ b0 ver = some loc := by
  unfold relT at h
  split at h
  · rename_i c hc
    simp only [viewC, hc]
    rw [Nat.eq_of_beq_eq_true h]; exact hl
  · cases h
theorem knownH_step {x : HE} (hx : HContract P x) (hM : Mem C H base w) {vs : List Value} (hD : Dens C args vs) (hnd : nodupB ids = true) (hsm : small (H.nb + 100000) = true) (hrs : ∀ r ∈ x.rs, r.2.2.length ≤ 100000 ∧ upsOk x.bs r.2.1 = true) (hT : T = trOf 0 ids)
    (ha : eqLs (eqN (relT T) 12) x.args args = true) (hc : chkBs (relT T) H x.bs ids = true) : Calls P x.f vs.toArray w (fun e w' => ∃ r ∈ resR H T x.bs.length ids x.rs, CallOk C H base w r e w') := by
  obtain ⟨⟨hlen, hlen2⟩, hcon⟩ := hx
  obtain ⟨hids, hblk⟩ := chkBs_spec hc
  have hTg : ∀ b, T.get b = ids[b]? := fun b => by
    rw [hT, trOf_get ids 0 b (by omega)]; simp
  have hinj := nodupB_spec hnd
  have hsm' := small_lt hsm
  have hV : Mem (viewC C T) (ofL x.bs) base w := by
    refine mem_ofL hlen (fun i B0 hB0 => ?_) (fun b v loc h => ?_) (fun b v loc b' v' loc' h h' hne => ?_) hM.base
    · have hi : i < ids.length := by rw [hids]; exact (List.getElem?_eq_some_iff.1 hB0).1
      obtain ⟨B0', B, g1, g2, g3⟩ := hblk i ids[i] (List.getElem?_eq_getElem hi)
      rw [hB0] at g1; cases g1
      exact local_view (C := C) relT_spec g3 (fun v => by simp only [viewC, hTg, List.getElem?_eq_getElem hi]) (hM.blk _ _ g2).2
    · obtain ⟨c, g1, g2⟩ := viewC_at h
      rw [hTg] at g1
      rw [← hids]; exact (List.getElem?_eq_some_iff.1 g1).1
    · obtain ⟨c, g1, g2⟩ := viewC_at h
      obtain ⟨c', g1', g2'⟩ := viewC_at h'
      rw [hTg] at g1 g1'
      exact hM.sep _ _ _ _ _ _ g2 g2' (fun e => hne (hinj b b' c g1 (e ▸ g1')))
  have hDV : Dens (viewC C T) x.args vs := eqLs_dens (fun a0 a v => eqN_den (C := C) relT_spec 12 a0 a v) ha hD
  refine (hcon (viewC C T) base w vs hV hDV).mono fun e w' he => ?_
  obtain ⟨r, hr, C1, hC1, hS, hval⟩ := he
  obtain ⟨hrl, hup⟩ := hrs r hr
  have hups := upsOk_spec hup
  have hlr := hlen2 r hr
  have hM1 := hS.mem
  have hul : (upd x.bs r.2.1 ++ r.2.2).length < 2 ^ 40 - 1 := by rw [List.length_append, upd_length]; omega
  refine ⟨_, resR_mem hr, ?_⟩
  have hCnb : ∀ b v loc, C.at_ b v = some loc → b < H.nb ∧ loc.blk < w.heap.size := fun b v loc h => by
    obtain ⟨B, hB⟩ := hM.known b v loc h
    exact ⟨(hM.blk b B hB).1, ((hM.blk b B hB).2.ver v loc h).2⟩
  have hidnb : ∀ i b, ids[i]? = some b → b < H.nb := fun i b hi => by
    obtain ⟨B0, B, g1, g2, g3⟩ := hblk i b hi
    exact (hM.blk b B g2).1
  -- which are turned
  classical
  let Tu : Nat → Nat → Prop := fun b i => ids[i]? = some b ∧ ∃ B', isUp r.2.1 i = some B'
  have hTu : ∀ b i j, Tu b i → Tu b j → i = j := fun b i j hi hj => hinj i j b hi.1 hj.1
  -- the context
  let C' : Cx := ⟨fun b v => if b < H.nb then (if h : ∃ i, Tu b i then C1.at_ h.choose v else C.at_ b v) else C1.at_ (x.bs.length + (b - H.nb)) v, C.unk⟩
  have hC'tu : ∀ b i v, Tu b i → C'.at_ b v = C1.at_ i v := fun b i v h => by
    have hb : b < H.nb := hidnb i b h.1
    have hex : ∃ i, Tu b i := ⟨i, h⟩
    simp only [C']
    rw [if_pos hb, dif_pos hex, hTu b _ i hex.choose_spec h]
  have hC'no : ∀ b v, b < H.nb → (∀ i, ¬ Tu b i) → C'.at_ b v = C.at_ b v := fun b v hb h => by
    simp only [C']
    rw [if_pos hb, dif_neg (fun ⟨i, hi⟩ => h i hi)]
  have hC'ge : ∀ j v, C'.at_ (H.nb + j) v = C1.at_ (x.bs.length + j) v := fun j v => by
    simp only [C']; rw [if_neg (by omega), Nat.add_sub_cancel_left]
  have hview : ∀ i b v, ids[i]? = some b → (viewC C T).at_ i v = C.at_ b v := fun i b v hi => by simp only [viewC, hTg, hi]
  have hilt : ∀ i b, ids[i]? = some b → i < x.bs.length := fun i b hi => by rw [← hids]; exact (List.getElem?_eq_some_iff.1 hi).1
  have hC1un : ∀ i b v, ids[i]? = some b → (∀ j, ¬ Tu b j) → C1.at_ i v = C.at_ b v := fun i b v hi hn => by
    rw [hC1 i v (hilt i b hi) (by
      cases hu : isUp r.2.1 i with
      | none => rfl
      | some B' => exact absurd ⟨hi, B', hu⟩ (hn i)), hview i b v hi]
  have hExt : Ext C C' := ⟨fun b v loc h => by
    by_cases ht : ∃ i, Tu b i
    · obtain ⟨i, hi⟩ := ht
      rw [hC'tu b i v hi]
      exact hS.ext.at_ _ _ _ (by rw [hview i b v hi.1]; exact h)
    · rw [hC'no b v (hCnb b v loc h).1 (fun i hi => ht ⟨i, hi⟩)]; exact h, rfl⟩
  have hρ : ∀ b ver loc, C1.at_ b ver = some loc → C'.at_ (toT T x.bs.length H.nb b) ver = some loc := fun b ver loc h => by
    unfold toT
    split
    · rename_i hb
      have hb' : b < x.bs.length := Nat.le_of_ble_eq_true hb
      have hi : ids[b]? = some ids[b] := List.getElem?_eq_getElem (by rw [hids]; exact hb')
      simp only [getT, hTg, hi]
      by_cases ht : ∃ i, Tu ids[b] i
      · obtain ⟨i, hti⟩ := ht
        have : i = b := hinj i b _ hti.1 hi
        subst this
        rw [hC'tu _ _ _ hti]; exact h
      · have hn : ∀ i, ¬ Tu ids[b] i := fun i hi => ht ⟨i, hi⟩
        rw [hC'no _ _ (hidnb b _ hi) hn, ← hC1un b _ ver hi hn]; exact h
    · rename_i hb
      have hb' : ¬ b < x.bs.length := fun hlt => by rw [show Nat.blt b x.bs.length = true from Nat.ble_eq_true_of_le hlt] at hb; cases hb
      rw [hC'ge, show x.bs.length + (b - x.bs.length) = b by omega]; exact h
  -- what is not turned stays
  have hsame : ∀ b v loc, (∀ i, ¬ Tu b i) → C.at_ b v = some loc → w'.heap[loc.blk]? = w.heap[loc.blk]? := fun b v loc hn h => by
    by_cases hi : ∃ i : Nat, ids[i]? = some b
    · obtain ⟨i, hi⟩ := hi
      obtain ⟨B0, B, g1, g2, g3⟩ := hblk i b hi
      have hil := hilt i b hi
      obtain ⟨B', k1, k2, k3⟩ := hS.keep i B0 (by rw [ofL_get hlen]; exact g1)
      have hun : isUp r.2.1 i = none := by
        cases hu : isUp r.2.1 i with
        | none => rfl
        | some B' => exact absurd ⟨hi, B', hu⟩ (hn i)
      rw [ofL_get hul, List.getElem?_append_left (by rw [upd_length]; exact hil), upd_get _ _ _ hil, hun] at k1
      simp only at k1
      rw [g1] at k1
      cases k1
      exact k3 rfl v loc (by rw [hview i b v hi]; exact h)
    · refine (hS.rest loc.blk (hCnb b v loc h).2 (fun b' v' loc' h' => ?_)).1
      obtain ⟨c, g1, g2⟩ := viewC_at h'
      rw [hTg] at g1
      exact hM.sep _ _ _ _ _ _ g2 h (fun e => hi ⟨b', e ▸ g1⟩)
  -- where the later context's names stem from
  have hsrc : ∀ b v loc, C'.at_ b v = some loc → (b < H.nb ∧ (∀ i, ids[i]? ≠ some b) ∧ C.at_ b v = some loc) ∨ ∃ k, C1.at_ k v = some loc ∧ ((∃ i, k = i ∧ ids[i]? = some b ∧ i < x.bs.length) ∨ (∃ j, k = x.bs.length + j ∧ b = H.nb + j)) := fun b v loc h => by
    by_cases hb : b < H.nb
    · by_cases ht : ∃ i, Tu b i
      · obtain ⟨i, hi⟩ := ht
        rw [hC'tu b i v hi] at h
        exact .inr ⟨i, h, .inl ⟨i, rfl, hi.1, hilt i b hi.1⟩⟩
      · have hn : ∀ i, ¬ Tu b i := fun i hi => ht ⟨i, hi⟩
        rw [hC'no b v hb hn] at h
        by_cases hi : ∃ i : Nat, ids[i]? = some b
        · obtain ⟨i, hi⟩ := hi
          exact .inr ⟨i, by rw [hC1un i b v hi hn]; exact h, .inl ⟨i, rfl, hi, hilt i b hi⟩⟩
        · exact .inl ⟨hb, fun i hi' => hi ⟨i, hi'⟩, h⟩
    · obtain ⟨j, rfl⟩ : ∃ j, b = H.nb + j := ⟨b - H.nb, by omega⟩
      rw [hC'ge] at h
      exact .inr ⟨_, h, .inr ⟨j, rfl, rfl⟩⟩
  have hapart : ∀ b v loc k v' loc', b < H.nb → (∀ i, ids[i]? ≠ some b) → C.at_ b v = some loc → C1.at_ k v' = some loc' → loc.blk ≠ loc'.blk := fun b v loc k v' loc' hb hn h h' e => by
    refine (hS.rest loc.blk (hCnb b v loc h).2 (fun b2 v2 loc2 h2 => by
      obtain ⟨c, g1, g2⟩ := viewC_at h2
      rw [hTg] at g1
      exact hM.sep _ _ _ _ _ _ g2 h (fun e => hn b2 (e ▸ g1)))).2 _ _ _ h' e.symm
  obtain ⟨hs1, hs2⟩ := setBs_get (ρ := toT T x.bs.length H.nb) r.2.1 ids H hinj (fun i b hi => by
    obtain ⟨B0, B, g1, g2, g3⟩ := hblk i b hi
    have := (hM.blk b B g2).1
    exact ⟨by omega, B, g2⟩)
  have hsnb := setBs_nb (ρ := toT T x.bs.length H.nb) r.2.1 ids H
  generalize hHs : setBs (toT T x.bs.length H.nb) r.2.1 ids H = Hs at hs1 hs2 hsnb ⊢
  obtain ⟨hp1, hp2, hp3, hp4⟩ := @pushBs_get (toT T x.bs.length H.nb) r.2.2 Hs (by omega)
  rw [hsnb] at hp1 hp2 hp3 hp4
  have hsize := hS.below.size
  have hgetno : ∀ b, (∀ i, ¬ Tu b i) → Hs.get b = H.get b := fun b hn => hs1 b (fun i B' hi hl => hn i ⟨hl, B', hi⟩)
  have hMem : Mem C' (pushBs (toT T x.bs.length H.nb) r.2.2 Hs) base w' := by
    refine ⟨fun b B hB => ?_, fun b v loc h => ?_, fun b v loc b' v' loc' h h' hne => ?_, hM1.base⟩
    · by_cases hb : b < H.nb
      · rw [hp2 b hb] at hB
        by_cases ht : ∃ i, Tu b i
        · obtain ⟨i, hi⟩ := ht
          obtain ⟨B', hB'⟩ := hi.2
          obtain ⟨B0, Bh, g1, g2, g3⟩ := hblk i b hi.1
          rw [hs2 i b B' Bh hB' hi.1 g2] at hB
          cases hB
          have hil := hilt i b hi.1
          have hg : (ofL (upd x.bs r.2.1 ++ r.2.2)).get i = some B' := by
            rw [ofL_get hul, List.getElem?_append_left (by rw [upd_length]; exact hil), upd_get _ _ _ hil, hB']
          have hL := local_ren (C1 := C1) (b' := b) hρ (fun v => hC'tu b i v hi) (hM1.blk _ _ hg).2
          exact ⟨by omega, hL.dom, hL.ver, hL.obj, hL.cell, hL.fam, hL.own, hL.objs, hL.at0⟩
        · have hn : ∀ i, ¬ Tu b i := fun i hi => ht ⟨i, hi⟩
          rw [hgetno b hn] at hB
          exact ⟨by omega, (hM.blk b B hB).2.keep hExt (fun v => hC'no b v hb hn) (fun v loc h => hsame b v loc hn h) hsize⟩
      · by_cases hb2 : b < H.nb + r.2.2.length
        · obtain ⟨j, rfl⟩ : ∃ j, b = H.nb + j := ⟨b - H.nb, by omega⟩
          have hj : j < r.2.2.length := by omega
          rw [hp3 j _ (List.getElem?_eq_getElem hj)] at hB
          cases hB
          have hg : (ofL (upd x.bs r.2.1 ++ r.2.2)).get (x.bs.length + j) = some r.2.2[j] := by
            rw [ofL_get hul, List.getElem?_append_right (by rw [upd_length]; omega), upd_length, Nat.add_sub_cancel_left, List.getElem?_eq_getElem hj]
          exact ⟨by omega, local_ren (C1 := C1) hρ (fun v => hC'ge j v) (hM1.blk _ _ hg).2⟩
        · rw [hp4 b (by omega)] at hB
          rw [hgetno b (fun i hi => hb (hidnb i b hi.1))] at hB
          exact absurd (hM.blk b B hB).1 hb
    · by_cases hb : b < H.nb
      · by_cases ht : ∃ i, Tu b i
        · obtain ⟨i, hi⟩ := ht
          obtain ⟨B', hB'⟩ := hi.2
          obtain ⟨B0, Bh, g1, g2, g3⟩ := hblk i b hi.1
          exact ⟨_, by rw [hp2 b hb]; exact hs2 i b B' Bh hB' hi.1 g2⟩
        · have hn : ∀ i, ¬ Tu b i := fun i hi => ht ⟨i, hi⟩
          rw [hC'no b v hb hn] at h
          obtain ⟨B, hB⟩ := hM.known b v loc h
          exact ⟨B, by rw [hp2 b hb, hgetno b hn]; exact hB⟩
      · obtain ⟨j, rfl⟩ : ∃ j, b = H.nb + j := ⟨b - H.nb, by omega⟩
        rw [hC'ge] at h
        have hlt := ofL_lt hM1 h
        rw [List.length_append, upd_length] at hlt
        have hj : j < r.2.2.length := by omega
        exact ⟨_, hp3 j _ (List.getElem?_eq_getElem hj)⟩
    · rcases hsrc b v loc h with ⟨hb, hn, g⟩ | ⟨k, g, hk⟩
      · rcases hsrc b' v' loc' h' with ⟨hb', hn', g'⟩ | ⟨k', g', hk'⟩
        · exact hM.sep _ _ _ _ _ _ g g' hne
        · exact hapart _ _ _ _ _ _ hb hn g g'
      · rcases hsrc b' v' loc' h' with ⟨hb', hn', g'⟩ | ⟨k', g', hk'⟩
        · exact fun e => hapart _ _ _ _ _ _ hb' hn' g' g e.symm
        · refine hM1.sep _ _ _ _ _ _ g g' (fun e => ?_)
          rcases hk with ⟨i, rfl, hi, hil⟩ | ⟨j, rfl, rfl⟩
          · rcases hk' with ⟨i', rfl, hi', hil'⟩ | ⟨j', rfl, rfl⟩
            · subst e
              rw [hi] at hi'
              exact hne (Option.some.inj hi')
            · omega
          · rcases hk' with ⟨i', rfl, hi', hil'⟩ | ⟨j', rfl, rfl⟩
            · omega
            · exact hne (by omega)
  refine ⟨C', ⟨hExt, hMem, hS.below, fun b B hB => ?_, fun k hk hn => ?_⟩, ?_⟩
  · have hb := (hM.blk b B hB).1
    by_cases ht : ∃ i, Tu b i
    · obtain ⟨i, hi⟩ := ht
      obtain ⟨B', hB'⟩ := hi.2
      refine ⟨_, by show (pushBs _ r.2.2 Hs).get b = _; rw [hp2 b hb]; exact hs2 i b B' B hB' hi.1 hB, Nat.le_succ _, fun e => absurd e (by show B.stamp + 1 ≠ B.stamp; omega)⟩
    · have hnt : ∀ i, ¬ Tu b i := fun i hi => ht ⟨i, hi⟩
      exact ⟨B, by show (pushBs _ r.2.2 Hs).get b = _; rw [hp2 b hb, hgetno b hnt]; exact hB, Nat.le_refl _, fun _ v loc h => hsame b v loc hnt h⟩
  · obtain ⟨k1, k2⟩ := hS.rest k hk (fun b v loc h => by
      obtain ⟨c, g1, g2⟩ := viewC_at h
      exact hn _ _ _ g2)
    refine ⟨k1, fun b v loc h => ?_⟩
    rcases hsrc b v loc h with ⟨hb, hnn, g⟩ | ⟨k', g, hk'⟩
    · exact hn _ _ _ g
    · exact k2 _ _ _ g
  · obtain ⟨c, us, news⟩ := r
    cases c with
    | val d =>
      obtain ⟨v, rfl, hv⟩ := hval
      exact ⟨v, rfl, renN_den hρ 12 d v hv⟩
    | panic d =>
      obtain ⟨v, rfl, hv⟩ := hval
      exact ⟨v, rfl, renN_den hρ 12 d v hv⟩
end
def HOk (P : Program) (x : HE) : Prop := HContract P x ∧ ∀ r ∈ x.rs, r.2.2.length ≤ 100000 ∧ upsOk x.bs r.2.1 = true
theorem knownH_ok {P : Program} {m : List HE} (h : ∀ x ∈ m, HOk P x) (base : Nat) : CFok P base (knownH m) := by
  intro f args H rs hr C w vs hM hD
  unfold knownH at hr
  split at hr
  · cases hr
  · simp only at hr
    split at hr
    · rename_i hnd hsm
      split at hr
      · rename_i x hx
        cases hr
        obtain ⟨h1, rfl, h3, h4⟩ := findH_spec hx
        exact knownH_step (h x h1).1 hM hD hnd hsm (h x h1).2 rfl h3 h4
      · cases hr
    · cases hr
theorem knownB_ok {P : Program} {m : Memo} {hm : List HE} (h : ∀ x ∈ m, Contract P x) (h' : ∀ x ∈ hm, HOk P x) (base : Nat) : CFok P base (knownB m hm) := by
  intro f args H rs hr
  unfold knownB at hr
  split at hr
  · rename_i ds hds
    cases hr
    exact knownOf_ok h base f args H _ (by simp only [knownOf, hds])
  · exact knownH_ok h' base f args H rs hr
theorem hmemo_nil (P : Program) : ∀ x ∈ ([] : List HE), HOk P x := fun x h => by simp at h
end Go.EV
