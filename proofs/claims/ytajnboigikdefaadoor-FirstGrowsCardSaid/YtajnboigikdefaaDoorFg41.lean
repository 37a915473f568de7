/- Texts that the proof of a law rests on, put together: part 41. -/
import Derived.Test.YtajnboigikdefaaDoorFg40
import Derived.KernelRfl
namespace Go.EV
open Go Go.RowKit
set_option linter.unusedVariables false
set_option linter.unusedSimpArgs false
def verIn (v : Nat) : List (Nat × Nat) → Bool
  | [] => false
  | (a, _) :: r => match Nat.beq a v with
    | true => true
    | false => verIn v r
theorem verIn_spec {v : Nat} : ∀ {l : List (Nat × Nat)}, verIn v l = true → ∃ n, (v, n) ∈ l
  | [], h => by simp [verIn] at h
  | (a, k) :: r, h => by
    simp only [verIn] at h
    split at h
    · rename_i h1
      rw [Nat.eq_of_beq_eq_true h1]
      exact ⟨k, List.mem_cons_self⟩
    · obtain ⟨n, hn⟩ := verIn_spec h
      exact ⟨n, List.mem_cons_of_mem _ hn⟩
noncomputable def relN (H0 : Heap) (m : Nat) (us : List (Option Blk)) (S : Tr Nat) (b0 ver b : Nat) : Bool := match Nat.blt b0 m with
  | true => match Nat.beq b0 b with
    | true => match isUp us b0 with
      | some _ => true
      | none => match H0.get b0 with
        | some B => verIn ver B.vers
        | none => false
    | false => false
  | false => relT S b0 ver b
noncomputable def eqCE (R : Nat → Nat → Nat → Bool) : CE → CE → Bool
  | .val a, .val b => eqN R 12 a b
  | .panic a, .panic b => eqN R 12 a b
  | _, _ => false
noncomputable def givenH (R : Nat → Nat → Nat → Bool) (H1 : Heap) : Nat → List Blk → List (Option Blk) → Bool
  | _, [], _ => true
  | i, B :: r, us => match H1.get i with
    | some B1 => match us with
      | [] => match Nat.beq B1.stamp B.stamp with
        | true => givenH R H1 (i + 1) r []
        | false => false
      | none :: s => match Nat.beq B1.stamp B.stamp with
        | true => givenH R H1 (i + 1) r s
        | false => false
      | some B0 :: s => match eqBlk R B0 B1 with
        | true => givenH R H1 (i + 1) r s
        | false => false
    | none => false
noncomputable def rootsU (H1 : Heap) : Nat → List (Option Blk) → List AV
  | _, [] => []
  | i, none :: s => rootsU H1 (i + 1) s
  | i, some _ :: s => match H1.get i with
    | some B1 => objAs B1.obj (B1.cells ++ rootsU H1 (i + 1) s)
    | none => rootsU H1 (i + 1) s
def allGe (m : Nat) : List Nat → Bool
  | [] => true
  | b :: r => Nat.ble m b && allGe m r
def avOf : CE → AV
  | .val d => d
  | .panic d => d
noncomputable def okR (bs : List Blk) (H0 : Heap) (m : Nat) (c1 : CE) (H1 : Heap) (c0 : CE) (us : List (Option Blk)) (news : List Blk) : Bool :=
  (fun ids => (fun S => Nat.ble news.length 100000 && (upsOk bs us && (allGe m ids && (nodupB ids && (givenH (relN H0 m us S) H1 0 bs us && (eqCE (relN H0 m us S) c0 c1 && chkBs (relN H0 m us S) H1 news ids)))))) (trOf m ids)) (reachN H1 m 100000 (avOf c1 :: rootsU H1 0 us) [])
noncomputable def okRs (bs : List Blk) (H0 : Heap) (m : Nat) : List (CE × Heap) → List (CE × List (Option Blk) × List Blk) → Bool
  | [], [] => true
  | (c1, H1) :: r, (c0, us, news) :: s => match okR bs H0 m c1 H1 c0 us news with
    | true => okRs bs H0 m r s
    | false => false
  | _, _ => false
noncomputable def okRun (bs : List Blk) (x : Option (List (CE × Heap))) (rs : List (CE × List (Option Blk) × List Blk)) : Bool := match small bs.length, x with
  | true, some l => okRs bs (ofL bs) bs.length l rs
  | _, _ => false
theorem okRs_mem {bs : List Blk} {H0 : Heap} {m : Nat} : ∀ {l : List (CE × Heap)} {rs : List (CE × List (Option Blk) × List Blk)}, okRs bs H0 m l rs = true → (∀ r ∈ l, ∃ s ∈ rs, okR bs H0 m r.1 r.2 s.1 s.2.1 s.2.2 = true) ∧ ∀ s ∈ rs, s.2.2.length ≤ 100000 ∧ upsOk bs s.2.1 = true
  | [], [], _ => ⟨fun r hr => by simp at hr, fun s hs => by simp at hs⟩
  | [], _ :: _, h => by simp [okRs] at h
  | (_, _) :: _, [], h => by simp [okRs] at h
  | (c1, H1) :: r, (c0, us, news) :: s, h => by
    simp only [okRs] at h
    split at h
    · rename_i h1
      obtain ⟨g1, g2⟩ := okRs_mem h
      refine ⟨fun x hx => ?_, fun x hx => ?_⟩
      · rcases List.mem_cons.1 hx with rfl | hx
        · exact ⟨_, List.mem_cons_self, h1⟩
        · obtain ⟨y, hy, hy2⟩ := g1 x hx
          exact ⟨y, List.mem_cons_of_mem _ hy, hy2⟩
      · rcases List.mem_cons.1 hx with rfl | hx
        · simp only [okR, Bool.and_eq_true] at h1
          exact ⟨Nat.le_of_ble_eq_true h1.1, h1.2.1⟩
        · exact g2 x hx
    · cases h
theorem allGe_spec {m : Nat} : ∀ {l : List Nat}, allGe m l = true → ∀ b ∈ l, m ≤ b
  | [], _, b, h => by simp at h
  | c :: r, h, b, hb => by
    simp only [allGe, Bool.and_eq_true] at h
    rcases List.mem_cons.1 hb with rfl | hb
    · exact Nat.le_of_ble_eq_true h.1
    · exact allGe_spec h.2 b hb
theorem givenH_spec {R : Nat → Nat → Nat → Bool} {H1 : Heap} : ∀ {bs : List Blk} {i : Nat} {us : List (Option Blk)}, givenH R H1 i bs us = true → ∀ j B, bs[j]? = some B → ∃ B1, H1.get (i + j) = some B1 ∧ match isUp us j with
    | some B0 => eqBlk R B0 B1 = true
    | none => B1.stamp = B.stamp
  | [], i, us, _, j, B, h => by simp at h
  | X :: r, i, us, h, j, B, hB => by
    simp only [givenH] at h
    split at h
    · rename_i B1 hB1
      split at h
      · split at h
        · rename_i he
          cases j with
          | zero => simp at hB; subst hB; exact ⟨B1, hB1, by simpa [isUp] using Nat.eq_of_beq_eq_true he⟩
          | succ j =>
            simp at hB
            rw [show i + (j + 1) = i + 1 + j by omega]
            obtain ⟨B2, k1, k2⟩ := givenH_spec h j B hB
            exact ⟨B2, k1, by simpa [isUp] using k2⟩
        · cases h
      · split at h
        · rename_i he
          cases j with
          | zero => simp at hB; subst hB; exact ⟨B1, hB1, by simpa [isUp] using Nat.eq_of_beq_eq_true he⟩
          | succ j =>
            simp at hB
            rw [show i + (j + 1) = i + 1 + j by omega]
            obtain ⟨B2, k1, k2⟩ := givenH_spec h j B hB
            exact ⟨B2, k1, by simpa [isUp] using k2⟩
        · cases h
      · split at h
        · rename_i he
          cases j with
          | zero => simp at hB; subst hB; exact ⟨B1, hB1, by simpa [isUp] using he⟩
          | succ j =>
            simp at hB
            rw [show i + (j + 1) = i + 1 + j by omega]
            obtain ⟨B2, k1, k2⟩ := givenH_spec h j B hB
            exact ⟨B2, k1, by simpa [isUp] using k2⟩
        · cases h
    · cases h
section
variable {P : Program}
theorem okR_spec {bs : List Blk} {c1 c0 : CE} {H1 : Heap} {us : List (Option Blk)} {news : List Blk} (hsm : small bs.length = true) (h : okR bs (ofL bs) bs.length c1 H1 c0 us news = true) {C C1 : Cx} {base : Nat} {w w' : World} {e : Ending} (hM : Mem C (ofL bs) base w)
    (hS : Step C C1 (ofL bs) H1 base w w') (hv : valOk C1 c1 e) : ∃ C', (∀ b v, b < bs.length → isUp us b = none → C'.at_ b v = C.at_ b v) ∧ Step C C' (ofL bs) (ofL (upd bs us ++ news)) base w w' ∧ valOk C' c0 e := by
  have hsm' : bs.length ≤ 1000000 := Nat.le_of_ble_eq_true hsm
  have hlen := small_lt hsm
  simp only [okR] at h
  generalize hids : reachN H1 bs.length 100000 (avOf c1 :: rootsU H1 0 us) [] = ids at h
  generalize hSS : trOf bs.length ids = S at h
  simp only [Bool.and_eq_true] at h
  obtain ⟨h1, hup, h2, h3, h4, h5, h6⟩ := h
  have hups := upsOk_spec hup
  have hnl : news.length ≤ 100000 := Nat.le_of_ble_eq_true h1
  have hge := allGe_spec h2
  have hinj := nodupB_spec h3
  obtain ⟨hil, hblk⟩ := chkBs_spec h6
  have hlen2 : (upd bs us ++ news).length < 2 ^ 40 - 1 := by rw [List.length_append, upd_length]; omega
  have hSg : ∀ b, S.get b = if bs.length ≤ b then ids[b - bs.length]? else none := fun b => by rw [← hSS]; exact trOf_get ids _ b (by omega)
  have hM1 := hS.mem
  let C' : Cx := ⟨fun b v => if b < bs.length then (match isUp us b with
    | some _ => C1.at_ b v
    | none => C.at_ b v) else match ids[b - bs.length]? with
    | some c => C1.at_ c v
    | none => none, C.unk⟩
  have hno : ∀ b v, b < bs.length → isUp us b = none → C'.at_ b v = C.at_ b v := fun b v h hu => by simp only [C', if_pos h, hu]
  have hyes : ∀ b v B', b < bs.length → isUp us b = some B' → C'.at_ b v = C1.at_ b v := fun b v B' h hu => by simp only [C', if_pos h, hu]
  have hge' : ∀ j v, C'.at_ (bs.length + j) v = match ids[j]? with
    | some c => C1.at_ c v
    | none => none := fun j v => by simp only [C']; rw [if_neg (by omega), Nat.add_sub_cancel_left]
  have hExt : Ext C C' := ⟨fun b v loc h => by
    have hb := ofL_lt hM h
    cases hu : isUp us b with
    | none => rw [hno b v hb hu]; exact h
    | some B' => rw [hyes b v B' hb hu]; exact hS.ext.at_ _ _ _ h, rfl⟩
  have hinv : ∀ b v loc, C'.at_ b v = some loc → (b < bs.length ∧ isUp us b = none ∧ C.at_ b v = some loc) ∨ ∃ c, C1.at_ c v = some loc ∧ ((b < bs.length ∧ isUp us b ≠ none ∧ c = b) ∨ ∃ j, b = bs.length + j ∧ ids[j]? = some c ∧ bs.length ≤ c) := fun b v loc h => by
    by_cases hb : b < bs.length
    · cases hu : isUp us b with
      | none => rw [hno b v hb hu] at h; exact .inl ⟨hb, rfl, h⟩
      | some B' => rw [hyes b v B' hb hu] at h; exact .inr ⟨b, h, .inl ⟨hb, (fun e => by cases e), rfl⟩⟩
    · obtain ⟨j, rfl⟩ : ∃ j, b = bs.length + j := ⟨b - bs.length, by omega⟩
      rw [hge'] at h
      split at h
      · rename_i c hc
        exact .inr ⟨c, h, .inr ⟨j, rfl, hc, hge c (List.mem_of_getElem? hc)⟩⟩
      · cases h
  have hR : ∀ b0 ver b, relN (ofL bs) bs.length us S b0 ver b = true → ∀ loc, C1.at_ b ver = some loc → C'.at_ b0 ver = some loc := fun b0 ver b h loc hl => by
    unfold relN at h
    split at h
    · rename_i hb
      have hb0 : b0 < bs.length := Nat.le_of_ble_eq_true hb
      split at h
      · rename_i he
        have he' := Nat.eq_of_beq_eq_true he
        subst he'
        split at h
        · rename_i B' hu
          rw [hyes b0 ver B' hb0 hu]; exact hl
        · rename_i hu
          split at h
          · rename_i B hB
            obtain ⟨n, hn⟩ := verIn_spec h
            obtain ⟨loc', g1, _⟩ := (hM.blk b0 B hB).2.dom ver n hn
            have := hS.ext.at_ _ _ _ g1
            rw [hl] at this; cases this
            rw [hno b0 ver hb0 hu]; exact g1
          · cases h
      · cases h
    · rename_i hb
      have hb0 : ¬ b0 < bs.length := fun hh => by rw [show Nat.blt b0 bs.length = true from Nat.ble_eq_true_of_le hh] at hb; cases hb
      unfold relT at h
      split at h
      · rename_i c hc
        rw [hSg, if_pos (by omega)] at hc
        rw [show b0 = bs.length + (b0 - bs.length) by omega, hge', hc]
        simp only
        rw [Nat.eq_of_beq_eq_true h]; exact hl
      · cases h
  have hgiven := givenH_spec h4
  have hkeep : ∀ b B, bs[b]? = some B → isUp us b = none → ∀ v loc, C.at_ b v = some loc → w'.heap[loc.blk]? = w.heap[loc.blk]? := fun b B hB hu v loc hl => by
    obtain ⟨B', k1, k2, k3⟩ := hS.keep b B (by rw [ofL_get hlen]; exact hB)
    obtain ⟨B2, k4, k5⟩ := hgiven b B hB
    rw [hu] at k5
    rw [Nat.zero_add, k1] at k4; cases k4
    exact k3 k5 v loc hl
  have hMem : Mem C' (ofL (upd bs us ++ news)) base w' := by
    refine mem_ofL hlen2 (fun i B hB => ?_) (fun b v loc h => ?_) (fun b v loc b' v' loc' h h' hne => ?_) hM1.base
    · by_cases hi : i < bs.length
      · rw [List.getElem?_append_left (by rw [upd_length]; exact hi), upd_get _ _ _ hi] at hB
        cases hu : isUp us i with
        | none =>
          rw [hu] at hB
          simp only at hB
          have := (hM.blk i B (by rw [ofL_get hlen]; exact hB)).2
          exact this.keep hExt (fun v => hno i v hi hu) (fun v loc hl => hkeep i B hB hu v loc hl) hS.below.size
        | some B0 =>
          rw [hu] at hB
          simp only [Option.some.injEq] at hB
          subst hB
          obtain ⟨B2, k4, k5⟩ := hgiven i bs[i] (List.getElem?_eq_getElem hi)
          rw [hu] at k5
          rw [Nat.zero_add] at k4
          exact local_view hR k5 (fun v => hyes i v B0 hi hu) (hM1.blk _ _ k4).2
      · obtain ⟨j, rfl⟩ : ∃ j, i = bs.length + j := ⟨i - bs.length, by omega⟩
        rw [List.getElem?_append_right (by rw [upd_length]; omega), upd_length, Nat.add_sub_cancel_left] at hB
        have hj : j < ids.length := by rw [hil]; exact (List.getElem?_eq_some_iff.1 hB).1
        obtain ⟨B0, X, g1, g2, g3⟩ := hblk j _ (List.getElem?_eq_getElem hj)
        rw [hB] at g1; cases g1
        refine local_view hR g3 (fun v => ?_) (hM1.blk _ _ g2).2
        rw [hge', List.getElem?_eq_getElem hj]
    · rw [List.length_append, upd_length]
      rcases hinv b v loc h with ⟨hb, _⟩ | ⟨c, _, ⟨hb, _⟩ | ⟨j, rfl, hc, _⟩⟩
      · omega
      · omega
      · have := (List.getElem?_eq_some_iff.1 hc).1
        omega
    · rcases hinv b v loc h with ⟨hb, hu, g⟩ | ⟨c, g, hk⟩
      · rcases hinv b' v' loc' h' with ⟨hb', hu', g'⟩ | ⟨c', g', hk'⟩
        · exact hM.sep _ _ _ _ _ _ g g' hne
        · refine hM1.sep _ _ _ _ _ _ (hS.ext.at_ _ _ _ g) g' (fun e => ?_)
          rcases hk' with ⟨hb', hu', rfl⟩ | ⟨j', rfl, hc', hm'⟩
          · exact hne e
          · omega
      · rcases hinv b' v' loc' h' with ⟨hb', hu', g'⟩ | ⟨c', g', hk'⟩
        · refine hM1.sep _ _ _ _ _ _ g (hS.ext.at_ _ _ _ g') (fun e => ?_)
          rcases hk with ⟨hb, hu, rfl⟩ | ⟨j, rfl, hc, hm⟩
          · exact hne e
          · omega
        · refine hM1.sep _ _ _ _ _ _ g g' (fun e => ?_)
          rcases hk with ⟨hb, hu, rfl⟩ | ⟨j, rfl, hc, hm⟩
          · rcases hk' with ⟨hb', hu', rfl⟩ | ⟨j', rfl, hc', hm'⟩
            · exact hne e
            · omega
          · rcases hk' with ⟨hb', hu', rfl⟩ | ⟨j', rfl, hc', hm'⟩
            · omega
            · exact hne (by rw [hinj j j' c hc (e ▸ hc')])
  refine ⟨C', hno, ⟨hExt, hMem, hS.below, fun b B hB => ?_, fun k hk hn => ?_⟩, ?_⟩
  · rw [ofL_get hlen] at hB
    have hb := (List.getElem?_eq_some_iff.1 hB).1
    cases hu : isUp us b with
    | none =>
      refine ⟨B, ?_, Nat.le_refl _, fun _ v loc hl => hkeep b B hB hu v loc hl⟩
      rw [ofL_get hlen2, List.getElem?_append_left (by rw [upd_length]; exact hb), upd_get _ _ _ hb, hu]
      exact hB
    | some B0 =>
      obtain ⟨B2, k1, k2⟩ := hups b B0 hu
      rw [hB] at k1; cases k1
      refine ⟨B0, ?_, by omega, fun e => absurd e (by omega)⟩
      rw [ofL_get hlen2, List.getElem?_append_left (by rw [upd_length]; exact hb), upd_get _ _ _ hb, hu]
  · obtain ⟨k1, k2⟩ := hS.rest k hk hn
    refine ⟨k1, fun b v loc h => ?_⟩
    rcases hinv b v loc h with ⟨_, _, g⟩ | ⟨c, g, _⟩
    · exact hn _ _ _ g
    · exact k2 _ _ _ g
  · cases c0 with
    | val d0 =>
      cases c1 with
      | val d =>
        obtain ⟨v, rfl, hd⟩ := hv
        exact ⟨v, rfl, eqN_den hR 12 d0 d v h5 hd⟩
      | panic d => simp [eqCE] at h5
    | panic d0 =>
      cases c1 with
      | val d => simp [eqCE] at h5
      | panic d =>
        obtain ⟨v, rfl, hd⟩ := hv
        exact ⟨v, rfl, eqN_den hR 12 d0 d v h5 hd⟩
theorem hok_eq {m : Memo} {hm : List HE} (hmo : ∀ x ∈ m, Contract P x) (hho : ∀ x ∈ hm, HOk P x) (hf : P.follows .mixedOrders = true) {lf k : Nat} {x : HE} (h : okRun x.bs (callA P (knownB m hm) lf k x.f x.args (ofL x.bs)) x.rs = true) : HOk P x := by
  unfold okRun at h
  split at h
  · rename_i l hsm hl
    obtain ⟨g1, g2⟩ := okRs_mem h
    have hsm' : x.bs.length ≤ 1000000 := Nat.le_of_ble_eq_true hsm
    refine ⟨⟨⟨by omega, fun r hr => by have := (g2 r hr).1; omega⟩, fun C base w vs hM hD => ?_⟩, g2⟩
    refine (callA_spec (knownB_ok hmo hho base) hf k x.f x.args (ofL x.bs) l hl C w vs hM hD).mono fun e w' he => ?_
    obtain ⟨r, hr, C1, hS, hv⟩ := he
    obtain ⟨s, hs, hok⟩ := g1 r hr
    obtain ⟨C', a1, a2, a3⟩ := okR_spec hsm hok hM hS (e := e) (by
      obtain ⟨c, H1⟩ := r
      cases c <;> exact hv)
    exact ⟨s, hs, C', a1, a2, a3⟩
  · cases h
end
end Go.EV
