/- Of no program: how a contract over given memory is made by one evaluation. -/
import Derived.Test.YtcmffeaoailoiaaDoorEView2
import Derived.KernelRfl
namespace Go.EV
open Go Go.RowKit
set_option linter.unusedVariables false
set_option linter.unusedSimpArgs false

def verIn (v : Nat) : List (Nat × Nat) → Bool
  | [] => false
  | (a, _) :: r => match Nat.beq a v with
    | true => true
    | false => verIn v r
theorem verIn_spec {v : Nat} : ∀ {l : List (Nat × Nat)}, verIn v l = true → ∃ n, (v, n) ∈ l
  | [], h => by simp [verIn] at h
  | (a, k) :: r, h => by
    simp only [verIn] at h
    split at h
    · rename_i h1
      rw [Nat.eq_of_beq_eq_true h1]
      exact ⟨k, List.mem_cons_self⟩
    · obtain ⟨n, hn⟩ := verIn_spec h
      exact ⟨n, List.mem_cons_of_mem _ hn⟩
noncomputable def relN (H0 : Heap) (m : Nat) (S : Tr Nat) (b0 ver b : Nat) : Bool := match Nat.blt b0 m with
  | true => match Nat.beq b0 b with
    | true => match H0.get b0 with
      | some B => verIn ver B.vers
      | none => false
    | false => false
  | false => relT S b0 ver b
noncomputable def eqCE (R : Nat → Nat → Nat → Bool) : CE → CE → Bool
  | .val a, .val b => eqN R 12 a b
  | .panic a, .panic b => eqN R 12 a b
  | _, _ => false
/-- The blocks that were given are as they were. -/
noncomputable def stampsH (H1 : Heap) : Nat → List Blk → Bool
  | _, [] => true
  | i, B :: r => match H1.get i with
    | some B' => match Nat.beq B'.stamp B.stamp with
      | true => stampsH H1 (i + 1) r
      | false => false
    | none => false
def allGe (m : Nat) : List Nat → Bool
  | [] => true
  | b :: r => Nat.ble m b && allGe m r
def avOf : CE → AV
  | .val d => d
  | .panic d => d
noncomputable def okR (bs : List Blk) (H0 : Heap) (m : Nat) (c1 : CE) (H1 : Heap) (c0 : CE) (news : List Blk) : Bool :=
  (fun ids => (fun S => Nat.ble news.length 100000 && (allGe m ids && (nodupB ids && (stampsH H1 0 bs && (eqCE (relN H0 m S) c0 c1 && chkBs (relN H0 m S) H1 news ids))))) (trOf m ids)) (reachN H1 m 100000 [avOf c1] [])
noncomputable def okRs (bs : List Blk) (H0 : Heap) (m : Nat) : List (CE × Heap) → List (CE × List Blk) → Bool
  | [], [] => true
  | (c1, H1) :: r, (c0, news) :: s => match okR bs H0 m c1 H1 c0 news with
    | true => okRs bs H0 m r s
    | false => false
  | _, _ => false
noncomputable def okRun (bs : List Blk) (x : Option (List (CE × Heap))) (rs : List (CE × List Blk)) : Bool := match small bs.length, x with
  | true, some l => okRs bs (ofL bs) bs.length l rs
  | _, _ => false
theorem okRs_mem {bs : List Blk} {H0 : Heap} {m : Nat} : ∀ {l : List (CE × Heap)} {rs : List (CE × List Blk)}, okRs bs H0 m l rs = true → (∀ r ∈ l, ∃ s ∈ rs, okR bs H0 m r.1 r.2 s.1 s.2 = true) ∧ ∀ s ∈ rs, s.2.length ≤ 100000
  | [], [], _ => ⟨fun r hr => by simp at hr, fun s hs => by simp at hs⟩
  | [], _ :: _, h => by simp [okRs] at h
  | (_, _) :: _, [], h => by simp [okRs] at h
  | (c1, H1) :: r, (c0, news) :: s, h => by
    simp only [okRs] at h
    split at h
    · rename_i h1
      obtain ⟨g1, g2⟩ := okRs_mem h
      refine ⟨fun x hx => ?_, fun x hx => ?_⟩
      · rcases List.mem_cons.1 hx with rfl | hx
        · exact ⟨_, List.mem_cons_self, h1⟩
        · obtain ⟨y, hy, hy2⟩ := g1 x hx
          exact ⟨y, List.mem_cons_of_mem _ hy, hy2⟩
      · rcases List.mem_cons.1 hx with rfl | hx
        · simp only [okR, Bool.and_eq_true] at h1
          exact Nat.le_of_ble_eq_true h1.1
        · exact g2 x hx
    · cases h
theorem allGe_spec {m : Nat} : ∀ {l : List Nat}, allGe m l = true → ∀ b ∈ l, m ≤ b
  | [], _, b, h => by simp at h
  | c :: r, h, b, hb => by
    simp only [allGe, Bool.and_eq_true] at h
    rcases List.mem_cons.1 hb with rfl | hb
    · exact Nat.le_of_ble_eq_true h.1
    · exact allGe_spec h.2 b hb
theorem stampsH_spec {H1 : Heap} : ∀ {bs : List Blk} {i : Nat}, stampsH H1 i bs = true → ∀ j B, bs[j]? = some B → ∃ B', H1.get (i + j) = some B' ∧ B'.stamp = B.stamp
  | [], i, _, j, B, h => by simp at h
  | X :: r, i, h, j, B, hB => by
    simp only [stampsH] at h
    split at h
    · rename_i B' hB'
      split at h
      · rename_i he
        cases j with
        | zero => simp at hB; subst hB; exact ⟨B', hB', Nat.eq_of_beq_eq_true he⟩
        | succ j =>
          simp at hB
          rw [show i + (j + 1) = i + 1 + j by omega]
          exact stampsH_spec h j B hB
      · cases h
    · cases h
section
variable {P : Program}
theorem okR_spec {bs : List Blk} {c1 c0 : CE} {H1 : Heap} {news : List Blk} (hsm : small bs.length = true) (h : okR bs (ofL bs) bs.length c1 H1 c0 news = true) {C C1 : Cx} {base : Nat} {w w' : World} {e : Ending} (hM : Mem C (ofL bs) base w)
    (hS : Step C C1 (ofL bs) H1 base w w') (hv : valOk C1 c1 e) : ∃ C', (∀ b v, b < bs.length → C'.at_ b v = C.at_ b v) ∧ Step C C' (ofL bs) (ofL (bs ++ news)) base w w' ∧ valOk C' c0 e := by
  have hsm' : bs.length ≤ 1000000 := Nat.le_of_ble_eq_true hsm
  have hlen := small_lt hsm
  simp only [okR] at h
  generalize hids : reachN H1 bs.length 100000 [avOf c1] [] = ids at h
  generalize hSS : trOf bs.length ids = S at h
  simp only [Bool.and_eq_true] at h
  obtain ⟨h1, h2, h3, h4, h5, h6⟩ := h
  have hnl : news.length ≤ 100000 := Nat.le_of_ble_eq_true h1
  have hge := allGe_spec h2
  have hinj := nodupB_spec h3
  obtain ⟨hil, hblk⟩ := chkBs_spec h6
  have hlen2 : (bs ++ news).length < 2 ^ 40 - 1 := by rw [List.length_append]; omega
  have hSg : ∀ b, S.get b = if bs.length ≤ b then ids[b - bs.length]? else none := fun b => by rw [← hSS]; exact trOf_get ids _ b (by omega)
  have hM1 := hS.mem
  let C' : Cx := ⟨fun b v => if b < bs.length then C.at_ b v else match ids[b - bs.length]? with
    | some c => C1.at_ c v
    | none => none, C.unk⟩
  have hlt : ∀ b v, b < bs.length → C'.at_ b v = C.at_ b v := fun b v h => by simp only [C', if_pos h]
  have hge' : ∀ j v, C'.at_ (bs.length + j) v = match ids[j]? with
    | some c => C1.at_ c v
    | none => none := fun j v => by simp only [C']; rw [if_neg (by omega), Nat.add_sub_cancel_left]
  have hExt : Ext C C' := ⟨fun b v loc h => by rw [hlt b v (ofL_lt hM h)]; exact h, rfl⟩
  have hinv : ∀ b v loc, C'.at_ b v = some loc → (b < bs.length ∧ C.at_ b v = some loc) ∨ ∃ j c, b = bs.length + j ∧ ids[j]? = some c ∧ bs.length ≤ c ∧ C1.at_ c v = some loc := fun b v loc h => by
    by_cases hb : b < bs.length
    · rw [hlt b v hb] at h; exact .inl ⟨hb, h⟩
    · obtain ⟨j, rfl⟩ : ∃ j, b = bs.length + j := ⟨b - bs.length, by omega⟩
      rw [hge'] at h
      split at h
      · rename_i c hc
        exact .inr ⟨j, c, rfl, hc, hge c (List.mem_of_getElem? hc), h⟩
      · cases h
  have hR : ∀ b0 ver b, relN (ofL bs) bs.length S b0 ver b = true → ∀ loc, C1.at_ b ver = some loc → C'.at_ b0 ver = some loc := fun b0 ver b h loc hl => by
    unfold relN at h
    split at h
    · rename_i hb
      have hb0 : b0 < bs.length := Nat.le_of_ble_eq_true hb
      split at h
      · rename_i he
        have he' := Nat.eq_of_beq_eq_true he
        subst he'
        split at h
        · rename_i B hB
          obtain ⟨n, hn⟩ := verIn_spec h
          obtain ⟨loc', g1, _⟩ := (hM.blk b0 B hB).2.dom ver n hn
          have := hS.ext.at_ _ _ _ g1
          rw [hl] at this; cases this
          rw [hlt b0 ver hb0]; exact g1
        · cases h
      · cases h
    · rename_i hb
      have hb0 : ¬ b0 < bs.length := fun hh => by rw [show Nat.blt b0 bs.length = true from Nat.ble_eq_true_of_le hh] at hb; cases hb
      unfold relT at h
      split at h
      · rename_i c hc
        rw [hSg, if_pos (by omega)] at hc
        rw [show b0 = bs.length + (b0 - bs.length) by omega, hge', hc]
        simp only
        rw [Nat.eq_of_beq_eq_true h]; exact hl
      · cases h
  have hkeep : ∀ b B, bs[b]? = some B → ∀ v loc, C.at_ b v = some loc → w'.heap[loc.blk]? = w.heap[loc.blk]? := fun b B hB v loc hl => by
    obtain ⟨B', k1, k2, k3⟩ := hS.keep b B (by rw [ofL_get hlen]; exact hB)
    obtain ⟨B2, k4, k5⟩ := stampsH_spec h4 b B hB
    rw [Nat.zero_add, k1] at k4; cases k4
    exact k3 k5 v loc hl
  have hMem : Mem C' (ofL (bs ++ news)) base w' := by
    refine mem_ofL hlen2 (fun i B hB => ?_) (fun b v loc h => ?_) (fun b v loc b' v' loc' h h' hne => ?_) hM1.base
    · by_cases hi : i < bs.length
      · rw [List.getElem?_append_left hi] at hB
        have := (hM.blk i B (by rw [ofL_get hlen]; exact hB)).2
        exact this.keep hExt (fun v => hlt i v hi) (fun v loc hl => hkeep i B hB v loc hl) hS.below.size
      · obtain ⟨j, rfl⟩ : ∃ j, i = bs.length + j := ⟨i - bs.length, by omega⟩
        rw [List.getElem?_append_right (by omega), Nat.add_sub_cancel_left] at hB
        have hj : j < ids.length := by rw [hil]; exact (List.getElem?_eq_some_iff.1 hB).1
        obtain ⟨B0, X, g1, g2, g3⟩ := hblk j _ (List.getElem?_eq_getElem hj)
        rw [hB] at g1; cases g1
        refine local_view hR g3 (fun v => ?_) (hM1.blk _ _ g2).2
        rw [hge', List.getElem?_eq_getElem hj]
    · rw [List.length_append]
      rcases hinv b v loc h with ⟨hb, _⟩ | ⟨j, c, rfl, hc, _⟩
      · omega
      · have := (List.getElem?_eq_some_iff.1 hc).1
        omega
    · rcases hinv b v loc h with ⟨hb, g⟩ | ⟨j, c, rfl, hc, hcm, g⟩
      · rcases hinv b' v' loc' h' with ⟨hb', g'⟩ | ⟨j', c', rfl, hc', hcm', g'⟩
        · exact hM.sep _ _ _ _ _ _ g g' hne
        · exact hM1.sep _ _ _ _ _ _ (hS.ext.at_ _ _ _ g) g' (by omega)
      · rcases hinv b' v' loc' h' with ⟨hb', g'⟩ | ⟨j', c', rfl, hc', hcm', g'⟩
        · exact hM1.sep _ _ _ _ _ _ g (hS.ext.at_ _ _ _ g') (by omega)
        · exact hM1.sep _ _ _ _ _ _ g g' (fun e => hne (by rw [hinj j j' c hc (e ▸ hc')]))
  refine ⟨C', hlt, ⟨hExt, hMem, hS.below, fun b B hB => ?_, fun k hk hn => ?_⟩, ?_⟩
  · rw [ofL_get hlen] at hB
    have hb := (List.getElem?_eq_some_iff.1 hB).1
    exact ⟨B, by rw [ofL_get hlen2, List.getElem?_append_left hb]; exact hB, Nat.le_refl _, fun _ v loc hl => hkeep b B hB v loc hl⟩
  · obtain ⟨k1, k2⟩ := hS.rest k hk hn
    refine ⟨k1, fun b v loc h => ?_⟩
    rcases hinv b v loc h with ⟨_, g⟩ | ⟨j, c, _, _, _, g⟩
    · exact hn _ _ _ g
    · exact k2 _ _ _ g
  · cases c0 with
    | val d0 =>
      cases c1 with
      | val d =>
        obtain ⟨v, rfl, hd⟩ := hv
        exact ⟨v, rfl, eqN_den hR 12 d0 d v h5 hd⟩
      | panic d => simp [eqCE] at h5
    | panic d0 =>
      cases c1 with
      | val d => simp [eqCE] at h5
      | panic d =>
        obtain ⟨v, rfl, hd⟩ := hv
        exact ⟨v, rfl, eqN_den hR 12 d0 d v h5 hd⟩
/-- A call that is carried out over such memory is known. -/
theorem hok_eq {m : Memo} {hm : List HE} (hmo : ∀ x ∈ m, Contract P x) (hho : ∀ x ∈ hm, HOk P x) (hf : P.follows .mixedOrders = true) {lf k : Nat} {x : HE} (h : okRun x.bs (callA P (knownB m hm) lf k x.f x.args (ofL x.bs)) x.rs = true) : HOk P x := by
  unfold okRun at h
  split at h
  · rename_i l hsm hl
    obtain ⟨g1, g2⟩ := okRs_mem h
    have hsm' : x.bs.length ≤ 1000000 := Nat.le_of_ble_eq_true hsm
    refine ⟨⟨⟨by omega, fun r hr => by have := g2 r hr; omega⟩, fun C base w vs hM hD => ?_⟩, g2⟩
    refine (callA_spec (knownB_ok hmo hho base) hf k x.f x.args (ofL x.bs) l hl C w vs hM hD).mono fun e w' he => ?_
    obtain ⟨r, hr, C1, hS, hv⟩ := he
    obtain ⟨s, hs, hok⟩ := g1 r hr
    obtain ⟨C', a1, a2, a3⟩ := okR_spec hsm hok hM hS (e := e) (by
      obtain ⟨c, H1⟩ := r
      cases c <;> exact hv)
    exact ⟨s, hs, C', a1, a2, a3⟩
  · cases h
/-- One with flat arguments and flat results. -/
theorem flat_eq {m : Memo} {hm : List HE} (hmo : ∀ x ∈ m, Contract P x) (hho : ∀ x ∈ hm, HOk P x) (hf : P.follows .mixedOrders = true) {lf k : Nat} {f : FuncId} {args ds : List AV} (ha : args.all argOk = true) (h : eqO (valsO (callA P (knownB m hm) lf k f args H0)) ds = true) : Contract P (f, args, ds) := by
  unfold eqO at h
  split at h
  · rename_i l hl
    rw [← beqAs_spec h]
    intro C w vs hD
    have hD0 : Dens C0 args vs := ⟨hD.1, fun i d u hd hu => argOk_den (List.all_eq_true.1 ha d (List.mem_of_getElem? hd)) (hD.2 i d u hd hu)⟩
    unfold valsO at hl
    split at hl
    · rename_i l' hl'
      refine (callA_spec (knownB_ok hmo hho w.heap.size) hf k f args H0 l' hl' C0 w vs (mem0 w) hD0).mono fun e w' he => ?_
      obtain ⟨r, hr, C', hS, hr2⟩ := he
      obtain ⟨d, v0, e1, e2, e3⟩ := vals_mem hl r hr
      rw [e1] at hr2
      obtain ⟨v, rfl, hDv⟩ := hr2
      exact ⟨d, e2, v, rfl, fun C2 => by rw [concN_spec C' 20 d v0 v e3 hDv]; exact concN_den C2 20 d v0 e3, hS.below⟩
    · cases hl
  · cases h
end
end Go.EV
