/- Texts that the proof of a law rests on, put together: part 27. -/
import Derived.Test.YtajnboigikdefaaDoorFg26
namespace Go.EV
open Go Go.RowKit
set_option linter.unusedVariables false
set_option linter.unusedSimpArgs false
section
variable {P : Program} {cf : CF} {n base : Nat} {ops : Array Oper}
theorem nodup_le : ∀ (X Fl : List Nat), X.Nodup → (∀ x ∈ X, x ∈ Fl) → X.length ≤ Fl.length
  | [], Fl, _, _ => Nat.zero_le _
  | x :: r, Fl, hn, h => by
    rw [List.nodup_cons] at hn
    have hx := h x List.mem_cons_self
    have := nodup_le r (Fl.erase x) hn.2 (fun y hy => (List.mem_erase_of_ne (fun e => hn.1 (by rw [← e]; exact hy))).2 (h y (List.mem_cons_of_mem _ hy)))
    rw [List.length_erase_of_mem hx] at this
    have hpos : 0 < Fl.length := List.length_pos_of_mem hx
    simp only [List.length_cons]; omega
def PairOk (ops : Array Oper) (Fl : List Nat) : Prop := ∀ x ∈ Fl, ∀ y ∈ Fl, x ≠ y → clearB ops y [x] = true
theorem FX.keep {C : Cx} {E : EnvA} {a a' : Act} {w w' : World} {m x g : Nat} (h : FX P ops C E a w m x g) (ha : ∀ ox t, ops[x]? = some ox → ox.dst = some t → a'.tmps[t]? = a.tmps[t]?) (hg : w'.heap[g]? = w.heap[g]?) : FX P ops C E a' w' m x g := by
  obtain ⟨o, t, fs, cs, el, arr, h1, h2, h3, h4, h5, h6⟩ := h
  exact ⟨o, t, fs, cs, el, arr, h1, h2, h3, (ha o t h1 h2).trans h4, hg.trans h5, h6⟩
theorem RdOk.step {C C' : Cx} {w w' : World} {L : Array Bool} {rd : Rd} {fs : Facts} (h : RdOk C w L rd fs) (hE : Ext C C') (hk : ∀ x ∈ rd, ∀ v loc, C.at_ x.1 v = some loc → w'.heap[loc.blk]? = w.heap[loc.blk]?) : RdOk C' w' L rd fs := fun f hf => by
  rcases h f hf with h1 | ⟨x, hx, h1, h2⟩
  · exact .inl h1
  · exact .inr ⟨x, hx, h1, fun w2 hw2 => h2 w2 (fun v loc hl => by rw [hw2 v loc (hE.at_ _ _ _ hl), hk x hx v loc hl])⟩
theorem RdOk.rest {C : Cx} {w : World} {L : Array Bool} {rd : Rd} {fs : Facts} (h : RdOk C w L rd fs) {i : Nat} (hi : L.getD i true = true) : RdOk C w L (restRd i rd) fs := fun f hf => by
  rcases h f hf with h1 | ⟨x, hx, h1, h2⟩
  · exact .inl h1
  · by_cases hn : i ∈ x.2.2
    · exact .inl ⟨i, h1 ▸ hn, hi⟩
    · exact .inr ⟨x, (mem_restRd).1 hx hn, h1, h2⟩
theorem evalPlan_spec (hcf : CFok P base cf) (hns : Region.noSelect ops = true) {C0 : Cx} {H0 : Heap} {w0 : World} (hbase : base ≤ w0.heap.size) {Q : Exit → Act → World → Prop} (hpq : ∀ (i : Nat) (o : Oper), ops[i]? = some o → ∀ c a w v, Q (.panic c) (a.put o.dst v) w → Q (.panic c) a w) : ∀ (l : Plan) (L : Array Bool) (Fl : List Nat) (rd : Rd) (s : St) (C : Cx) (a : Act) (w : World) (rs : List (XE × St)) (fs : Facts) (X : List Nat) (γ : Nat → Nat) (Lc : Array Bool) (fuel : Nat),
    planOk ops (XW.summ ops) l L Fl = true → evalPlan P cf n ops l rd s = some rs → Goes C0 C n base H0 s w0 a w → FlOk P n ops s.E Fl → PairOk ops Fl → (∀ x ∈ X, x ∈ Fl) → X.Nodup → (∀ x ∈ X, ∀ y ∈ X, γ x = γ y → x = y) → (∀ x ∈ X, FX P ops C s.E a w w0.heap.size x (γ x)) →
    LcOk L X Lc → Lc.size = L.size → RdOk C w Lc rd fs → FOk ops fs → stampsOk s.H rd = true →
    (∀ x s' C' a' w' e, (x, s') ∈ rs → Goes C0 C' n base H0 s' w0 a' w' → ExOk C' x e → Q e a' w') → fuel + X.length = cnt l → anyG P .any ops Q (SF fs) fuel Lc a w
  | [], L, Fl, rd, s, C, a, w, rs, fs, X, γ, Lc, fuel, hp, h, hG, hFl, hPC, hX, hnd, hγ, hFX, hLc, hsz, hS, hF, hst, hQ, hfuel => by
    simp only [planOk, Bool.and_eq_true] at hp
    have hFn := isNil_spec hp.1
    have hXn : X = [] := by
      cases X with
      | nil => rfl
      | cons x r => have := hX x List.mem_cons_self; rw [hFn] at this; simp at this
    subst hXn
    simp only [evalPlan, Option.some.injEq] at h
    subst h
    have hready : Region.ready .any ops Lc = [] := by
      cases hr : Region.ready .any ops Lc with
      | nil => rfl
      | cons j r =>
        have hj : j ∈ Region.ready .any ops Lc := by rw [hr]; exact List.mem_cons_self
        obtain ⟨h1, o, h2, h3⟩ := mem_ready.1 hj
        have : j ∈ Region.ready .any ops L := mem_ready.2 ⟨by rw [← hLc.off j true (by simp)]; exact h1, o, h2, fun e he hb => by rw [← hLc.off _ _ (by simp)]; exact h3 e he hb⟩
        rw [isNil_spec hp.2] at this
        simp at this
    exact anyG_done hready (hQ .normal s C a w .normal (List.mem_singleton.2 rfl) hG rfl) _
  | .free i D :: r, L, Fl, rd, s, C, a, w, rs, fs, X, γ, Lc, fuel, hp, h, hG, hFl, hPC, hX, hnd, hγ, hFX, hLc, hsz, hS, hF, hst, hQ, hfuel => by
    simp only [planOk, Bool.and_eq_true] at hp
    obtain ⟨⟨hfree, hdep, hun, hdj⟩, ⟨hup, hcl, hle⟩, hp⟩ := hp
    obtain ⟨hfr, hrd⟩ := XW.upI_spec rfl hup
    simp only [evalPlan] at h
    have hR := hG.rel
    have hf := hR.env.fine
    have hsel := Region.noSelect_spec hns
    have hiX : i ∉ X := fun hm => by
      obtain ⟨o, t, r', h1, h2, _⟩ := hFl i (hX i hm)
      simp only [isFloatO, Bool.and_eq_true] at h2
      simp only [isFree, h1] at hfree
      cases hop : o.op <;> rw [hop] at h2 hfree <;> simp [floatK, freeOp] at h2 hfree
    have hrdc : i ∈ Region.ready .any ops Lc := ready_of hLc (by simpa using hrd) hiX
    have hXle : X.length ≤ cnt r := by
      have h1 : X.length ≤ Fl.length := nodup_le X Fl hnd hX
      have := Nat.le_of_ble_eq_true hle
      omega
    obtain ⟨fuel, rfl⟩ : ∃ k, fuel = k + 1 := ⟨fuel - 1, by simp only [cnt] at hfuel; omega⟩
    have hfuel' : fuel + X.length = cnt r := by simp only [cnt] at hfuel; omega
    split at h
    · cases h
    · rename_i o ho
      have hund : und D Lc := fun k hk => by
        have hkX : k ∉ X := fun hm => disjN_spec hdj k (hX k hm) hk
        rw [hLc.off k true hkX]; exact undB_spec hun k hk
      have hfree' : ∀ j oj, ops[j]? = some oj → j ≠ i → Lc.getD j true = false → (∀ e ∈ oj.after, Region.binds .any e = true → e.on ≠ i) → o.apart ops oj = true := fun j oj hoj hji hj hno => by
        have hjX : j ∉ X := fun hm => by rw [hLc.on j true hm] at hj; cases hj
        exact Region.free_spec ho hfr j oj hoj hji (by rw [← hLc.off j true hjX]; exact hj) hno
      have first : ∀ (fs' : Facts) (v : Value), FOk ops fs' → SF fs' Lc w → YieldsIf P ops (star (SF fs') D) o v a → anyG P .any ops Q (SF fs') fuel (Lc.setIfInBounds i true) (a.put o.dst v) w → anyG P .any ops Q (SF fs') (fuel + 1) Lc a w :=
        fun fs' v hF' hS' hy hK => anyG_first ho hsel (fun c a w h => hpq i o ho c a w _ h) (depOk_spec hdep) (SF_take hF' hfree) (fun L w h => SF_put L w h) _ Lc a w hfree' hrdc hy hund hS' hK
      have next : ∀ (E' : EnvA) (d : AV) (v : Value) (rd' : Rd) (fs' : Facts), putA n s.E o.dst d = some E' → Den C d v → evalPlan P cf n ops r rd' ⟨E', s.H, s.ds⟩ = some rs → RdOk C w Lc rd' fs' → FOk ops fs' → stampsOk s.H rd' = true → anyG P .any ops Q (SF fs') fuel (Lc.setIfInBounds i true) (a.put o.dst v) w := by
        intro E' d v rd' fs' hE hD he hS' hF' hst'
        refine evalPlan_spec hcf hns hbase hpq r (L.setIfInBounds i true) Fl rd' ⟨E', s.H, s.ds⟩ C _ w rs fs' X γ (Lc.setIfInBounds i true) fuel hp he ⟨hG.step, hR.env.put hE hD, by rw [put_defers]; exact hG.ds⟩ (hFl.put ho hE hcl) hPC hX hnd hγ ?_ (hLc.set hsz i) (by simpa using hsz) (hS'.set i) hF' hst' hQ hfuel'
        exact fun x hx => (hFX x hx).put (Step.refl hR.mem) ho hE (clearB_one hcl (hX x hx)) (fun t ht => put_other a ht)
      split at h
      · cases h
      · rename_i hw
        split at h
        · rename_i E' hE
          exact first fs undef hF hS.sf (.inr ⟨hR.env.wanted hw, rfl⟩) (next E' undefA undef rd fs hE (.lit _) h hS hF hst)
        · cases h
      · rename_i hw
        split at h
        · rename_i t p hop
          split at h
          · rename_i dp hdp
            split at h
            · rename_i d b hl
              split at h
              · rename_i B E' hB hE
                obtain ⟨v, hD, hr⟩ := load_spec (P := P) hR.mem hl (hf p _ hdp)
                let F : World → Prop := fun w' => ∀ ver loc, C.at_ b ver = some loc → w'.heap[loc.blk]? = w.heap[loc.blk]?
                have hF' : FOk ops ((effs ops D, F) :: fs) := fun f hf' k hk => by
                  rcases List.mem_cons.1 hf' with e | hf'
                  · subst e; exact (mem_effs hk).2
                  · exact hF f hf' k hk
                have hS' : RdOk C w Lc ((b, B.stamp, effs ops D) :: rd) ((effs ops D, F) :: fs) := fun f hf' => by
                  rcases List.mem_cons.1 hf' with e | hf'
                  · subst e; exact .inr ⟨_, List.mem_cons_self, rfl, fun w' hw' => hw'⟩
                  · rcases hS f hf' with h1 | ⟨x, hx, h1⟩
                    · exact .inl h1
                    · exact .inr ⟨x, List.mem_cons_of_mem _ hx, h1⟩
                refine anyG_mono (S := SF ((effs ops D, F) :: fs)) (fun L w h f hf' => h f (List.mem_cons_of_mem _ hf')) _ _ _ _ ?_
                refine first ((effs ops D, F) :: fs) v hF' hS'.sf (.inl ⟨hR.env.wanted hw, fun w' hw' => ?_⟩) ?_
                · obtain ⟨L', hu', hS2⟩ := hw'
                  have hFw : F w' := hS2 _ List.mem_cons_self (fun k hk => hu' k (mem_effs hk).1)
                  simp [execOp, hop, hr w' hFw]
                · refine next E' d v _ _ hE hD h hS' hF' ?_
                  simp only [stampsOk, hB, Bool.and_eq_true]
                  exact ⟨Nat.beq_refl _, hst⟩
              · cases h
            · cases h
          · cases h
        · split at h
          · rename_i d hpl
            split at h
            · rename_i E' hE
              obtain ⟨v, hD, hr⟩ := plain_spec hR.mem hf hpl
              exact first fs v hF hS.sf (.inl ⟨hR.env.wanted hw, fun w' _ => hr w'⟩) (next E' d v rd fs hE hD h hS hF hst)
            · cases h
          · cases h
  | .reg i :: r, L, Fl, rd, s, C, a, w, rs, fs, X, γ, Lc, fuel, hp, h, hG, hFl, hPC, hX, hnd, hγ, hFX, hLc, hsz, hS, hF, hst, hQ, hfuel => by
    simp only [planOk, Bool.and_eq_true, Bool.not_eq_true'] at hp
    obtain ⟨⟨hfl, hrdy, hnin⟩, ⟨hcl, hclr⟩, hp⟩ := hp
    simp only [evalPlan] at h
    split at h
    · cases h
    · rename_i o ho
      split at h
      · rename_i E' hE
        split at h
        · rename_i fr hfa
          have hiso : isFloatO o = true := by simpa [isFloatI, ho] using hfl
          have hdst : ∃ t, o.dst = some t := by
            simp only [isFloatO, Bool.and_eq_true] at hiso
            exact Option.isSome_iff_exists.1 hiso.2.2
          obtain ⟨t, ht⟩ := hdst
          refine evalPlan_spec hcf hns hbase hpq r L (i :: Fl) rd ⟨E', s.H, s.ds⟩ C a w rs fs X γ Lc fuel hp h ⟨hG.step, hG.env.hole hE, hG.ds⟩ ?_ ?_ (fun x hx => List.mem_cons_of_mem _ (hX x hx)) hnd hγ ?_ hLc hsz hS hF hst hQ hfuel
          · intro x hx
            rcases List.mem_cons.1 hx with e | hx
            · subst e
              rw [ht] at hE
              simp only [putA] at hE
              split at hE
              · rename_i hb hb2
                cases hE
                have hlt2 : t < 4095 := by simpa [Nat.blt_eq] using hb2
                refine ⟨o, t, fr, ho, hiso, ht, hfa, fun d hd => ?_, by simpa [Nat.blt_eq] using hb⟩
                have : getA (Tr.set AV.hole 12 s.E t) t = some .hole := Tr.get_set_same _ 12 s.E t (by omega)
                rw [this] at hd; cases hd; rfl
              · cases hE
            · exact hFl.put ho hE hcl x hx
          · intro x hx y hy hne
            rcases List.mem_cons.1 hx with e | hx'
            · subst e
              rcases List.mem_cons.1 hy with e | hy'
              · exact absurd e.symm hne
              · exact clearR_spec hclr y hy'
            · rcases List.mem_cons.1 hy with e | hy'
              · rw [e]; exact clearB_one hcl hx'
              · exact hPC x hx' y hy' hne
          · exact fun x hx => (hFX x hx).put (Step.refl hG.rel.mem) ho hE (clearB_one hcl (hX x hx)) (fun _ _ => rfl)
        · cases h
      · cases h
  | .sole i :: r, L, Fl, rd, s, C, a, w, rs, fs, X, γ, Lc, fuel, hp, h, hG, hFl, hPC, hX, hnd, hγ, hFX, hLc, hsz, hS, hF, hst, hQ, hfuel => by
    simp only [planOk, Bool.and_eq_true] at hp
    obtain ⟨⟨hone, hrdyB⟩, ⟨hcl, hle⟩, hp⟩ := hp
    have hone := isOne_spec hone
    have hrdy : i ∈ Region.ready .any ops L := (XW.memN_iff _ _).1 hrdyB
    simp only [evalPlan] at h
    obtain ⟨li, hli, hb⟩ := bindN_spec h
    have hir : ∃ oi, ops[i]? = some oi := by obtain ⟨_, oi, h2, _⟩ := mem_ready.1 hrdy; exact ⟨oi, h2⟩
    obtain ⟨oi, hoi⟩ := hir
    have hisz : i < L.size := by
      have h1 := (mem_ready.1 hrdy).1
      rcases Nat.lt_or_ge i L.size with h' | h'
      · exact h'
      · simp [Array.getElem?_eq_none h'] at h1
    -- the tail, i having come up and being told
    have tail : ∀ (s' : St) (C' : Cx) (a' : Act) (w' : World) (r' : List (XE × St)) (X' : List Nat) (Lc' : Array Bool) (fuel' : Nat) (γ' : Nat → Nat), (match stampsOk s'.H (restRd i rd) with | true => evalPlan P cf n ops r (restRd i rd) s' | false => none) = some r' → (∀ y ∈ r', y ∈ rs) →
        Goes C0 C' n base H0 s' w0 a' w' → FlOk P n ops s'.E (remN i Fl) → (∀ x ∈ X', x ∈ remN i Fl) → X'.Nodup → (∀ x ∈ X', ∀ y ∈ X', γ' x = γ' y → x = y) → (∀ x ∈ X', FX P ops C' s'.E a' w' w0.heap.size x (γ' x)) →
        LcOk (L.setIfInBounds i true) X' Lc' → Lc'.size = L.size → (stampsOk s'.H (restRd i rd) = true → RdOk C' w' Lc' (restRd i rd) fs) → fuel' + X'.length = cnt r → (stampsOk s'.H (restRd i rd) = true ∧ RdOk C' w' Lc' (restRd i rd) fs) ∧ anyG P .any ops Q (SF fs) fuel' Lc' a' w' := by
      intro s' C' a' w' r' X' Lc' fuel' γ' he hsub hG' hFl' hX' hnd' hγ' hFX' hLc' hsz' hS' hfu
      split at he
      · rename_i hst'
        refine ⟨⟨hst', hS' hst'⟩, evalPlan_spec hcf hns hbase hpq r (L.setIfInBounds i true) (remN i Fl) (restRd i rd) s' C' a' w' r' fs X' γ' Lc' fuel' hp he hG' hFl' (fun x hx y hy => hPC x (mem_remN.1 hx).1 y (mem_remN.1 hy).1) hX' hnd' hγ' hFX' hLc' (by simpa using hsz') (hS' hst') hF hst' (fun x s2 C2 a2 w2 e hin => hQ x s2 C2 a2 w2 e (hsub _ hin)) hfu⟩
      · cases he
    by_cases hiX : i ∈ X
    · -- it has come up already: now it is told
      obtain ⟨o, t, r0, h1, h2, h3, h4, h5, h6⟩ := hFl i (hX i hiX)
      rw [hoi] at h1; cases h1
      obtain ⟨fs0, cs, el, E', hfa, hE, rfl, hroom⟩ := float_step hoi h2 hli
      obtain ⟨o', t', fs1, cs1, el1, arr, g1, g2, g3, g4, g5, g6, g7, g8, g9⟩ := hFX i hiX
      rw [hoi] at g1; cases g1
      rw [hfa] at g3; cases g3
      have hM := hG.step.mem
      obtain ⟨C1, hE1, hM1, hat, hnames⟩ := hM.name (room_spec hroom) g6 g5 (by omega) g9
      have hD := valF_den (C := C1) g7 hat
      have hG1 : Goes C0 C1 n base H0 ⟨E', s.H.push (newBlk cs el), s.ds⟩ w0 a w := by
        refine ⟨⟨hG.step.ext.trans hE1, hM1, hG.step.below, fun b B hB => ?_, fun k hk hnk => ?_⟩, ?_, hG.ds.mono hE1⟩
        · obtain ⟨B', hB', k1, k2⟩ := hG.step.keep b B hB
          refine ⟨B', ?_, k1, k2⟩
          show (s.H.push (newBlk cs el)).get b = some B'
          rw [Heap.get_push_ne _ _ _ (by have := (hM.blk b B' hB').1; omega)]; exact hB'
        · obtain ⟨k1, k2⟩ := hG.step.rest k hk hnk
          refine ⟨k1, fun b v loc hl => ?_⟩
          rcases hnames b v loc hl with h6 | h6
          · exact k2 b v loc h6
          · omega
        · have hS2 := (hG.env.mono hE1).put (o := oi.dst) (v := concF fs0 (γ i)) hE hD
          have : a.put oi.dst (concF fs0 (γ i)) = a := by
            rw [g2]
            have hlt : t' < a.tmps.size := (Array.getElem?_eq_some_iff.1 g4).1
            have hv : a.tmps[t'] = concF fs0 (γ i) := by simpa [hlt] using g4
            simp only [Act.put]
            congr 1
            apply Array.ext (by simp)
            intro j hj1 hj2
            by_cases e : t' = j
            · subst e; rw [Array.getElem_setIfInBounds_self]; exact hv.symm
            · rw [Array.getElem_setIfInBounds_ne (by simpa using hj1) e]
          rw [this] at hS2
          exact hS2
      rcases hb _ _ (List.mem_singleton.2 rfl) with ⟨_, r', hr', hsub⟩ | ⟨hne, _⟩
      · have hXe : ∀ x, x ∈ X.erase i ↔ x ∈ X ∧ x ≠ i := fun x => by rw [hnd.mem_erase_iff]; exact And.comm
        have hlen : (X.erase i).length + 1 = X.length := by
          rw [List.length_erase_of_mem hiX]
          have := List.length_pos_of_mem hiX; omega
        refine (tail _ C1 a w r' (X.erase i) Lc fuel γ hr' hsub hG1 ?_ ?_ (hnd.erase i) ?_ ?_ ?_ hsz (fun _ => ?_) ?_).2
        · exact (hFl.sub (fun x hx => (mem_remN.1 hx).1)).put hoi hE hcl
        · exact fun x hx => mem_remN.2 ⟨hX x ((hXe x).1 hx).1, ((hXe x).1 hx).2⟩
        · exact fun x hx y hy => hγ x ((hXe x).1 hx).1 y ((hXe y).1 hy).1
        · intro x hx
          obtain ⟨hx1, hx2⟩ := (hXe x).1 hx
          obtain ⟨o, t, fsx, csx, elx, arrx, k1, k2, k3, k4, k5, k6, k7, k8, k9⟩ := hFX x hx1
          have hc := clearB_spec (clearB_one hcl (mem_remN.2 ⟨hX x hx1, hx2⟩)) x (List.mem_singleton.2 rfl) oi o hoi k1
          refine ⟨o, t, fsx, csx, elx, arrx, k1, k2, ?_, k4, k5, k6.mono hE1, k7, k8, fun b v loc hl => ?_⟩
          · rw [← k3]; exact floatA_congr (fun y hy => opd_put hE (fun u hu e => (hc u hu).1 (e ▸ hy)))
          · rcases hnames b v loc hl with h6 | h6
            · exact k9 b v loc h6
            · rw [h6]; exact fun e => hx2 (hγ x hx1 i hiX e.symm)
        · refine ⟨fun k d hk => hLc.on k d ((hXe k).1 hk).1, fun k d hk => ?_⟩
          by_cases e : i = k
          · subst e
            rw [hLc.on i d hiX]; simp [hisz]
          · rw [getD_set_ne d e]
            exact hLc.off k d (fun hm => hk ((hXe k).2 ⟨hm, Ne.symm e⟩))
        · exact (hS.step hE1 (fun _ _ _ _ _ => rfl)).rest (hLc.on i true hiX)
        · simp only [cnt] at hfuel; omega
      · exact absurd rfl hne
    · -- it comes up now, or those that are out do first
      have hXr : ∀ x ∈ X, x ∈ remN i Fl := fun x hx => mem_remN.2 ⟨hX x hx, fun e => hiX (e ▸ hx)⟩
      generalize hk : (remN i Fl).length - X.length = k
      induction k using Nat.strongRecOn generalizing X γ Lc a w fuel with
      | _ k ih =>
      have hM := hG.step.mem
      have hXle : X.length ≤ cnt r := by
        have h1 := nodup_le X (remN i Fl) hnd hXr
        have := Nat.le_of_ble_eq_true hle
        omega
      obtain ⟨fuel, rfl⟩ : ∃ k, fuel = k + 1 := ⟨fuel - 1, by simp only [cnt] at hfuel; omega⟩
      have hic : i ∈ Region.ready .any ops Lc := ready_of hLc hrdy hiX
      refine ⟨fun h0 => by rw [h0] at hic; simp at hic, fun j hj => ?_⟩
      by_cases hji : j = i
      · subst hji
        refine opStep_spec hcf hli hG.rel (fun s' C' a' w' hin hG' hput => ?_) (fun d s' C' a' w' v hin hG' hD => ?_)
        · rcases hb _ _ hin with ⟨_, r', hr', hsub⟩ | ⟨hne, _⟩
          · obtain ⟨o, d, ho, hE, htm⟩ := hput
            have hres := tail s' C' a' w' r' X (Lc.setIfInBounds j true) fuel γ hr' hsub (hG.trans hG') ((hFl.sub (fun x hx => (mem_remN.1 hx).1)).put ho hE hcl) hXr hnd hγ
              (fun x hx => (hFX x hx).put hG'.step ho hE (clearB_one hcl (hXr x hx)) htm) (hLc.set hsz j) (by simpa using hsz)
              (fun hst' => (hS.set j).rest (getD_set_self _ _) |>.step hG'.step.ext (fun x hx v loc hloc => by
                have hx' := (mem_restRd).2 hx
                obtain ⟨B, hB, e1⟩ := stamps_mem hst x hx'
                obtain ⟨B', hB', e2⟩ := stamps_mem hst' x hx
                obtain ⟨B'', hB'', _, h3⟩ := hG'.step.keep x.1 B hB
                rw [hB'] at hB''; cases hB''
                exact h3 (by omega) v loc hloc)) (by simp only [cnt] at hfuel; omega)
            exact ⟨hres.1.2.sf, hres.2⟩
          · exact absurd rfl hne
        · rcases hb _ _ hin with ⟨hne, _⟩ | ⟨_, hin2⟩
          · cases hne
          · exact hQ _ s' C' a' w' _ hin2 (hG.trans hG') ⟨v, rfl, hD⟩
      · -- one of those that are out
        obtain ⟨hjun, oj, hoj, hall⟩ := mem_ready.1 hj
        have hjX : j ∉ X := fun hm => by rw [hLc.on j true hm] at hjun; cases hjun
        have hinr : ∀ k, Lc.getD k false = true → k < L.size := fun k h0 => by
          rcases Nat.lt_or_ge k Lc.size with h' | h'
          · omega
          · simp [Array.getElem?_eq_none h'] at h0
        have hjr : j ∈ remN i Fl := by
          apply Classical.byContradiction
          intro hno
          have : j ∈ Region.ready .any ops (setAll L (remN i Fl)) := by
            refine mem_ready.2 ⟨by rw [getD_setAll _ _ _ hno, ← hLc.off j true hjX]; exact hjun, oj, hoj, fun e he hbd => ?_⟩
            have hdn := hall e he hbd
            have hlt := hinr _ hdn
            by_cases hm : e.on ∈ remN i Fl
            · exact getD_setAll_mem _ _ _ hm hlt false
            · rw [getD_setAll _ _ _ hm, ← hLc.off _ _ (fun hx => hm (hXr _ hx))]; exact hdn
          rw [hone] at this
          exact hji (by simpa using this)
        have hjF := (mem_remN.1 hjr).1
        obtain ⟨o, t, ⟨fs0, cs, el⟩, h1, h2, h3, h4, h5, h6⟩ := hFl j hjF
        rw [hoj] at h1; cases h1
        obtain ⟨arr, hDs, hok, hrun⟩ := float_run hG.env.fine h4
        have hg : oj.guard = none := by
          simp only [isFloatO, Bool.and_eq_true] at h2
          simpa using h2.2.1
        have hwant : Region.wanted oj (yielded ops a.tmps) = true := by simp [Region.wanted, hg]
        have hkeep : ∀ g, g < w.heap.size → (w.alloc (.cells arr el)).heap[g]? = w.heap[g]? := fun g hg => (by first | exact heap_alloc_old w _ g hg | exact heap_alloc_old w _ hg)
        have hbel : Below w.heap.size w (w.alloc (.cells arr el)) := ⟨rfl, rfl, rfl, by simp, fun k hk => hkeep k hk⟩
        have hblk : ∀ b v loc, C.at_ b v = some loc → loc.blk < w.heap.size := fun b v loc hl => by
          obtain ⟨B, hB⟩ := hM.known b v loc hl
          exact ((hM.blk b B hB).2.ver v loc hl).2
        have hput : ∀ u, u ≠ t → (a.put oj.dst (concF fs0 w.heap.size)).tmps[u]? = a.tmps[u]? := fun u hu => put_other a (by rw [h3]; exact fun e => hu (by cases e; rfl))
        have hts : t < a.tmps.size := by rw [hG.env.size]; exact h6
        have hat : (a.put oj.dst (concF fs0 w.heap.size)).tmps[t]? = some (concF fs0 w.heap.size) := by rw [h3]; simp [Act.put, hts]
        have hG' : Goes C0 C n base H0 s w0 (a.put oj.dst (concF fs0 w.heap.size)) (w.alloc (.cells arr el)) := by
          refine ⟨hG.step.trans (Step.same hM hbel), ⟨?_, fun u d hd => ?_⟩, by rw [put_defers]; exact hG.ds⟩
          · rw [← hG.env.size, h3]; simp [Act.put]
          · by_cases e : u = t
            · subst e
              obtain rfl := h5 d hd
              exact ⟨_, hat, .hole _⟩
            · rw [hput u e]; exact hG.env.slot u d hd
        have hsz1 : w0.heap.size ≤ w.heap.size := hG.step.below.size
        have hγlt : ∀ x ∈ X, γ x < w.heap.size := fun x hx => by
          obtain ⟨_, _, _, _, _, _, _, _, _, _, k5, _⟩ := hFX x hx
          exact (Array.getElem?_eq_some_iff.1 k5).1
        let γ' : Nat → Nat := fun x => if x = j then w.heap.size else γ x
        have hγj : γ' j = w.heap.size := if_pos rfl
        have hγo : ∀ x ∈ X, γ' x = γ x := fun x hx => by
          have hne : x ≠ j := fun e => hjX (e ▸ hx)
          show (if x = j then _ else _) = _
          rw [if_neg hne]
        have hS' : RdOk C (w.alloc (.cells arr el)) (Lc.setIfInBounds j true) rd fs := (hS.set j).step (.refl C) (fun x hx v loc hl => hkeep _ (hblk _ _ _ hl))
        have hnd' : (j :: X).Nodup := List.nodup_cons.2 ⟨hjX, hnd⟩
        have hsub' : ∀ x ∈ j :: X, x ∈ remN i Fl := fun x hx => by
          rcases List.mem_cons.1 hx with rfl | hx
          · exact hjr
          · exact hXr x hx
        have hle2 := nodup_le (j :: X) (remN i Fl) hnd' hsub'
        simp only [List.length_cons] at hle2
        unfold wpOp
        simp only [hoj, hwant, if_true]
        left
        unfold Oper.wp
        rw [hrun w]
        refine ⟨hS'.sf, ?_⟩
        refine ih ((remN i Fl).length - (j :: X).length) (by simp only [List.length_cons]; omega) _ _ (j :: X) γ' (Lc.setIfInBounds j true) fuel hG' (fun x hx => (mem_remN.1 (hsub' x hx)).1) hnd' ?_ ?_ ?_ (by simpa using hsz) hS' (by simp only [List.length_cons, cnt] at hfuel ⊢; omega) ?_ hsub' rfl
        · intro x hx y hy e
          rcases List.mem_cons.1 hx with ex | hx'
          · rcases List.mem_cons.1 hy with ey | hy'
            · rw [ex, ey]
            · rw [ex, hγj, hγo y hy'] at e; have := hγlt y hy'; omega
          · rcases List.mem_cons.1 hy with ey | hy'
            · rw [ey, hγj, hγo x hx'] at e; have := hγlt x hx'; omega
            · rw [hγo x hx', hγo y hy'] at e; exact hγ x hx' y hy' e
        · intro x hx
          rcases List.mem_cons.1 hx with rfl | hx
          · rw [hγj]
            exact ⟨oj, t, fs0, cs, el, arr, hoj, h3, h4, hat, heap_alloc_new w _, hDs, hok, hsz1, fun b v loc hl => by have := hblk b v loc hl; omega⟩
          · rw [hγo x hx]
            refine (hFX x hx).keep (fun ox tx hox htx => hput tx (fun e => ?_)) (hkeep _ (hγlt x hx))
            have hne : x ≠ j := fun e => hjX (e ▸ hx)
            exact (clearB_spec (hPC x (hX x hx) j hjF hne) x (List.mem_singleton.2 rfl) oj ox hoj hox t h3).2 (by rw [htx, e])
        · refine ⟨fun k d hk => ?_, fun k d hk => ?_⟩
          · rcases List.mem_cons.1 hk with rfl | hk
            · have hlt : k < Lc.size := by
                rcases Nat.lt_or_ge k Lc.size with h' | h'
                · exact h'
                · simp [Array.getElem?_eq_none h'] at hjun
              simp [hlt]
            · by_cases e : j = k
              · exact absurd (e ▸ hk) hjX
              · rw [getD_set_ne d e]; exact hLc.on k d hk
          · simp only [List.mem_cons, not_or] at hk
            rw [getD_set_ne d (Ne.symm hk.1)]; exact hLc.off k d hk.2
        · intro hm
          rcases List.mem_cons.1 hm with e | hm
          · exact hji e.symm
          · exact hiX hm
end
end Go.EV
