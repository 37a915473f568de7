/- Texts that the proof of a law rests on, put together: part 26. -/
import Derived.Test.YtajnboigikdefaaDoorFg25
namespace Go.EV
open Go Go.RowKit
open Go.XW (Imm Fits)
set_option linter.unusedVariables false
set_option linter.unusedSimpArgs false
noncomputable def freeOne (P : Program) (s : SSt) (o : Oper) : Option (AV × Option Prop × Option (Nat × Nat)) := match o.op with
  | .load t p => match opd s.E p with
    | some dp => match loadA P s.M.H t dp with
      | some (d, b) => match s.M.H.get b with
        | some B => some (d, none, some (b, B.stamp))
        | none => none
      | none => match sLoadD P t dp with
        | some (d, c) => some (d, c, none)
        | none => none
    | none => none
  | _ => match plainA P s.M.H (opd s.E) o with
    | some d => some (d, none, none)
    | none => match sPlain P s.M (opd s.E) o with
      | some (d, c) => some (d, c, none)
      | none => none
noncomputable def freeAll (P : Program) (n : Nat) (o : Oper) : List (Bool × SSt) → Bool
  | [] => true
  | (false, s) :: r => freeAll P n o r
  | (true, s) :: r => match freeOne P s o with
    | some _ => freeAll P n o r
    | none => false
noncomputable def freeTry (P : Program) (n : Nat) (ops : Array Oper) (s : SSt) (i : Nat) : Bool := match ops[i]? with
  | some o => match guardR n ops o s with
    | some l => freeAll P n o l
    | none => false
  | none => false
noncomputable def firstTry (P : Program) (n : Nat) (ops : Array Oper) (is : List XW.OI) (L : Array Bool) (s : SSt) : List Nat → Option Nat
  | [] => none
  | i :: r => match isFree ops i with
    | true => match XW.upI is L.toList i with
      | true => match freeTry P n ops s i with
        | true => some i
        | false => firstTry P n ops is L s r
      | false => firstTry P n ops is L s r
    | false => firstTry P n ops is L s r
noncomputable def depsI (ops : Array Oper) (i : Nat) : List Nat := match isLoad ops i with
  | true => depsGo ops i (List.range ops.size) []
  | false => []
def addRd (D : List Nat) (b : Option (Nat × Nat)) (rd : Rd) : Rd := match b with
  | some (b, st) => (b, st, D) :: rd
  | none => rd
def condX (c : Option Prop) (s : SSt) (k : SSt → SRS) (s' : SSt) : SRS := match c with
  | none => k s'
  | some p => match k ⟨s'.E, withP s'.M p, s'.ds⟩ with
    | some l => some ((.bad, ⟨s.E, withP s.M (¬ p), s.ds⟩) :: l)
    | none => none
noncomputable def freeY (P : Program) (n : Nat) (ops : Array Oper) (o : Oper) (D : List Nat) (rd : Rd) (k : Rd → SSt → SRS) (s : SSt) : SRS := match freeOne P s o with
  | some (d, c, b) => match putA n s.E o.dst d with
    | some E' => condX c s (k (addRd (effs ops D) b rd)) ⟨E', withF s.M (factP s.M (opd s.E) o), s.ds⟩
    | none => none
  | none => none
noncomputable def freeN (n : Nat) (o : Oper) (rd : Rd) (k : Rd → SSt → SRS) (s : SSt) : SRS := match putA n s.E o.dst undefA with
  | some E' => k rd ⟨E', s.M, s.ds⟩
  | none => none
noncomputable def freeStep (P : Program) (n : Nat) (ops : Array Oper) (i : Nat) (D : List Nat) (rd : Rd) (k : Rd → SSt → SRS) (s : SSt) : SRS := match ops[i]? with
  | some o => match guardR n ops o s with
    | some l => altR (freeY P n ops o D rd k) (freeN n o rd k) l
    | none => none
  | none => none
def concR : List SRS → SRS
  | [] => some []
  | x :: r => match x, concR r with
    | some a, some b => some (a ++ b)
    | _, _ => none
noncomputable def allBr (P : Program) (cf : SCF) (n : Nat) (ops : Array Oper) (k : Nat → Rd → SSt → SRS) (rd : Rd) (s : SSt) (l : List Nat) : SRS :=
  concR (l.map fun i => sbindN (opR P cf n ops i s) fun s' => match stampsOk s'.M.H (restRd i rd) with
    | true => k i (restRd i rd) s'
    | false => none)
noncomputable def anyStep (P : Program) (cf : SCF) (n : Nat) (ops : Array Oper) (is : List XW.OI) (k : Array Bool → Rd → SSt → SRS) (L : Array Bool) (rd : Rd) (s : SSt) : List Nat → SRS
  | [] => some [(.normal, s)]
  | l => match firstTry P n ops is L s l with
    | some i => match depOk ops i (depsI ops i) (depsI ops i) && undB L (depsI ops i) with
      | true => freeStep P n ops i (depsI ops i) rd (k (L.setIfInBounds i true)) s
      | false => none
    | none => allBr P cf n ops (fun i => k (L.setIfInBounds i true)) rd s l
noncomputable def evalAny (P : Program) (cf : SCF) (n : Nat) (ops : Array Oper) (is : List XW.OI) : Nat → Array Bool → Rd → SSt → SRS
  | 0, L, rd, s => match isNilL (Region.ready .any ops L) with
    | true => some [(.normal, s)]
    | false => none
  | k + 1, L, rd, s => anyStep P cf n ops is (evalAny P cf n ops is k) L rd s (Region.ready .any ops L)
section
variable {P : Program} {cf : SCF} {n base : Nat} {ops : Array Oper} {s : SSt} {C : Cx} {a : Act} {w : World} {rs : List (SX × SSt)} {Q : Exit → Act → World → Prop} {is : List XW.OI}
theorem firstTry_spec {L : Array Bool} : ∀ {l : List Nat} {i : Nat}, firstTry P n ops is L s l = some i → i ∈ l ∧ isFree ops i = true ∧ XW.upI is L.toList i = true
  | [], i, h => by simp [firstTry] at h
  | j :: r, i, h => by
    have step : ∀ {i : Nat}, firstTry P n ops is L s r = some i → i ∈ j :: r ∧ isFree ops i = true ∧ XW.upI is L.toList i = true := fun h =>
      let ⟨h1, h2, h3⟩ := firstTry_spec h
      ⟨List.mem_cons_of_mem _ h1, h2, h3⟩
    simp only [firstTry] at h
    split at h
    · split at h
      · split at h
        · cases h; exact ⟨List.mem_cons_self, by assumption, by assumption⟩
        · exact step h
      · exact step h
    · exact step h
theorem concR_spec : ∀ {l : List SRS} {rs : List (SX × SSt)}, concR l = some rs → ∀ x ∈ l, ∃ r, x = some r ∧ ∀ y ∈ r, y ∈ rs
  | [], rs, h, x, hx => by simp at hx
  | x0 :: l, rs, h, x, hx => by
    simp only [concR] at h
    split at h
    · rename_i a b hb
      cases h
      rcases List.mem_cons.1 hx with rfl | hx
      · exact ⟨a, rfl, fun y hy => List.mem_append_left _ hy⟩
      · obtain ⟨r, h1, h2⟩ := concR_spec hb x hx
        exact ⟨r, h1, fun y hy => List.mem_append_right _ (h2 y hy)⟩
    · cases h
def RdS (C : Cx) (w : World) (L : Array Bool) (rd : Rd) (fs : Facts) : Prop := ∀ f ∈ fs, (∃ k ∈ f.1, L.getD k true = true) ∨ (∃ x ∈ rd, x.2.2 = f.1 ∧ ∀ w' : World, (∀ v loc, C.at_ x.1 v = some loc → w'.heap[loc.blk]? = w.heap[loc.blk]?) → f.2 w') ∨ (∃ I : Imm, f.2 = Fits I ∧ XW.Ext I C.unk.imm)
theorem RdS.sf {L : Array Bool} {rd : Rd} {fs : Facts} (h : RdS C w L rd fs) (hF : Fits C.unk.imm w) : SF fs L w := fun f hf hu => by
  rcases h f hf with ⟨k, hk, h1⟩ | ⟨x, _, _, h1⟩ | ⟨I, h1, h2⟩
  · rw [hu k hk] at h1; cases h1
  · exact h1 w (fun _ _ _ => rfl)
  · rw [h1]; exact fun a v ha => hF a v (h2 a v ha)
theorem RdS.set {L : Array Bool} {rd : Rd} {fs : Facts} (h : RdS C w L rd fs) (i : Nat) : RdS C w (L.setIfInBounds i true) rd fs := fun f hf => by
  rcases h f hf with ⟨k, hk, h1⟩ | h1
  · refine .inl ⟨k, hk, ?_⟩
    by_cases e : i = k
    · subst e; exact getD_set_self _ _
    · rw [getD_set_ne true e]; exact h1
  · exact .inr h1
theorem RdS.rest {L : Array Bool} {rd : Rd} {fs : Facts} (h : RdS C w L rd fs) {i : Nat} (hi : L.getD i true = true) : RdS C w L (restRd i rd) fs := fun f hf => by
  rcases h f hf with h1 | ⟨x, hx, h1, h2⟩ | h1
  · exact .inl h1
  · by_cases hn : i ∈ x.2.2
    · exact .inl ⟨i, h1 ▸ hn, hi⟩
    · exact .inr (.inl ⟨x, (mem_restRd).1 hx hn, h1, h2⟩)
  · exact .inr (.inr h1)
theorem RdS.step {C' : Cx} {w' : World} {L : Array Bool} {rd : Rd} {fs : Facts} (h : RdS C w L rd fs) (hE : SExt C C') (hk : ∀ x ∈ rd, ∀ v loc, C.at_ x.1 v = some loc → w'.heap[loc.blk]? = w.heap[loc.blk]?) : RdS C' w' L rd fs := fun f hf => by
  rcases h f hf with h1 | ⟨x, hx, h1, h2⟩ | ⟨I, h1, h2⟩
  · exact .inl h1
  · exact .inr (.inl ⟨x, hx, h1, fun w2 hw2 => h2 w2 (fun v loc hl => by rw [hw2 v loc (hE.at_ _ _ _ hl), hk x hx v loc hl])⟩)
  · exact .inr (.inr ⟨I, h1, h2.trans hE.sx.imm⟩)
theorem freeOne_spec {o : Oper} {d : AV} {c : Option Prop} {b : Option (Nat × Nat)} (h : freeOne P s o = some (d, c, b)) (hR : SRel C n base s a w) (hc : holds c) :
    ∃ v, Den C d v ∧ ∀ w' : World, Fits C.unk.imm w' → (∀ b' st, b = some (b', st) → ∀ ver loc, C.at_ b' ver = some loc → w'.heap[loc.blk]? = w.heap[loc.blk]?) → (execOp a.eval o).run P w' = .ok (.value v) w' := by
  have hf := hR.env.fine
  unfold freeOne at h
  split at h
  · rename_i t p hop
    split at h
    · rename_i dp hp
      split at h
      · rename_i d' b' hl
        split at h
        · rename_i B hB
          cases h
          obtain ⟨v, hD, hr⟩ := load_spec (P := P) hR.mem.mem hl (hf p _ hp)
          exact ⟨v, hD, fun w' _ hw' => by simp [execOp, hop, hr w' (hw' _ _ rfl)]⟩
        · cases h
      · split at h
        · rename_i d' c' hl
          cases h
          obtain ⟨v, hv, hr⟩ := g_sload (P := P) hf hop hp hl hc
          exact ⟨v, hv, fun w' hw' _ => hr w' hw'⟩
        · cases h
    · cases h
  · split at h
    · rename_i d' hd
      cases h
      obtain ⟨v, hv, hr⟩ := plain_spec hR.mem.mem hf hd
      exact ⟨v, hv, fun w' _ _ => hr w'⟩
    · split at h
      · rename_i d' c' hd
        cases h
        obtain ⟨v, hv, hr⟩ := splain_spec hR.mem hf hd hc
        exact ⟨v, hv, fun w' hw' _ => hr w' hw'⟩
      · cases h
theorem condX_spec {c : Option Prop} {k : SSt → SRS} {s' : SSt} (h : condX c s k s' = some rs) (hn : NBs rs) (hpc : s.M.pc) : holds c ∧ ∃ s2 r, k s2 = some r ∧ (∀ y ∈ r, y ∈ rs) ∧ s2.E = s'.E ∧ s2.ds = s'.ds ∧ s2.M.H = s'.M.H ∧ ∀ (C' : Cx) (w' : World), SMem C' s'.M base w' → SStep C' C' s'.M s2.M base w' w' := by
  unfold condX at h
  cases c with
  | none => exact ⟨trivial, s', rs, h, fun y hy => hy, rfl, rfl, rfl, fun C' w' hM => SStep.refl hM⟩
  | some p =>
    simp only at h
    split at h
    · rename_i l hl
      cases h
      have hp : p := Classical.byContradiction fun hp => hn _ List.mem_cons_self ⟨hpc, hp⟩
      exact ⟨hp, _, l, hl, fun y hy => List.mem_cons_of_mem _ hy, rfl, rfl, rfl, fun C' w' hM => hM.cond (p := s'.M.pc ∧ p) ⟨hM.pc, hp⟩⟩
    · cases h
theorem evalAny_spec (hcf : SCFok P base cf) (hns : Region.noSelect ops = true) {C0 : Cx} {M0 : SH} {w0 : World} {Q : Exit → Act → World → Prop} (hpq : ∀ (i : Nat) (o : Oper), ops[i]? = some o → ∀ c a w v, Q (.panic c) (a.put o.dst v) w → Q (.panic c) a w) :
    ∀ (fuel : Nat) (L : Array Bool) (rd : Rd) (s : SSt) (C : Cx) (a : Act) (w : World) (rs : List (SX × SSt)) (fs : Facts),
    evalAny P cf n ops (XW.summ ops) fuel L rd s = some rs → NBs rs → SGoes C0 C n base M0 s w0 a w → RdS C w L rd fs → FOk ops fs → stampsOk s.M.H rd = true →
    (∀ x s' C' a' w' e, (x, s') ∈ rs → SGoes C0 C' n base M0 s' w0 a' w' → SExOk C' x e → Q e a' w') → anyG P .any ops Q (SF fs) fuel L a w
  | 0, L, rd, s, C, a, w, rs, fs, h, hn, hG, hS, hF, hst, hQ => by
    simp only [evalAny] at h
    split at h
    · rename_i hr
      cases h
      exact ⟨isNil_spec hr, hQ .normal s C a w .normal (List.mem_singleton.2 rfl) hG rfl⟩
    · cases h
  | fuel + 1, L, rd, s, C, a, w, rs, fs, h, hn, hG, hS, hF, hst, hQ => by
    have hsel := Region.noSelect_spec hns
    simp only [evalAny] at h
    generalize hready : Region.ready .any ops L = l at h
    cases l with
    | nil =>
      have h : some [(SX.normal, s)] = some rs := h
      simp only [Option.some.injEq] at h
      subst h
      exact anyG_done hready (hQ .normal s C a w .normal (List.mem_singleton.2 rfl) hG rfl) _
    | cons j0 l0 =>
      simp only [anyStep] at h
      split at h
      · rename_i i hi
        obtain ⟨him, hfree, hup⟩ := firstTry_spec hi
        split at h
        · rename_i hdd
          simp only [Bool.and_eq_true] at hdd
          obtain ⟨hdep, hun⟩ := hdd
          obtain ⟨hfr, hrd⟩ := XW.upI_spec rfl hup
          unfold freeStep at h
          split at h
          · rename_i o ho
            split at h
            · rename_i alts halts
              obtain ⟨g, s1, hm, hG1, hwant⟩ := guardR_spec halts hG.rel
              have hG1 := hG.trans hG1
              obtain ⟨r1, hr1, hsub1⟩ := altR_spec h g s1 hm
              have hstH : s1.M.H = s.M.H := by
                unfold guardR at halts
                split at halts
                · cases halts; simp at hm; rw [hm.2]
                · split at halts
                  · cases halts; simp at hm; rw [hm.2]
                  · split at halts
                    · split at halts
                      · cases halts; simp at hm; rw [hm.2]
                      · cases halts; simp at hm; rw [hm.2]
                    · split at halts
                      · cases halts
                        simp at hm
                        rcases hm with ⟨_, e⟩ | ⟨_, e⟩ <;> rw [e] <;> rfl
                      · cases halts
                    · cases halts
              have hfree' : ∀ j oj, ops[j]? = some oj → j ≠ i → L.getD j true = false → (∀ e ∈ oj.after, Region.binds .any e = true → e.on ≠ i) → o.apart ops oj = true := fun j oj hoj hji hj hno => Region.free_spec ho hfr j oj hoj hji hj hno
              have hrdm : i ∈ Region.ready .any ops L := by simpa using hrd
              have first : ∀ (fs' : Facts) (v : Value), FOk ops fs' → SF fs' L w → YieldsIf P ops (star (SF fs') (depsI ops i)) o v a → anyG P .any ops Q (SF fs') fuel (L.setIfInBounds i true) (a.put o.dst v) w → anyG P .any ops Q (SF fs') (fuel + 1) L a w :=
                fun fs' v hF' hS' hy hK => anyG_first ho hsel (fun c a w h => hpq i o ho c a w _ h) (depOk_spec hdep) (SF_take hF' hfree) (fun L w h => SF_put L w h) _ L a w hfree' hrdm hy (undB_spec hun) hS' hK
              cases g with
              | false =>
                have hr1 : freeN n o rd (evalAny P cf n ops (XW.summ ops) fuel (L.setIfInBounds i true)) s1 = some r1 := hr1
                unfold freeN at hr1
                split at hr1
                · rename_i E' hE
                  refine first fs undef hF (hS.sf hG.step.mem.fits) (.inr ⟨hwant, rfl⟩) ?_
                  refine evalAny_spec hcf hns hpq fuel _ rd ⟨E', s1.M, s1.ds⟩ C _ w r1 fs hr1 (hn.sub hsub1) ⟨hG1.step, hG1.env.put hE (.lit _), by rw [put_defers']; exact hG1.ds⟩ (hS.set i) hF (by rw [hstH]; exact hst) (fun x s' C' a' w' e hin => hQ x s' C' a' w' e (hsub1 _ hin))
                · cases hr1
              | true =>
                have hr1 : freeY P n ops o (depsI ops i) rd (fun rd => evalAny P cf n ops (XW.summ ops) fuel (L.setIfInBounds i true) rd) s1 = some r1 := hr1
                unfold freeY at hr1
                split at hr1
                · rename_i d c b hone
                  split at hr1
                  · rename_i E' hE
                    obtain ⟨hc, s2, r2, hk2, hsub2, e1, e2, e3, hway⟩ := condX_spec (base := base) hr1 (hn.sub hsub1) hG1.rel.mem.pc
                    obtain ⟨v, hD, hrun⟩ := freeOne_spec hone hG1.rel hc
                    have hwf := withF_step (q := factP s1.M (opd s1.E) o) hG1.step.mem (fun p hp => factP_spec (o := o) hG1.step.mem hG1.env.fine hp)
                    have hwH : (withF s1.M (factP s1.M (opd s1.E) o)).H = s1.M.H := by cases factP s1.M (opd s1.E) o <;> rfl
                    -- the facts
                    let F1 : World → Prop := Fits C.unk.imm
                    let F2 : World → Prop := fun w' => ∀ b' st, b = some (b', st) → ∀ ver loc, C.at_ b' ver = some loc → w'.heap[loc.blk]? = w.heap[loc.blk]?
                    have hF' : FOk ops ((([] : List Nat), F1) :: (effs ops (depsI ops i), F2) :: fs) := fun f hf' k hk => by
                      rcases List.mem_cons.1 hf' with e | hf'
                      · subst e; simp at hk
                      · rcases List.mem_cons.1 hf' with e | hf'
                        · subst e; exact (mem_effs hk).2
                        · exact hF f hf' k hk
                    have hS' : RdS C w L (addRd (effs ops (depsI ops i)) b rd) ((([] : List Nat), F1) :: (effs ops (depsI ops i), F2) :: fs) := fun f hf' => by
                      rcases List.mem_cons.1 hf' with e | hf'
                      · subst e; exact .inr (.inr ⟨C.unk.imm, rfl, XW.Ext.refl _⟩)
                      · rcases List.mem_cons.1 hf' with e | hf'
                        · subst e
                          cases b with
                          | none =>
                            -- it asks nothing
                            exact .inr (.inr ⟨fun _ => none, by
                              show F2 = Fits (fun _ => none)
                              funext w'
                              apply propext
                              exact ⟨(fun _ a v h => by cases h), (fun _ b' st h => by cases h)⟩, (fun a v h => by cases h)⟩)
                          | some x =>
                            obtain ⟨b', st⟩ := x
                            exact .inr (.inl ⟨_, List.mem_cons_self, rfl, fun w' hw' b2 st2 e ver loc hl => by cases e; exact hw' ver loc hl⟩)
                        · have := hS f hf'
                          cases b with
                          | none => exact this
                          | some x =>
                            rcases this with h1 | ⟨y, hy, h1⟩ | h1
                            · exact .inl h1
                            · exact .inr (.inl ⟨y, List.mem_cons_of_mem _ hy, h1⟩)
                            · exact .inr (.inr h1)
                    refine anyG_mono (S := SF ((([] : List Nat), F1) :: (effs ops (depsI ops i), F2) :: fs)) (fun L w h f hf' => h f (List.mem_cons_of_mem _ (List.mem_cons_of_mem _ hf'))) _ _ _ _ ?_
                    refine first _ v hF' (hS'.sf hG.step.mem.fits) (.inl ⟨hwant, fun w' hw' => ?_⟩) ?_
                    · obtain ⟨L', hu', hS2⟩ := hw'
                      exact hrun w' (hS2 (([] : List Nat), F1) List.mem_cons_self (fun k hk => by simp at hk)) (hS2 (effs ops (depsI ops i), F2) (List.mem_cons_of_mem _ List.mem_cons_self) (fun k hk => hu' k (mem_effs hk).1))
                    · refine evalAny_spec hcf hns hpq fuel _ _ s2 C _ w r2 _ hk2 ((hn.sub hsub1).sub hsub2) ⟨(hG1.step.trans hwf).trans (hway C w hwf.mem), by rw [e1]; exact hG1.env.put hE hD, by rw [e2, put_defers']; exact hG1.ds⟩ (hS'.set i) hF' ?_ (fun x s' C' a' w' e hin => hQ x s' C' a' w' e (hsub1 _ (hsub2 _ hin)))
                      rw [e3]
                      show stampsOk (withF s1.M (factP s1.M (opd s1.E) o)).H (addRd (effs ops (depsI ops i)) b rd) = true
                      rw [hwH, hstH]
                      cases b with
                      | none => exact hst
                      | some x =>
                        obtain ⟨b', st⟩ := x
                        have hB : ∃ B, s1.M.H.get b' = some B ∧ B.stamp = st := by
                          unfold freeOne at hone
                          split at hone
                          · split at hone
                            · split at hone
                              · split at hone
                                · rename_i B hB; cases hone; exact ⟨B, hB, rfl⟩
                                · cases hone
                              · split at hone
                                · cases hone
                                · cases hone
                            · cases hone
                          · split at hone
                            · cases hone
                            · split at hone
                              · cases hone
                              · cases hone
                        obtain ⟨B, hB, e4⟩ := hB
                        rw [hstH] at hB
                        simp only [addRd, stampsOk, hB, e4, Nat.beq_refl, Bool.true_and]
                        exact hst
                  · cases hr1
                · cases hr1
            · cases h
          · cases h
        · cases h
      · refine anyG_all hready (by simp) (fun i hi => ?_)
        unfold allBr at h
        obtain ⟨r1, hr1, hsub1⟩ := concR_spec h _ (List.mem_map.2 ⟨i, hi, rfl⟩)
        obtain ⟨li, hli, hb⟩ := sbindN_spec hr1
        have hnl : NBs li := fun s' hm => by
          rcases hb _ _ hm with ⟨e, _⟩ | ⟨_, h1⟩
          · cases e
          · exact hn s' (hsub1 _ h1)
        refine opR_spec hcf hli hnl hG.rel (fun s' C' a' w' hin hG' => ?_) (fun d s' C' a' w' v hin hG' hD => ?_)
        · rcases hb _ _ hin with ⟨_, r', hr', hsub⟩ | ⟨hne, _⟩
          · split at hr'
            · rename_i hst'
              have hS2 : RdS C' w' (L.setIfInBounds i true) (restRd i rd) fs := ((hS.set i).rest (getD_set_self _ _)).step hG'.step.ext (fun x hx v loc hloc => by
                have hx' := (mem_restRd).2 hx
                obtain ⟨B, hB, e1⟩ := stamps_mem hst x hx'
                obtain ⟨B', hB', e2⟩ := stamps_mem hst' x hx
                obtain ⟨B'', hB'', _, h3⟩ := hG'.step.keep x.1 B hB
                rw [hB'] at hB''; cases hB''
                exact h3 (by omega) v loc hloc)
              exact ⟨hS2.sf hG'.step.mem.fits, evalAny_spec hcf hns hpq fuel _ _ s' C' a' w' r' fs hr' (hn.sub (fun y hy => hsub1 _ (hsub y hy))) (hG.trans hG') hS2 hF hst' (fun x s2 C2 a2 w2 e hin2 => hQ x s2 C2 a2 w2 e (hsub1 _ (hsub _ hin2)))⟩
            · cases hr'
          · exact absurd rfl hne
        · rcases hb _ _ hin with ⟨hne, _⟩ | ⟨_, hin2⟩
          · cases hne
          · exact hQ _ s' C' a' w' _ (hsub1 _ hin2) (hG.trans hG') ⟨v, rfl, hD⟩
end
end Go.EV
