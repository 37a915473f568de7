/- Texts that the proof of a law rests on, put together: part 15. -/
import Derived.Test.YtajnboigikdefaaDoorFg14
import Derived.LoopN
import Derived.Scope
namespace Go.EV
open Go Go.RowKit
set_option linter.unusedVariables false
set_option linter.unusedSimpArgs false
inductive XE where
  | normal
  | exit (id : Nat)
  | ret
  | panic (d : AV)
inductive CE where
  | val (d : AV)
  | panic (d : AV)
abbrev RS := Option (List (XE × St))
abbrev CF := FuncId → List AV → Heap → Option (List (CE × Heap))
def CallOk (C : Cx) (H : Heap) (base : Nat) (w : World) (r : CE × Heap) (e : Ending) (w' : World) : Prop := ∃ C', Step C C' H r.2 base w w' ∧ match r.1 with
  | .val d => ∃ v, e = .returned v ∧ Den C' d v
  | .panic d => ∃ v, e = .panicked [{ v := v, recovered := false }] ∧ Den C' d v
def CFok (P : Program) (base : Nat) (cf : CF) : Prop := ∀ f args H rs, cf f args H = some rs → ∀ C w vs, Mem C H base w → Dens C args vs → Calls P f vs.toArray w (fun e w' => ∃ r ∈ rs, CallOk C H base w r e w')
def ExOk (C : Cx) (x : XE) (e : Exit) : Prop := match x with
  | .normal => e = .normal
  | .exit id => e = .exit id
  | .ret => e = .ret
  | .panic d => ∃ v, e = .panic [{ v := v, recovered := false }] ∧ Den C d v
structure Rel (C : Cx) (n base : Nat) (s : St) (a : Act) (w : World) : Prop where
  mem : Mem C s.H base w
  env : ESat C n s.E a
  ds : DefOk C s.ds a.defers
structure Goes (C C' : Cx) (n base : Nat) (H : Heap) (s' : St) (w : World) (a' : Act) (w' : World) : Prop where
  step : Step C C' H s'.H base w w'
  env : ESat C' n s'.E a'
  ds : DefOk C' s'.ds a'.defers
theorem Goes.rel {C C' : Cx} {n base : Nat} {H : Heap} {s' : St} {w w' : World} {a' : Act} (h : Goes C C' n base H s' w a' w') : Rel C' n base s' a' w' := ⟨h.step.mem, h.env, h.ds⟩
theorem Goes.trans {A B C : Cx} {n base : Nat} {H : Heap} {s s' : St} {u v w : World} {a a' : Act} (h : Goes A B n base H s u a v) (k : Goes B C n base s.H s' v a' w) : Goes A C n base H s' u a' w := ⟨h.step.trans k.step, k.env, k.ds⟩
theorem Rel.goes {C : Cx} {n base : Nat} {s : St} {a : Act} {w : World} (h : Rel C n base s a w) : Goes C C n base s.H s w a w := ⟨Step.refl h.mem, h.env, h.ds⟩
def bindL (k : St → RS) : List (XE × St) → RS
  | [] => some []
  | (.normal, s) :: r => match k s, bindL k r with
    | some a, some b => some (a ++ b)
    | _, _ => none
  | (x, s) :: r => match bindL k r with
    | some b => some ((x, s) :: b)
    | none => none
def bindN (r : RS) (k : St → RS) : RS := match r with
  | some [(.normal, s)] => k s
  | some l => bindL k l
  | none => none
theorem bindL_spec {k : St → RS} : ∀ {l : List (XE × St)} {rs : List (XE × St)}, bindL k l = some rs → ∀ x s, (x, s) ∈ l → (x = .normal ∧ ∃ r, k s = some r ∧ ∀ y ∈ r, y ∈ rs) ∨ (x ≠ .normal ∧ (x, s) ∈ rs)
  | [], rs, h, x, s, hx => by simp at hx
  | (.normal, s0) :: r, rs, h, x, s, hx => by
    simp only [bindL] at h
    split at h
    · rename_i a b ha hb
      cases h
      rcases List.mem_cons.1 hx with e | hx
      · cases e; exact .inl ⟨rfl, a, ha, fun y hy => List.mem_append_left _ hy⟩
      · rcases bindL_spec hb x s hx with ⟨e, r', h1, h2⟩ | ⟨e, h1⟩
        · exact .inl ⟨e, r', h1, fun y hy => List.mem_append_right _ (h2 y hy)⟩
        · exact .inr ⟨e, List.mem_append_right _ h1⟩
    · cases h
  | (.exit id, s0) :: r, rs, h, x, s, hx => by
    simp only [bindL] at h
    split at h
    · rename_i b hb
      cases h
      rcases List.mem_cons.1 hx with e | hx
      · cases e; exact .inr ⟨(fun e => by cases e), List.mem_cons_self⟩
      · rcases bindL_spec hb x s hx with ⟨e, r', h1, h2⟩ | ⟨e, h1⟩
        · exact .inl ⟨e, r', h1, fun y hy => List.mem_cons_of_mem _ (h2 y hy)⟩
        · exact .inr ⟨e, List.mem_cons_of_mem _ h1⟩
    · cases h
  | (.ret, s0) :: r, rs, h, x, s, hx => by
    simp only [bindL] at h
    split at h
    · rename_i b hb
      cases h
      rcases List.mem_cons.1 hx with e | hx
      · cases e; exact .inr ⟨(fun e => by cases e), List.mem_cons_self⟩
      · rcases bindL_spec hb x s hx with ⟨e, r', h1, h2⟩ | ⟨e, h1⟩
        · exact .inl ⟨e, r', h1, fun y hy => List.mem_cons_of_mem _ (h2 y hy)⟩
        · exact .inr ⟨e, List.mem_cons_of_mem _ h1⟩
    · cases h
  | (.panic d, s0) :: r, rs, h, x, s, hx => by
    simp only [bindL] at h
    split at h
    · rename_i b hb
      cases h
      rcases List.mem_cons.1 hx with e | hx
      · cases e; exact .inr ⟨(fun e => by cases e), List.mem_cons_self⟩
      · rcases bindL_spec hb x s hx with ⟨e, r', h1, h2⟩ | ⟨e, h1⟩
        · exact .inl ⟨e, r', h1, fun y hy => List.mem_cons_of_mem _ (h2 y hy)⟩
        · exact .inr ⟨e, List.mem_cons_of_mem _ h1⟩
    · cases h
theorem bindN_spec {r : RS} {k : St → RS} {rs : List (XE × St)} (h : bindN r k = some rs) : ∃ l, r = some l ∧ ∀ x s, (x, s) ∈ l → (x = .normal ∧ ∃ r', k s = some r' ∧ ∀ y ∈ r', y ∈ rs) ∨ (x ≠ .normal ∧ (x, s) ∈ rs) := by
  unfold bindN at h
  split at h
  · rename_i s0
    refine ⟨_, rfl, fun x s hx => ?_⟩
    simp only [List.mem_singleton, Prod.mk.injEq] at hx
    obtain ⟨rfl, rfl⟩ := hx
    exact .inl ⟨rfl, rs, h, fun y hy => hy⟩
  · exact ⟨_, rfl, bindL_spec h⟩
  · cases h
noncomputable def ofCall (n : Nat) (E : EnvA) (ds : List (FuncId × List AV × List AV)) (dst : Option Tmp) : List (CE × Heap) → RS
  | [] => some []
  | (.val d, H) :: r => match putA n E dst d, ofCall n E ds dst r with
    | some E', some l => some ((.normal, ⟨E', H, ds⟩) :: l)
    | _, _ => none
  | (.panic d, H) :: r => match ofCall n E ds dst r with
    | some l => some ((.panic d, ⟨E, H, ds⟩) :: l)
    | none => none
noncomputable def one (n : Nat) (s : St) (o : Oper) (d : AV) (H : Heap) : RS := match putA n s.E o.dst d with
  | some E' => some [(.normal, ⟨E', H, s.ds⟩)]
  | none => none
noncomputable def deferA (E : EnvA) (c : Call) : Option (FuncId × List AV × List AV) := match c.callee with
  | .value f => match opd E f, opds (opd E) c.args.toList with
    | some (.clo (.func fid) first cap), some args => some (fid, cap, first ++ args)
    | _, _ => none
  | _ => none
noncomputable def viaDoes (P : Program) (n : Nat) (s : St) (o : Oper) : RS := match doesA P s.H (opd s.E) o with
  | some (r, H') => one n s o (r.getD undefA) H'
  | none => none
noncomputable def viaPlain (P : Program) (n : Nat) (s : St) (o : Oper) : RS := match plainA P s.H (opd s.E) o with
  | some d => one n s o d s.H
  | none => viaDoes P n s o
noncomputable def viaLoad (P : Program) (n : Nat) (s : St) (o : Oper) (t : TypeId) (p : Operand) : RS := match opd s.E p with
  | some dp => match loadA P s.H t dp with
    | some (d, _) => one n s o d s.H
    | none => none
  | none => none
noncomputable def viaPanic (s : St) (x : Operand) : RS := match opd s.E x with
  | some (.iface t d) => some [(.panic (.iface t d), s)]
  | _ => none
noncomputable def viaDefer (n : Nat) (s : St) (o : Oper) (c : Call) : RS := match deferA s.E c with
  | some d => match putA n s.E o.dst undefA with
    | some E' => some [(.normal, ⟨E', s.H, d :: s.ds⟩)]
    | none => none
  | none => none
noncomputable def viaCall (P : Program) (cf : CF) (n : Nat) (s : St) (o : Oper) (c : Call) : RS := match calleeA P (opd s.E) c with
  | some (f, args) => match cf f args s.H with
    | some rs => ofCall n s.E s.ds o.dst rs
    | none => none
  | none => viaPlain P n s o
noncomputable def slowStep (P : Program) (cf : CF) (n : Nat) (o : Oper) (s : St) : RS := match o.op with
  | .load t p => viaLoad P n s o t p
  | .panic x => viaPanic s x
  | .defer c => viaDefer n s o c
  | .call c => viaCall P cf n s o c
  | .store .. => viaDoes P n s o
  | _ => viaPlain P n s o
noncomputable def goStep (P : Program) (cf : CF) (n : Nat) (o : Oper) (s : St) : RS := match fastOp (opd s.E) o.op with
  | some d => one n s o d s.H
  | none => slowStep P cf n o s
noncomputable def stepO (P : Program) (cf : CF) (n : Nat) (ops : Array Oper) (o : Oper) (s : St) : RS := match o.guard with
  | none => goStep P cf n o s
  | some _ => match wantA ops s.E o with
    | none => none
    | some false => one n s o undefA s.H
    | some true => goStep P cf n o s
noncomputable def opStep (P : Program) (cf : CF) (n : Nat) (ops : Array Oper) (i : Nat) (s : St) : RS := match ops[i]? with
  | none => none
  | some o => stepO P cf n ops o s
section
variable {P : Program} {cf : CF} {n base : Nat} {ops : Array Oper} {s : St} {C : Cx} {a : Act} {w : World} {rs : List (XE × St)} {Q : Exit → Act → World → Prop}
theorem one_spec {o : Oper} {d : AV} {H : Heap} (h : one n s o d H = some rs) : ∃ E', putA n s.E o.dst d = some E' ∧ rs = [(.normal, ⟨E', H, s.ds⟩)] := by
  unfold one at h
  split at h
  · rename_i E' hE; cases h; exact ⟨E', hE, rfl⟩
  · cases h
theorem put_defers (a : Act) (o : Option Tmp) (v : Value) : (a.put o v).defers = a.defers := by cases o <;> rfl
theorem ofCall_spec {E : EnvA} {ds : List (FuncId × List AV × List AV)} {dst : Option Tmp} : ∀ {l : List (CE × Heap)} {rs : List (XE × St)}, ofCall n E ds dst l = some rs → ∀ r ∈ l, match r.1 with
    | .val d => ∃ E', putA n E dst d = some E' ∧ (XE.normal, (⟨E', r.2, ds⟩ : St)) ∈ rs
    | .panic d => (XE.panic d, (⟨E, r.2, ds⟩ : St)) ∈ rs
  | [], _, _, r, hr => by simp at hr
  | (.val d, H) :: l, rs, h, r, hr => by
    simp only [ofCall] at h
    split at h
    · rename_i E' m hE hm
      cases h
      rcases List.mem_cons.1 hr with rfl | hr
      · exact ⟨E', hE, List.mem_cons_self⟩
      · have := ofCall_spec hm r hr
        cases hx : r.1 with
        | val d' => rw [hx] at this; obtain ⟨E2, h1, h2⟩ := this; exact ⟨E2, h1, List.mem_cons_of_mem _ h2⟩
        | panic d' => rw [hx] at this; exact List.mem_cons_of_mem _ this
    · cases h
  | (.panic d, H) :: l, rs, h, r, hr => by
    simp only [ofCall] at h
    split at h
    · rename_i m hm
      cases h
      rcases List.mem_cons.1 hr with rfl | hr
      · exact List.mem_cons_self
      · have := ofCall_spec hm r hr
        cases hx : r.1 with
        | val d' => rw [hx] at this; obtain ⟨E2, h1, h2⟩ := this; exact ⟨E2, h1, List.mem_cons_of_mem _ h2⟩
        | panic d' => rw [hx] at this; exact List.mem_cons_of_mem _ this
    · cases h
def PutOk (n : Nat) (ops : Array Oper) (i : Nat) (s s' : St) (a a' : Act) : Prop := ∃ o d, ops[i]? = some o ∧ putA n s.E o.dst d = some s'.E ∧ ∀ t, o.dst ≠ some t → a'.tmps[t]? = a.tmps[t]?
theorem put_other (a : Act) {o : Option Tmp} {v : Value} {t : Nat} (h : o ≠ some t) : (a.put o v).tmps[t]? = a.tmps[t]? := by
  cases o with
  | none => rfl
  | some d =>
    have hd : d ≠ t := fun e => h (by rw [e])
    simp [Act.put, Array.getElem?_setIfInBounds_ne hd]
theorem goStep_spec (hcf : CFok P base cf) {i : Nat} {o : Oper} (ho : ops[i]? = some o) (h : goStep P cf n o s = some rs) (hR : Rel C n base s a w) {K : Act → World → Prop}
    (hK : ∀ s' C' a' w', (XE.normal, s') ∈ rs → Goes C C' n base s.H s' w a' w' → PutOk n ops i s s' a a' → K a' w')
    (hQ : ∀ d s' C' a' w' v, (XE.panic d, s') ∈ rs → Goes C C' n base s.H s' w a' w' → Den C' d v → Q (.panic [{ v := v, recovered := false }]) a' w') : o.wp P a w K Q := by
  have hf := hR.env.fine
  have hgives : ∀ d, Gives P C a.eval o d → one n s o d s.H = some rs → o.wp P a w K Q := fun d hg h1 => by
    obtain ⟨v, hD, hr⟩ := hg
    obtain ⟨E', hE, rfl⟩ := one_spec h1
    unfold Oper.wp
    rw [hr w]
    exact hK _ C _ w (List.mem_singleton.2 rfl) ⟨Step.refl hR.mem, hR.env.put hE hD, by rw [put_defers]; exact hR.ds⟩ ⟨o, _, ho, hE, fun t ht => put_other a ht⟩
  have hdoes : viaDoes P n s o = some rs → o.wp P a w K Q := fun h => by
    unfold viaDoes at h
    split at h
    · rename_i r H' hp
      obtain ⟨C', w', hS, hr⟩ := does_spec hR.mem hf hp
      obtain ⟨E', hE, rfl⟩ := one_spec h
      unfold Oper.wp
      cases r with
      | none =>
        simp only at hr
        rw [hr]
        exact hK _ C' _ w' (List.mem_singleton.2 rfl) ⟨hS, (hR.env.mono hS.ext).put hE (.lit _), by rw [put_defers]; exact hR.ds.mono hS.ext⟩ ⟨o, _, ho, hE, fun t ht => put_other a ht⟩
      | some d =>
        obtain ⟨v, hD, hr⟩ := hr
        rw [hr]
        exact hK _ C' _ w' (List.mem_singleton.2 rfl) ⟨hS, (hR.env.mono hS.ext).put hE hD, by rw [put_defers]; exact hR.ds.mono hS.ext⟩ ⟨o, _, ho, hE, fun t ht => put_other a ht⟩
    · cases h
  have hplain : viaPlain P n s o = some rs → o.wp P a w K Q := fun h => by
    unfold viaPlain at h
    split at h
    · exact hgives _ (plain_spec hR.mem hf (by assumption)) h
    · exact hdoes h
  unfold goStep at h
  split at h
  · exact hgives _ (fast_spec hf (by assumption)) h
  · unfold slowStep at h
    split at h
    · rename_i t p hop
      unfold viaLoad at h
      split at h
      · rename_i dp hp
        split at h
        · rename_i d b hl
          obtain ⟨E', hE, rfl⟩ := one_spec h
          obtain ⟨v, hD, hr⟩ := load_spec (P := P) hR.mem hl (hf p _ hp)
          unfold Oper.wp
          have : (execOp a.eval o).run P w = .ok (.value v) w := by simp [execOp, hop, hr w (fun _ _ _ => rfl)]
          rw [this]
          exact hK _ C _ w (List.mem_singleton.2 rfl) ⟨Step.refl hR.mem, hR.env.put hE hD, by rw [put_defers]; exact hR.ds⟩ ⟨o, _, ho, hE, fun t ht => put_other a ht⟩
        · cases h
      · cases h
    · rename_i x hop
      unfold viaPanic at h
      split at h
      · rename_i t d hx
        cases h
        have hv := hf x _ hx
        unfold Oper.wp
        generalize hb : a.eval x = vx at hv
        cases hv with
        | @iface _ _ u hD =>
          have : (execOp a.eval o).run P w = .halt (.panic (.iface t u)) w := by simp [execOp, hop, hb, Instr.panic, goPanic, Sem.run]
          rw [this]
          exact hQ _ s C a w _ (List.mem_singleton.2 rfl) hR.goes (.iface hD)
      · cases h
    · rename_i c hop
      unfold viaDefer at h
      split at h
      · rename_i dd hd
        split at h
        · rename_i E' hE
          cases h
          obtain ⟨callee, args, argTypes⟩ := c
          unfold deferA at hd
          split at hd
          · rename_i fo hc
            simp only at hc
            subst hc
            split at hd
            · rename_i fid first cap args' hfo hargs
              cases hd
              have hA := opds_spec hf _ _ hargs
              have hv := hf fo _ hfo
              unfold Oper.wp
              generalize hb : a.eval fo = vf at hv
              cases hv with
              | @clo _ _ _ vs us hl hm h1 h2 =>
                have e1 : args.map a.eval = (args.toList.map a.eval).toArray := by apply Array.ext'; simp
                have : (execOp a.eval o).run P w = .ok (.defer { target := .fn (.func fid) us.toArray, args := (vs ++ args.toList.map a.eval).toArray }) w := by
                  simp only [execOp, hop, resolve, hb, Deferred.ofValue, Sem.run_bind, Sem.run_pure, Result.andThen_ok, e1]
                  simp
                rw [this]
                refine hK _ C _ w (List.mem_singleton.2 rfl) ⟨Step.refl hR.mem, ?_, ?_⟩ ⟨o, _, ho, hE, fun t ht => put_other _ ht⟩
                · have hE2 : ESat C n s.E { a with defers := { target := .fn (.func fid) us.toArray, args := (vs ++ args.toList.map a.eval).toArray } :: a.defers } := ⟨hR.env.size, hR.env.slot⟩
                  exact hE2.put hE (.lit _)
                · rw [put_defers]
                  exact .cons ⟨hm, h2⟩ (Dens.append ⟨hl, h1⟩ hA) hR.ds
            · cases hd
          · cases hd
        · cases h
      · cases h
    · rename_i c hop
      unfold viaCall at h
      split at h
      · rename_i f args hc
        split at h
        · rename_i l hl
          obtain ⟨vs, hD, hr⟩ := callee_spec (P := P) hf hop hc
          unfold Oper.wp
          rw [hr w]
          refine Calls.mono (hcf _ _ _ _ hl C w vs hR.mem hD) fun e w' he => ?_
          obtain ⟨r, hr', C', hS, hm⟩ := he
          have hm' := ofCall_spec h r hr'
          cases hx : r.1 with
          | val d =>
            rw [hx] at hm hm'
            obtain ⟨v, rfl, hDv⟩ := hm
            obtain ⟨E', hE, hin⟩ := hm'
            exact hK _ C' _ w' hin ⟨hS, (hR.env.mono hS.ext).put hE hDv, by rw [put_defers]; exact hR.ds.mono hS.ext⟩ ⟨o, _, ho, hE, fun t ht => put_other a ht⟩
          | panic d =>
            rw [hx] at hm hm'
            obtain ⟨v, rfl, hDv⟩ := hm
            exact hQ d _ C' a w' v hm' ⟨hS, hR.env.mono hS.ext, hR.ds.mono hS.ext⟩ hDv
        · cases h
      · exact hplain h
    · exact hdoes h
    · exact hplain h
theorem opStep_spec (hcf : CFok P base cf) {i : Nat} (h : opStep P cf n ops i s = some rs) (hR : Rel C n base s a w) {K : Act → World → Prop}
    (hK : ∀ s' C' a' w', (XE.normal, s') ∈ rs → Goes C C' n base s.H s' w a' w' → PutOk n ops i s s' a a' → K a' w')
    (hQ : ∀ d s' C' a' w' v, (XE.panic d, s') ∈ rs → Goes C C' n base s.H s' w a' w' → Den C' d v → Q (.panic [{ v := v, recovered := false }]) a' w') : wpOp P ops Q i K a w := by
  unfold opStep at h
  split at h
  · cases h
  · rename_i o ho
    unfold wpOp
    simp only [ho]
    unfold stepO at h
    split at h
    · rename_i hg
      have hwant : Region.wanted o (yielded ops a.tmps) = true := by simp [Region.wanted, hg]
      simp only [hwant, if_true]
      exact .inl (goStep_spec hcf ho h hR hK hQ)
    · split at h
      · cases h
      · rename_i hw
        obtain ⟨E', hE, rfl⟩ := one_spec h
        simp only [hR.env.wanted hw, Bool.false_eq_true, if_false]
        exact hK _ C _ w (List.mem_singleton.2 rfl) ⟨Step.refl hR.mem, hR.env.put hE (.lit _), by rw [put_defers]; exact hR.ds⟩ ⟨o, _, ho, hE, fun t ht => put_other a ht⟩
      · rename_i hw
        simp only [hR.env.wanted hw, if_true]
        exact .inl (goStep_spec hcf ho h hR hK hQ)
noncomputable def evalOps (P : Program) (cf : CF) (n : Nat) (ops : Array Oper) (l : List Oper) : St → RS :=
  List.rec (motive := fun _ => St → RS) (fun s => some [(.normal, s)]) (fun o _ ih s => bindN (stepO P cf n ops o s) ih) l
theorem evalOps_spec (hcf : CFok P base cf) : ∀ (l : List Oper) (k : Nat) (s : St) (C : Cx) (a : Act) (w : World) (rs : List (XE × St)) (Q : Exit → Act → World → Prop), (∀ j o, l[j]? = some o → ops[k + j]? = some o) → evalOps P cf n ops l s = some rs → Rel C n base s a w →
    (∀ x s' C' a' w' e, (x, s') ∈ rs → Goes C C' n base s.H s' w a' w' → ExOk C' x e → Q e a' w') → wpOps P ops Q (List.range' k l.length) a w
  | [], k, s, C, a, w, rs, Q, hk, h, hR, hQ => by
    have h : some [(XE.normal, s)] = some rs := h
    simp only [Option.some.injEq] at h
    subst h
    exact hQ .normal s C a w .normal (List.mem_singleton.2 rfl) hR.goes rfl
  | o :: r, k, s, C, a, w, rs, Q, hk, h, hR, hQ => by
    rw [List.length_cons, List.range'_succ, wpOps_cons]
    have h : bindN (stepO P cf n ops o s) (evalOps P cf n ops r) = some rs := h
    obtain ⟨l, hl, hb⟩ := bindN_spec h
    have ho : ops[k]? = some o := by simpa using hk 0 o rfl
    refine opStep_spec (i := k) hcf (by unfold opStep; rw [ho]; exact hl) hR (fun s' C' a' w' hin hG _ => ?_) (fun d s' C' a' w' v hin hG hD => ?_)
    · rcases hb _ _ hin with ⟨_, r', hr', hsub⟩ | ⟨hne, _⟩
      · exact evalOps_spec hcf r (k + 1) s' C' a' w' r' Q (fun j o hj => by have := hk (j + 1) o (by simpa using hj); rw [show k + 1 + j = k + (j + 1) by omega]; exact this) hr' hG.rel (fun x s2 C2 a2 w2 e hin2 hG2 hx => hQ x s2 C2 a2 w2 e (hsub _ hin2) (hG.trans hG2) hx)
      · exact absurd rfl hne
    · rcases hb _ _ hin with ⟨hne, _⟩ | ⟨_, hin2⟩
      · cases hne
      · exact hQ _ s' C' a' w' _ hin2 hG ⟨v, rfl, hD⟩
end
end Go.EV
