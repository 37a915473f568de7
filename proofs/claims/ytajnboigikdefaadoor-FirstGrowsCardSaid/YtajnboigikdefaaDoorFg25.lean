/- Texts that the proof of a law rests on, put together: part 25. -/
import Derived.Test.YtajnboigikdefaaDoorFg24
import Derived.Laws.BytesArg
namespace Go.EV
open Go Go.RowKit
open Go.XW (Imm Fits DD RepV SL LeafOk leafB Own Apart addI All2 Src Cells)
set_option linter.unusedVariables false
set_option linter.unusedSimpArgs false
inductive SX where
  | normal
  | exit (id : Nat)
  | ret
  | panic (d : AV)
  /-- what is not carried out: its condition is to be none -/
  | bad
inductive SC where
  | val (d : AV)
  | panic (d : AV)
  | bad
structure SSt where
  E : EnvA
  M : SH
  ds : List (FuncId × List AV × List AV)
abbrev SRS := Option (List (SX × SSt))
abbrev SCF := FuncId → List AV → SH → Option (List (SC × SH))
def SCallOk (C : Cx) (M : SH) (base : Nat) (w : World) (r : SC × SH) (e : Ending) (w' : World) : Prop := ∃ C', SStep C C' M r.2 base w w' ∧ match r.1 with
  | .val d => ∃ v, e = .returned v ∧ Den C' d v
  | .panic d => ∃ v, e = .panicked [{ v := v, recovered := false }] ∧ Den C' d v
  | .bad => False
def NBc (rs : List (SC × SH)) : Prop := ∀ M, (SC.bad, M) ∈ rs → ¬ M.pc
def NBs (rs : List (SX × SSt)) : Prop := ∀ s, (SX.bad, s) ∈ rs → ¬ s.M.pc
def SCFok (P : Program) (base : Nat) (cf : SCF) : Prop := ∀ f args M rs, cf f args M = some rs → NBc rs → ∀ C w vs, SMem C M base w → Dens C args vs → Calls P f vs.toArray w (fun e w' => ∃ r ∈ rs, SCallOk C M base w r e w')
def SExOk (C : Cx) (x : SX) (e : Exit) : Prop := match x with
  | .normal => e = .normal
  | .exit id => e = .exit id
  | .ret => e = .ret
  | .panic d => ∃ v, e = .panic [{ v := v, recovered := false }] ∧ Den C d v
  | .bad => False
structure SRel (C : Cx) (n base : Nat) (s : SSt) (a : Act) (w : World) : Prop where
  mem : SMem C s.M base w
  env : ESat C n s.E a
  ds : DefOk C s.ds a.defers
structure SGoes (C C' : Cx) (n base : Nat) (M : SH) (s' : SSt) (w : World) (a' : Act) (w' : World) : Prop where
  step : SStep C C' M s'.M base w w'
  env : ESat C' n s'.E a'
  ds : DefOk C' s'.ds a'.defers
theorem SGoes.rel {C C' : Cx} {n base : Nat} {M : SH} {s' : SSt} {w w' : World} {a' : Act} (h : SGoes C C' n base M s' w a' w') : SRel C' n base s' a' w' := ⟨h.step.mem, h.env, h.ds⟩
theorem SGoes.trans {A B C : Cx} {n base : Nat} {M : SH} {s s' : SSt} {u v w : World} {a a' : Act} (h : SGoes A B n base M s u a v) (k : SGoes B C n base s.M s' v a' w) : SGoes A C n base M s' u a' w := ⟨h.step.trans k.step, k.env, k.ds⟩
theorem SRel.goes {C : Cx} {n base : Nat} {s : SSt} {a : Act} {w : World} (h : SRel C n base s a w) : SGoes C C n base s.M s w a w := ⟨SStep.refl h.mem, h.env, h.ds⟩
def sbindL (k : SSt → SRS) : List (SX × SSt) → SRS
  | [] => some []
  | (.normal, s) :: r => match k s, sbindL k r with
    | some a, some b => some (a ++ b)
    | _, _ => none
  | (x, s) :: r => match sbindL k r with
    | some b => some ((x, s) :: b)
    | none => none
def sbindN (r : SRS) (k : SSt → SRS) : SRS := match r with
  | some [(.normal, s)] => k s
  | some l => sbindL k l
  | none => none
theorem sbindL_spec {k : SSt → SRS} : ∀ {l : List (SX × SSt)} {rs : List (SX × SSt)}, sbindL k l = some rs → ∀ x s, (x, s) ∈ l → (x = .normal ∧ ∃ r, k s = some r ∧ ∀ y ∈ r, y ∈ rs) ∨ (x ≠ .normal ∧ (x, s) ∈ rs)
  | [], rs, h, x, s, hx => by simp at hx
  | (y, s0) :: r, rs, h, x, s, hx => by
    by_cases hy : y = .normal
    · subst hy
      simp only [sbindL] at h
      split at h
      · rename_i a b ha hb
        cases h
        rcases List.mem_cons.1 hx with e | hx
        · cases e; exact .inl ⟨rfl, a, ha, fun y hy => List.mem_append_left _ hy⟩
        · rcases sbindL_spec hb x s hx with ⟨e, r', h1, h2⟩ | ⟨e, h1⟩
          · exact .inl ⟨e, r', h1, fun y hy => List.mem_append_right _ (h2 y hy)⟩
          · exact .inr ⟨e, List.mem_append_right _ h1⟩
      · cases h
    · have h' : ∃ b, sbindL k r = some b ∧ rs = (y, s0) :: b := by
        cases y <;> first | exact absurd rfl hy | (simp only [sbindL] at h; split at h <;> cases h; exact ⟨_, by assumption, rfl⟩)
      obtain ⟨b, hb, rfl⟩ := h'
      rcases List.mem_cons.1 hx with e | hx
      · cases e; exact .inr ⟨hy, List.mem_cons_self⟩
      · rcases sbindL_spec hb x s hx with ⟨e, r', h1, h2⟩ | ⟨e, h1⟩
        · exact .inl ⟨e, r', h1, fun y hy => List.mem_cons_of_mem _ (h2 y hy)⟩
        · exact .inr ⟨e, List.mem_cons_of_mem _ h1⟩
theorem sbindN_spec {r : SRS} {k : SSt → SRS} {rs : List (SX × SSt)} (h : sbindN r k = some rs) : ∃ l, r = some l ∧ ∀ x s, (x, s) ∈ l → (x = .normal ∧ ∃ r', k s = some r' ∧ ∀ y ∈ r', y ∈ rs) ∨ (x ≠ .normal ∧ (x, s) ∈ rs) := by
  unfold sbindN at h
  split at h
  · rename_i s0
    refine ⟨_, rfl, fun x s hx => ?_⟩
    simp only [List.mem_singleton, Prod.mk.injEq] at hx
    obtain ⟨rfl, rfl⟩ := hx
    exact .inl ⟨rfl, rs, h, fun y hy => hy⟩
  · exact ⟨_, rfl, sbindL_spec h⟩
  · cases h
theorem NBs.sub {l rs : List (SX × SSt)} (h : NBs rs) (hs : ∀ y ∈ l, y ∈ rs) : NBs l := fun s hm => h s (hs _ hm)
def withP (M : SH) (p : Prop) : SH := { M with pc := M.pc ∧ p }
def condR (c : Option Prop) (s s' : SSt) : List (SX × SSt) := match c with
  | none => [(.normal, s')]
  | some p => [(.normal, ⟨s'.E, withP s'.M p, s'.ds⟩), (.bad, ⟨s.E, withP s.M (¬ p), s.ds⟩)]
noncomputable def oneR (n : Nat) (s : SSt) (o : Oper) (d : AV) (M' : SH) (c : Option Prop) : SRS := match putA n s.E o.dst d with
  | some E' => some (condR c s ⟨E', M', s.ds⟩)
  | none => none
noncomputable def ofCallR (n : Nat) (s : SSt) (dst : Option Tmp) : List (SC × SH) → SRS
  | [] => some []
  | (.val d, M) :: r => match putA n s.E dst d, ofCallR n s dst r with
    | some E', some l => some ((.normal, ⟨E', M, s.ds⟩) :: l)
    | _, _ => none
  | (.panic d, M) :: r => match ofCallR n s dst r with
    | some l => some ((.panic d, ⟨s.E, M, s.ds⟩) :: l)
    | none => none
  | (.bad, M) :: r => match ofCallR n s dst r with
    | some l => some ((.bad, ⟨s.E, M, s.ds⟩) :: l)
    | none => none
noncomputable def viaDoesR (P : Program) (n : Nat) (s : SSt) (o : Oper) : SRS := match doesA P s.M.H (opd s.E) o with
  | some (r, H') => match fzOk H' s.M.fz with
    | true => oneR n s o (r.getD undefA) { s.M with H := H' } none
    | false => none
  | none => none
noncomputable def viaPlainR (P : Program) (n : Nat) (s : SSt) (o : Oper) : SRS := match plainA P s.M.H (opd s.E) o with
  | some d => oneR n s o d s.M none
  | none => match sPlain P s.M (opd s.E) o with
    | some (d, c) => oneR n s o d (withF s.M (factP s.M (opd s.E) o)) c
    | none => viaDoesR P n s o
noncomputable def viaLoadR (P : Program) (n : Nat) (s : SSt) (o : Oper) (t : TypeId) (p : Operand) : SRS := match opd s.E p with
  | some dp => match loadA P s.M.H t dp with
    | some (d, _) => oneR n s o d s.M none
    | none => match sLoadD P t dp with
      | some (d, c) => oneR n s o d s.M c
      | none => match sLoadR P s.M t dp with
        | some (d, c) => oneR n s o d s.M c
        | none => none
  | none => none
noncomputable def viaStoreR (P : Program) (n : Nat) (s : SSt) (o : Oper) (t : TypeId) (p x : Operand) : SRS := match opd s.E p, opd s.E x with
  | some dp, some dx => match sStore P s.M t dp dx with
    | some (M', c) => oneR n s o undefA M' c
    | none => viaDoesR P n s o
  | _, _ => none
def viaPanicR (s : SSt) (x : Option AV) : SRS := match x with
  | some (.iface t d) => some [(.panic (.iface t d), s)]
  | _ => none
noncomputable def viaDeferR (n : Nat) (s : SSt) (o : Oper) (c : Call) : SRS := match deferA s.E c with
  | some d => match putA n s.E o.dst undefA with
    | some E' => some [(.normal, ⟨E', s.M, d :: s.ds⟩)]
    | none => none
  | none => none
noncomputable def viaCallR (P : Program) (cf : SCF) (n : Nat) (s : SSt) (o : Oper) (c : Call) : SRS := match calleeA P (opd s.E) c with
  | some (f, args) => match cf f args s.M with
    | some rs => ofCallR n s o.dst rs
    | none => none
  | none => match sAppend P s.M (opd s.E) c with
    | some (d, M', p) => oneR n s o d M' p
    | none => match sAppZ P s.M (opd s.E) c with
      | some (d, M', p) => oneR n s o d M' p
      | none => viaPlainR P n s o
noncomputable def viaMakeR (P : Program) (n : Nat) (s : SSt) (o : Oper) : SRS := match sMake P s.M (opd s.E) o with
  | some (d, M') => oneR n s o d M' none
  | none => viaDoesR P n s o
noncomputable def viaZerosR (P : Program) (n : Nat) (s : SSt) (o : Oper) (t : TypeId) (l c : Operand) : SRS := match opd s.E l, opd s.E c with
  | some dl, some dc => match sZeros P s.M t dl dc with
    | some (d, M', p) => oneR n s o d M' p
    | none => viaMakeR P n s o
  | _, _ => none
noncomputable def viaSliceR (P : Program) (n : Nat) (s : SSt) (o : Oper) (t : TypeId) (x : Operand) (lo hi mx : Option Operand) : SRS := match opd s.E x with
  | some d => match sCut0 P s.M (opd s.E) t d lo hi mx with
    | some (d', M') => oneR n s o d' M' none
    | none => viaPlainR P n ⟨s.E, shutA s.M d, s.ds⟩ o
  | none => viaPlainR P n s o
noncomputable def sBytes (P : Program) (M : SH) (ρ : Operand → Option AV) (src dst : TypeId) (x : Operand) : Option AV := match runQ P (underlying dst), runQ P (underlying src) with
  | some .string, some (.slice el) => match runQ P (underlying el), ρ x with
    | some (.int .u8), some dx => match asR M dx with
      | some (_, ⟨.int .u8, _, xs, _, _⟩) => some (.sym (.str (strOfNums xs)))
      | _ => none
    | _, _ => none
  | _, _ => none
noncomputable def viaConvR (P : Program) (n : Nat) (s : SSt) (o : Oper) (src dst : TypeId) (x : Operand) : SRS := match sBytes P s.M (opd s.E) src dst x with
  | some d => oneR n s o d s.M none
  | none => viaPlainR P n s o
noncomputable def slowR (P : Program) (cf : SCF) (n : Nat) (o : Oper) (s : SSt) : SRS := match o.op with
  | .load t p => viaLoadR P n s o t p
  | .store t p x => viaStoreR P n s o t p x
  | .panic x => viaPanicR s (opd s.E x)
  | .defer c => viaDeferR n s o c
  | .call c => viaCallR P cf n s o c
  | .buildSlice .. => viaMakeR P n s o
  | .makeSlice t l c => viaZerosR P n s o t l c
  | .slice t x lo hi mx => viaSliceR P n s o t x lo hi mx
  | .convert src dst x => viaConvR P n s o src dst x
  | _ => viaPlainR P n s o
noncomputable def goR (P : Program) (cf : SCF) (n : Nat) (o : Oper) (s : SSt) : SRS := match fastOp (opd s.E) o.op with
  | some d => oneR n s o d s.M none
  | none => slowR P cf n o s
noncomputable def guardR (n : Nat) (ops : Array Oper) (o : Oper) (s : SSt) : Option (List (Bool × SSt)) := match o.guard with
  | none => some [(true, s)]
  | some (j, want) => match (ops[j]?).bind (·.dst) with
    | none => some [(false, s)]
    | some d => match getA s.E d with
      | some (.lit v) => match XW.yieldOf v with
        | some b => some [(b == want, s)]
        | none => some [(false, s)]
      | some (.sym (.bool b)) => match putA n s.E (some d) (.lit (.bool true)), putA n s.E (some d) (.lit (.bool false)) with
        | some E1, some E2 => some [(true == want, ⟨E1, withP s.M (b = true), s.ds⟩), (false == want, ⟨E2, withP s.M (b = false), s.ds⟩)]
        | _, _ => none
      | _ => none
def altOne (f g : SSt → SRS) (b : Bool) (s : SSt) : SRS := match b with
  | true => f s
  | false => g s
def altR (f g : SSt → SRS) : List (Bool × SSt) → SRS
  | [] => some []
  | (b, s) :: r => match altOne f g b s, altR f g r with
    | some x, some y => some (x ++ y)
    | _, _ => none
noncomputable def stepR (P : Program) (cf : SCF) (n : Nat) (ops : Array Oper) (o : Oper) (s : SSt) : SRS := match guardR n ops o s with
  | some l => altR (goR P cf n o) (fun s => oneR n s o undefA s.M none) l
  | none => none
noncomputable def opR (P : Program) (cf : SCF) (n : Nat) (ops : Array Oper) (i : Nat) (s : SSt) : SRS := match ops[i]? with
  | none => none
  | some o => stepR P cf n ops o s
section
variable {P : Program} {cf : SCF} {n base : Nat} {ops : Array Oper} {s : SSt} {C : Cx} {a : Act} {w : World} {rs : List (SX × SSt)} {Q : Exit → Act → World → Prop}
theorem oneR_spec {o : Oper} {d : AV} {M : SH} {c : Option Prop} (h : oneR n s o d M c = some rs) : ∃ E', putA n s.E o.dst d = some E' ∧ rs = condR c s ⟨E', M, s.ds⟩ := by
  unfold oneR at h
  split at h
  · rename_i E' hE; cases h; exact ⟨E', hE, rfl⟩
  · cases h
theorem condR_spec {c : Option Prop} {s' : SSt} (hn : NBs (condR c s s')) (hpc : s.M.pc) : holds c ∧ ∀ (C' : Cx) (w' : World), SMem C' s'.M base w' → ∃ s2, (SX.normal, s2) ∈ condR c s s' ∧ s2.E = s'.E ∧ s2.ds = s'.ds ∧ SStep C' C' s'.M s2.M base w' w' := by
  unfold condR at hn ⊢
  cases c with
  | none => exact ⟨trivial, fun C' w' hM => ⟨s', List.mem_singleton.2 rfl, rfl, rfl, SStep.refl hM⟩⟩
  | some p =>
    have hp : p := Classical.byContradiction fun hp => hn _ (List.mem_cons_of_mem _ List.mem_cons_self) ⟨hpc, hp⟩
    exact ⟨hp, fun C' w' hM => ⟨_, List.mem_cons_self, rfl, rfl, hM.cond (p := s'.M.pc ∧ p) ⟨hM.pc, hp⟩⟩⟩
theorem ofCallR_spec {dst : Option Tmp} : ∀ {l : List (SC × SH)} {rs : List (SX × SSt)}, ofCallR n s dst l = some rs → ∀ r ∈ l, match r.1 with
    | .val d => ∃ E', putA n s.E dst d = some E' ∧ (SX.normal, (⟨E', r.2, s.ds⟩ : SSt)) ∈ rs
    | .panic d => (SX.panic d, (⟨s.E, r.2, s.ds⟩ : SSt)) ∈ rs
    | .bad => (SX.bad, (⟨s.E, r.2, s.ds⟩ : SSt)) ∈ rs
  | [], _, _, r, hr => by simp at hr
  | (.val d, H) :: l, rs, h, r, hr => by
    simp only [ofCallR] at h
    split at h
    · rename_i E' m hE hm
      cases h
      rcases List.mem_cons.1 hr with rfl | hr
      · exact ⟨E', hE, List.mem_cons_self⟩
      · have := ofCallR_spec hm r hr
        cases hx : r.1 with
        | val d' => rw [hx] at this; obtain ⟨E2, h1, h2⟩ := this; exact ⟨E2, h1, List.mem_cons_of_mem _ h2⟩
        | panic d' => rw [hx] at this; exact List.mem_cons_of_mem _ this
        | bad => rw [hx] at this; exact List.mem_cons_of_mem _ this
    · cases h
  | (.panic d, H) :: l, rs, h, r, hr => by
    simp only [ofCallR] at h
    split at h
    · rename_i m hm
      cases h
      rcases List.mem_cons.1 hr with rfl | hr
      · exact List.mem_cons_self
      · have := ofCallR_spec hm r hr
        cases hx : r.1 with
        | val d' => rw [hx] at this; obtain ⟨E2, h1, h2⟩ := this; exact ⟨E2, h1, List.mem_cons_of_mem _ h2⟩
        | panic d' => rw [hx] at this; exact List.mem_cons_of_mem _ this
        | bad => rw [hx] at this; exact List.mem_cons_of_mem _ this
    · cases h
  | (.bad, H) :: l, rs, h, r, hr => by
    simp only [ofCallR] at h
    split at h
    · rename_i m hm
      cases h
      rcases List.mem_cons.1 hr with rfl | hr
      · exact List.mem_cons_self
      · have := ofCallR_spec hm r hr
        cases hx : r.1 with
        | val d' => rw [hx] at this; obtain ⟨E2, h1, h2⟩ := this; exact ⟨E2, h1, List.mem_cons_of_mem _ h2⟩
        | panic d' => rw [hx] at this; exact List.mem_cons_of_mem _ this
        | bad => rw [hx] at this; exact List.mem_cons_of_mem _ this
    · cases h
def RunsTo (P : Program) (C : Cx) (n base : Nat) (s : SSt) (rs : List (SX × SSt)) (o : Oper) (a : Act) (w : World) (K : Act → World → Prop) (Q : Exit → Act → World → Prop) : Prop :=
  (∀ s' C' a' w', (SX.normal, s') ∈ rs → SGoes C C' n base s.M s' w a' w' → (∀ t, o.dst ≠ some t → a'.tmps[t]? = a.tmps[t]?) → K a' w') →
  (∀ d s' C' a' w' v, (SX.panic d, s') ∈ rs → SGoes C C' n base s.M s' w a' w' → Den C' d v → Q (.panic [{ v := v, recovered := false }]) a' w') → o.wp P a w K Q
theorem put_other' (a : Act) {o : Option Tmp} {v : Value} {t : Nat} (h : o ≠ some t) : (a.put o v).tmps[t]? = a.tmps[t]? := by
  cases o with
  | none => rfl
  | some d =>
    have hd : d ≠ t := fun e => h (by rw [e])
    simp [Act.put, Array.getElem?_setIfInBounds_ne hd]
theorem put_defers' (a : Act) (o : Option Tmp) (v : Value) : (a.put o v).defers = a.defers := by cases o <;> rfl
section
variable {K : Act → World → Prop} {o : Oper}
theorem run_val {d : AV} {c : Option Prop} (h : oneR n s o d s.M c = some rs) (hn : NBs rs) (hR : SRel C n base s a w) (hv : holds c → ∃ v, Den C d v ∧ (execOp a.eval o).run P w = .ok (.value v) w) : RunsTo P C n base s rs o a w K Q := fun hK _ => by
  obtain ⟨E', hE, rfl⟩ := oneR_spec h
  obtain ⟨hc, hway⟩ := condR_spec (base := base) hn hR.mem.pc
  obtain ⟨v, hD, hr⟩ := hv hc
  obtain ⟨s2, hm, e1, e2, hS⟩ := hway C w hR.mem
  unfold Oper.wp
  rw [hr]
  exact hK s2 C _ w hm ⟨hS, by rw [e1]; exact hR.env.put hE hD, by rw [e2, put_defers']; exact hR.ds⟩ (fun t ht => put_other' a ht)
theorem run_does {r : Option AV} {M' : SH} {c : Option Prop} (h : oneR n s o (r.getD undefA) M' c = some rs) (hn : NBs rs) (hR : SRel C n base s a w) (hv : holds c → DoesS P C s.M M' base w a.eval o r) : RunsTo P C n base s rs o a w K Q := fun hK _ => by
  obtain ⟨E', hE, rfl⟩ := oneR_spec h
  obtain ⟨hc, hway⟩ := condR_spec (base := base) hn hR.mem.pc
  obtain ⟨C', w', hS0, hr⟩ := hv hc
  obtain ⟨s2, hm, e1, e2, hS⟩ := hway C' w' hS0.mem
  unfold Oper.wp
  cases r with
  | none =>
    simp only at hr
    rw [hr]
    exact hK s2 C' _ w' hm ⟨hS0.trans hS, by rw [e1]; exact (hR.env.smono hS0.ext).put hE (.lit _), by rw [e2, put_defers']; exact hR.ds.smono hS0.ext⟩ (fun t ht => put_other' a ht)
  | some d =>
    obtain ⟨v, hD, hr⟩ := hr
    rw [hr]
    exact hK s2 C' _ w' hm ⟨hS0.trans hS, by rw [e1]; exact (hR.env.smono hS0.ext).put hE hD, by rw [e2, put_defers']; exact hR.ds.smono hS0.ext⟩ (fun t ht => put_other' a ht)
theorem viaDoesR_spec (h : viaDoesR P n s o = some rs) (hn : NBs rs) (hR : SRel C n base s a w) : RunsTo P C n base s rs o a w K Q := by
  unfold viaDoesR at h
  split at h
  · rename_i r H' hp
    split at h
    · rename_i hz
      refine run_does (M' := { s.M with H := H' }) h hn hR (fun _ => ?_)
      obtain ⟨C', w', hS, hr⟩ := does_spec hR.mem.mem hR.env.fine hp
      exact ⟨C', w', hR.mem.lift hS hz, hr⟩
    · cases h
  · cases h
theorem viaPlainR_spec (h : viaPlainR P n s o = some rs) (hn : NBs rs) (hR : SRel C n base s a w) : RunsTo P C n base s rs o a w K Q := by
  unfold viaPlainR at h
  split at h
  · rename_i d hd
    exact run_val h hn hR (fun _ => let ⟨v, hv, hr⟩ := plain_spec hR.mem.mem hR.env.fine hd; ⟨v, hv, hr w⟩)
  · split at h
    · rename_i d c hd
      refine run_does (r := some d) h hn hR (fun hc => ?_)
      obtain ⟨v, hv, hr⟩ := splain_spec hR.mem hR.env.fine hd hc
      exact ⟨C, w, withF_step hR.mem (fun p hp => factP_spec hR.mem hR.env.fine hp), v, hv, hr w hR.mem.fits⟩
    · exact viaDoesR_spec h hn hR
theorem viaMakeR_spec (h : viaMakeR P n s o = some rs) (hn : NBs rs) (hR : SRel C n base s a w) : RunsTo P C n base s rs o a w K Q := by
  unfold viaMakeR at h
  split at h
  · rename_i d M' hd
    exact run_does (r := some d) h hn hR (fun _ => d_smake hR.mem hR.env.fine hd)
  · exact viaDoesR_spec h hn hR
theorem g_sbytes {M : SH} {ρ : Operand → Option AV} {e : Operand → Value} {src dst : TypeId} {x : Operand} {d : AV} (hM : SMem C M base w) (hf : Fine C ρ e) (ho : o.op = .convert src dst x) (h : sBytes P M ρ src dst x = some d) : ∃ v, Den C d v ∧ (execOp e o).run P w = .ok (.value v) w := by
  unfold sBytes at h
  split at h
  · rename_i el hd hs
    split at h
    · rename_i dx hel hx
      split at h
      · rename_i r T xs cl fr hR
        cases h
        have hv := hf x _ hx
        obtain ⟨_, _, _, _, hown, _⟩ := asR_spec hM hR hv
        have u1 := runQ_spec P _ _ hd
        have u2 := runQ_spec P _ _ hs
        have u3 := runQ_spec P _ _ hel
        have hown : Own base C.unk.imm w T (Ty.cells (.int .u8)) (Ty.dd (.int .u8)) xs (e x) := hown
        refine ⟨.string (strOfNums xs), .sym (.str _), ?_⟩
        have key : (convert src dst (e x)).run P w = .ok (.string (strOfNums xs)) w := by
          obtain ⟨A, cap, hform, _⟩ := hown.form
          rw [hform]
          have e1 : (convert src dst (.slice A xs.length cap)).run P w = (Conv.bytesToString (.slice A xs.length cap)).run P w := by simp [convert, u1, u2, u3]
          rw [e1]
          cases A with
          | none =>
            obtain ⟨ys, hrow, _⟩ := hown.row
            rcases hrow.2 with ⟨hv1, hn⟩ | ⟨g, c2, cur, hv1, _⟩
            · have hx0 : xs = [] := List.eq_nil_of_length_eq_zero hn
              subst hx0
              simp [Conv.bytesToString]
              rfl
            · rw [hform] at hv1; cases hv1
          | some ad =>
            have hl : (loadCells ad xs.length).run P w = .ok (xs.map (Value.int .u8)).toArray w := by
              have := run_loadCells_list (P := P) w ad (xs.map (Value.int .u8)) (fun j v hj => by
                rw [List.getElem?_map, Option.map_eq_some_iff] at hj
                obtain ⟨y, hy, rfl⟩ := hj
                have hjl := (List.getElem?_eq_some_iff.1 hy).1
                obtain ⟨us, a1, a2⟩ := own_elem (Ty.leafOk (.int .u8)) hown hform j 0 hjl
                have hb := a1.back
                have hl1 : us.length = 1 := hb.1
                cases us with
                | nil => simp at hl1
                | cons u r =>
                  have hu := hb.2 0 _ u rfl rfl
                  have hc := a2 0 u rfl
                  rw [XW.add_0, show j * Ty.cells (.int .u8) = j from Nat.mul_one j] at hc
                  rw [hc]
                  have e0 : xs.getD j 0 = y := by rw [List.getD_eq_getElem?_getD, hy]; rfl
                  rw [e0] at hu
                  cases hu
                  rfl)
              rw [List.length_map] at this
              exact this
            rw [run_bytesToString w ad xs.length cap xs hl, foldl_push_bytes]
            simp [strOfNums, ByteArray.empty, ByteArray.emptyWithCapacity]
            rfl
        simp [execOp, ho, key]
      · cases h
    · cases h
  · cases h
theorem goR_spec (hcf : SCFok P base cf) (h : goR P cf n o s = some rs) (hn : NBs rs) (hR : SRel C n base s a w) : RunsTo P C n base s rs o a w K Q := by
  have hf := hR.env.fine
  unfold goR at h
  split at h
  · rename_i d hd
    exact run_val h hn hR (fun _ => let ⟨v, hv, hr⟩ := fast_spec (P := P) hf hd; ⟨v, hv, hr w⟩)
  · unfold slowR at h
    split at h
    · rename_i t p hop
      unfold viaLoadR at h
      split at h
      · rename_i dp hp
        split at h
        · rename_i d b hl
          refine run_val h hn hR (fun _ => ?_)
          obtain ⟨v, hD, hr⟩ := load_spec (P := P) hR.mem.mem hl (hf p _ hp)
          exact ⟨v, hD, by simp [execOp, hop, hr w (fun _ _ _ => rfl)]⟩
        · split at h
          · rename_i d c hl
            exact run_val h hn hR (fun hc => let ⟨v, hv, hr⟩ := g_sload (P := P) hf hop hp hl hc; ⟨v, hv, hr w hR.mem.fits⟩)
          · split at h
            · rename_i d c hl
              exact run_val h hn hR (fun hc => g_sloadr hR.mem hf hop hp hl hc)
            · cases h
      · cases h
    · rename_i t p x hop
      unfold viaStoreR at h
      split at h
      · rename_i dp dx hp hx
        split at h
        · rename_i M' c hd
          exact run_does (r := none) h hn hR (fun hc => d_sstore hR.mem hf hop hp hx hd hc)
        · exact viaDoesR_spec h hn hR
      · cases h
    · rename_i x hop
      unfold viaPanicR at h
      split at h
      · rename_i t d hx
        cases h
        intro _ hQ
        have hv := hf x _ hx
        unfold Oper.wp
        generalize hb : a.eval x = vx at hv
        cases hv with
        | @iface _ _ u hD =>
          have : (execOp a.eval o).run P w = .halt (.panic (.iface t u)) w := by simp [execOp, hop, hb, Instr.panic, goPanic, Sem.run]
          rw [this]
          exact hQ _ s C a w _ (List.mem_singleton.2 rfl) hR.goes (.iface hD)
      · cases h
    · rename_i c hop
      unfold viaDeferR at h
      split at h
      · rename_i dd hd
        split at h
        · rename_i E' hE
          cases h
          intro hK _
          obtain ⟨callee, args, argTypes⟩ := c
          unfold deferA at hd
          split at hd
          · rename_i fo hc
            simp only at hc
            subst hc
            split at hd
            · rename_i fid first cap args' hfo hargs
              cases hd
              have hA := opds_spec hf _ _ hargs
              have hv := hf fo _ hfo
              unfold Oper.wp
              generalize hb : a.eval fo = vf at hv
              cases hv with
              | @clo _ _ _ vs us hl hm h1 h2 =>
                have e1 : args.map a.eval = (args.toList.map a.eval).toArray := by apply Array.ext'; simp
                have : (execOp a.eval o).run P w = .ok (.defer { target := .fn (.func fid) us.toArray, args := (vs ++ args.toList.map a.eval).toArray }) w := by
                  simp only [execOp, hop, resolve, hb, Deferred.ofValue, Sem.run_bind, Sem.run_pure, Result.andThen_ok, e1]
                  simp
                rw [this]
                refine hK _ C _ w (List.mem_singleton.2 rfl) ⟨SStep.refl hR.mem, ?_, ?_⟩ (fun t ht => put_other' _ ht)
                · have hE2 : ESat C n s.E { a with defers := { target := .fn (.func fid) us.toArray, args := (vs ++ args.toList.map a.eval).toArray } :: a.defers } := ⟨hR.env.size, hR.env.slot⟩
                  exact hE2.put hE (.lit _)
                · rw [put_defers']
                  exact .cons ⟨hm, h2⟩ (Dens.append ⟨hl, h1⟩ hA) hR.ds
            · cases hd
          · cases hd
        · cases h
      · cases h
    · rename_i c hop
      unfold viaCallR at h
      split at h
      · rename_i f args hc
        split at h
        · rename_i l hl
          intro hK hQ
          obtain ⟨vs, hD, hr⟩ := callee_spec (P := P) hf hop hc
          unfold Oper.wp
          rw [hr w]
          have hnl : NBc l := fun M hm hpc => by
            have := ofCallR_spec h _ hm
            exact hn _ this hpc
          refine Calls.mono (hcf _ _ _ _ hl hnl C w vs hR.mem hD) fun e w' he => ?_
          obtain ⟨r, hr', C', hS, hm⟩ := he
          have hm' := ofCallR_spec h r hr'
          cases hx : r.1 with
          | val d =>
            rw [hx] at hm hm'
            obtain ⟨v, rfl, hDv⟩ := hm
            obtain ⟨E', hE, hin⟩ := hm'
            exact hK _ C' _ w' hin ⟨hS, (hR.env.smono hS.ext).put hE hDv, by rw [put_defers']; exact hR.ds.smono hS.ext⟩ (fun t ht => put_other' _ ht)
          | panic d =>
            rw [hx] at hm hm'
            obtain ⟨v, rfl, hDv⟩ := hm
            exact hQ d _ C' a w' v hm' ⟨hS, hR.env.smono hS.ext, hR.ds.smono hS.ext⟩ hDv
          | bad => rw [hx] at hm; exact hm.elim
        · cases h
      · split at h
        · rename_i d M' p hd
          exact run_does (r := some d) h hn hR (fun hc => d_sappend hR.mem hf hop hd hc)
        · split at h
          · rename_i d M' p hd
            exact run_does (r := some d) h hn hR (fun hc => d_sappz hR.mem hf hop hd hc)
          · exact viaPlainR_spec h hn hR
    · exact viaMakeR_spec h hn hR
    · rename_i t l c hop
      unfold viaZerosR at h
      split at h
      · rename_i dl dc hl hc
        split at h
        · rename_i d M' p hd
          exact run_does (r := some d) h hn hR (fun hcc => d_szeros hR.mem hf hop hl hc hd hcc)
        · exact viaMakeR_spec h hn hR
      · cases h
    · rename_i t x lo hi mx hop
      unfold viaSliceR at h
      split at h
      · rename_i d hd
        split at h
        · rename_i d' M' hc
          exact run_does (r := some d') h hn hR (fun _ => d_scut0 hR.mem hf hop hd hc)
        obtain ⟨C1, hS⟩ := shutA_spec hR.mem d
        have hG : SGoes C C1 n base s.M ⟨s.E, shutA s.M d, s.ds⟩ w a w := ⟨hS, hR.env.smono hS.ext, hR.ds.smono hS.ext⟩
        have := viaPlainR_spec (K := K) (Q := Q) h hn hG.rel
        exact fun hK hQ => this (fun s' C' a' w' hm hg ht => hK s' C' a' w' hm (hG.trans hg) ht) (fun d s' C' a' w' v hm hg hv => hQ d s' C' a' w' v hm (hG.trans hg) hv)
      · exact viaPlainR_spec h hn hR
    · rename_i src dst x hop
      unfold viaConvR at h
      split at h
      · rename_i d hd
        exact run_val h hn hR (fun _ => g_sbytes hR.mem hf hop hd)
      · exact viaPlainR_spec h hn hR
    · exact viaPlainR_spec h hn hR
theorem ESat.known {E E' : EnvA} {d : Nat} {x : AV} {v : Value} (h : ESat C n E a) (hp : putA n E (some d) x = some E') (hv : a.tmps[d]? = some v) (hD : Den C x v) : ESat C n E' a := by
  simp only [putA] at hp
  split at hp
  · rename_i hb hb2
    have hlt2 : d < 4095 := by simpa [Nat.blt_eq] using hb2
    cases hp
    refine ⟨h.size, fun i y hy => ?_⟩
    by_cases e : i = d
    · subst e
      have : getA (Tr.set x 12 E i) i = some x := Tr.get_set_same x 12 E i (by omega)
      rw [this] at hy; cases hy
      exact ⟨v, hv, hD⟩
    · have : getA (Tr.set x 12 E d) i = getA E i := Tr.get_set_ne x 12 E d i e
      rw [this] at hy
      exact h.slot i y hy
  · cases hp
theorem guardR_spec {l : List (Bool × SSt)} (h : guardR n ops o s = some l) (hR : SRel C n base s a w) : ∃ g s', (g, s') ∈ l ∧ SGoes C C n base s.M s' w a w ∧ Region.wanted o (yielded ops a.tmps) = g := by
  unfold guardR at h
  split at h
  · rename_i hg
    cases h
    exact ⟨true, s, List.mem_singleton.2 rfl, hR.goes, by simp [Region.wanted, hg]⟩
  · rename_i j want hg
    split at h
    · rename_i hd
      cases h
      exact ⟨false, s, List.mem_singleton.2 rfl, hR.goes, by simp [Region.wanted, hg, yielded, hd]⟩
    · rename_i d hd
      split at h
      · rename_i v hv
        obtain ⟨u, h1, h2⟩ := hR.env.slot _ _ hv
        cases h2
        split at h
        · rename_i b hb
          cases h
          refine ⟨_, s, List.mem_singleton.2 rfl, hR.goes, ?_⟩
          simp only [Region.wanted, hg, yielded, hd, Option.bind_some, h1]
          cases v <;> simp [XW.yieldOf] at hb ⊢
          subst hb; rfl
        · rename_i hb
          cases h
          refine ⟨_, s, List.mem_singleton.2 rfl, hR.goes, ?_⟩
          simp only [Region.wanted, hg, yielded, hd, Option.bind_some, h1]
          cases v <;> simp [XW.yieldOf] at hb ⊢
      · rename_i b hv
        obtain ⟨u, h1, h2⟩ := hR.env.slot _ _ hv
        cases sym_inv h2
        split at h
        · rename_i E1 E2 hE1 hE2
          cases h
          cases b with
          | true =>
            refine ⟨_, _, List.mem_cons_self, ⟨hR.mem.cond (p := s.M.pc ∧ true = true) ⟨hR.mem.pc, rfl⟩, hR.env.known hE1 h1 (.lit _), hR.ds⟩, ?_⟩
            simp [Region.wanted, hg, yielded, hd, h1]
          | false =>
            refine ⟨_, _, List.mem_cons_of_mem _ List.mem_cons_self, ⟨hR.mem.cond (p := s.M.pc ∧ false = false) ⟨hR.mem.pc, rfl⟩, hR.env.known hE2 h1 (.lit _), hR.ds⟩, ?_⟩
            simp [Region.wanted, hg, yielded, hd, h1]
        · cases h
      · cases h
theorem altR_spec {f g : SSt → SRS} : ∀ {l : List (Bool × SSt)} {rs : List (SX × SSt)}, altR f g l = some rs → ∀ b s, (b, s) ∈ l → ∃ r, altOne f g b s = some r ∧ ∀ y ∈ r, y ∈ rs
  | [], rs, h, b, s, hm => by simp at hm
  | (c, s0) :: r, rs, h, b, s, hm => by
    simp only [altR] at h
    split at h
    · rename_i x y hx hy
      cases h
      rcases List.mem_cons.1 hm with e | hm
      · cases e; exact ⟨x, hx, fun z hz => List.mem_append_left _ hz⟩
      · obtain ⟨r', h1, h2⟩ := altR_spec hy b s hm
        exact ⟨r', h1, fun z hz => List.mem_append_right _ (h2 z hz)⟩
    · cases h
end
theorem opR_spec (hcf : SCFok P base cf) {i : Nat} (h : opR P cf n ops i s = some rs) (hn : NBs rs) (hR : SRel C n base s a w) {K : Act → World → Prop}
    (hK : ∀ s' C' a' w', (SX.normal, s') ∈ rs → SGoes C C' n base s.M s' w a' w' → K a' w')
    (hQ : ∀ d s' C' a' w' v, (SX.panic d, s') ∈ rs → SGoes C C' n base s.M s' w a' w' → Den C' d v → Q (.panic [{ v := v, recovered := false }]) a' w') : wpOp P ops Q i K a w := by
  unfold opR at h
  split at h
  · cases h
  · rename_i o ho
    unfold wpOp
    simp only [ho]
    unfold stepR at h
    split at h
    · rename_i l hl
      obtain ⟨g, s', hm, hG, hw⟩ := guardR_spec hl hR
      obtain ⟨r, hr, hsub⟩ := altR_spec h g s' hm
      rw [hw]
      cases g with
      | true =>
        simp only [if_true]
        exact .inl (goR_spec (K := K) (Q := Q) hcf hr (hn.sub hsub) hG.rel (fun s2 C' a' w' hin hG2 _ => hK s2 C' a' w' (hsub _ hin) (hG.trans hG2)) (fun d s2 C' a' w' v hin hG2 hD => hQ d s2 C' a' w' v (hsub _ hin) (hG.trans hG2) hD))
      | false =>
        simp only [Bool.false_eq_true, if_false]
        obtain ⟨E', hE, rfl⟩ := oneR_spec hr
        exact hK _ C _ w (hsub _ (List.mem_singleton.2 rfl)) ⟨hG.step, hG.env.put hE (.lit _), by rw [put_defers']; exact hG.ds⟩
    · cases h
noncomputable def runR (P : Program) (cf : SCF) (n : Nat) (ops : Array Oper) (l : List Oper) : SSt → SRS :=
  List.rec (motive := fun _ => SSt → SRS) (fun s => some [(.normal, s)]) (fun o _ ih s => sbindN (stepR P cf n ops o s) ih) l
theorem runR_spec (hcf : SCFok P base cf) : ∀ (l : List Oper) (k : Nat) (s : SSt) (C : Cx) (a : Act) (w : World) (rs : List (SX × SSt)) (Q : Exit → Act → World → Prop), (∀ j o, l[j]? = some o → ops[k + j]? = some o) → runR P cf n ops l s = some rs → NBs rs → SRel C n base s a w →
    (∀ x s' C' a' w' e, (x, s') ∈ rs → SGoes C C' n base s.M s' w a' w' → SExOk C' x e → Q e a' w') → wpOps P ops Q (List.range' k l.length) a w
  | [], k, s, C, a, w, rs, Q, hk, h, hn, hR, hQ => by
    have h : some [(SX.normal, s)] = some rs := h
    simp only [Option.some.injEq] at h
    subst h
    exact hQ .normal s C a w .normal (List.mem_singleton.2 rfl) hR.goes rfl
  | o :: r, k, s, C, a, w, rs, Q, hk, h, hn, hR, hQ => by
    rw [List.length_cons, List.range'_succ, wpOps_cons]
    have h : sbindN (stepR P cf n ops o s) (runR P cf n ops r) = some rs := h
    obtain ⟨l, hl, hb⟩ := sbindN_spec h
    have ho : ops[k]? = some o := by simpa using hk 0 o rfl
    have hnl : NBs l := fun s' hm => by
      rcases hb _ _ hm with ⟨e, _⟩ | ⟨_, h1⟩
      · cases e
      · exact hn s' h1
    refine opR_spec (i := k) hcf (by unfold opR; rw [ho]; exact hl) hnl hR (fun s' C' a' w' hin hG => ?_) (fun d s' C' a' w' v hin hG hD => ?_)
    · rcases hb _ _ hin with ⟨_, r', hr', hsub⟩ | ⟨hne, _⟩
      · exact runR_spec hcf r (k + 1) s' C' a' w' r' Q (fun j o hj => by have := hk (j + 1) o (by simpa using hj); rw [show k + 1 + j = k + (j + 1) by omega]; exact this) hr' (hn.sub hsub) hG.rel (fun x s2 C2 a2 w2 e hin2 hG2 hx => hQ x s2 C2 a2 w2 e (hsub _ hin2) (hG.trans hG2) hx)
      · exact absurd rfl hne
    · rcases hb _ _ hin with ⟨hne, _⟩ | ⟨_, hin2⟩
      · cases hne
      · exact hQ _ s' C' a' w' _ hin2 hG ⟨v, rfl, hD⟩
end
end Go.EV
