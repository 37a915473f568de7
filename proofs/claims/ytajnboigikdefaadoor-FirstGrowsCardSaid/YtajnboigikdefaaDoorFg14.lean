/- Texts that the proof of a law rests on, put together: part 14. -/
import Derived.Test.YtajnboigikdefaaDoorFg13
namespace Go.EV
open Go Go.RowKit
set_option linter.unusedVariables false
set_option linter.unusedSimpArgs false
abbrev EnvA := Tr AV
noncomputable def getA (E : EnvA) (i : Nat) : Option AV := E.get i
noncomputable def opd (E : EnvA) : Operand → Option AV
  | .tmp t => getA E t
  | .const v => absN 20 v
  | .global _ => none
  | .func f => some (.clo (.func f) [] [])
structure St where
  E : EnvA
  H : Heap
  ds : List (FuncId × List AV × List AV)
inductive DefOk (C : Cx) : List (FuncId × List AV × List AV) → List Deferred → Prop
  | nil : DefOk C [] []
  | cons {f : FuncId} {cap args : List AV} {vs us : List Value} {l : List (FuncId × List AV × List AV)} {m : List Deferred} (h1 : Dens C cap vs) (h2 : Dens C args us) (h : DefOk C l m) : DefOk C ((f, cap, args) :: l) ({ target := .fn (.func f) vs.toArray, args := us.toArray } :: m)
theorem DefOk.mono {C C' : Cx} (hE : Ext C C') {l : List (FuncId × List AV × List AV)} {m : List Deferred} (h : DefOk C l m) : DefOk C' l m := by
  induction h with
  | nil => exact .nil
  | cons h1 h2 _ ih => exact .cons (h1.mono hE) (h2.mono hE) ih
structure ESat (C : Cx) (n : Nat) (E : EnvA) (a : Act) : Prop where
  size : a.tmps.size = n
  slot : ∀ i d, getA E i = some d → ∃ v, a.tmps[i]? = some v ∧ Den C d v
theorem ESat.mono {C C' : Cx} (hE : Ext C C') {n : Nat} {E : EnvA} {a : Act} (h : ESat C n E a) : ESat C' n E a := ⟨h.size, fun i d hd => let ⟨v, hv, hD⟩ := h.slot i d hd; ⟨v, hv, hD.mono hE⟩⟩
theorem ESat.fine {C : Cx} {n : Nat} {E : EnvA} {a : Act} (h : ESat C n E a) : Fine C (opd E) a.eval := fun x d hx => by
  cases x with
  | tmp t =>
    obtain ⟨v, hv, hD⟩ := h.slot t d hx
    simpa [Act.eval, hv] using hD
  | const v => exact absN_spec C 20 v d hx
  | global g => simp [opd] at hx
  | func f =>
    simp only [opd, Option.some.injEq] at hx
    subst hx
    exact .clo (vs := []) (us := []) rfl rfl (fun i d u h => by simp at h) (fun i d u h => by simp at h)
def undefA : AV := .lit undef
noncomputable def putA (n : Nat) (E : EnvA) (o : Option Tmp) (d : AV) : Option EnvA := match o with
  | none => some E
  | some t => match Nat.blt t n, Nat.blt t 4095 with
    | true, true => some (Tr.set d 12 E t)
    | _, _ => none
theorem ESat.put {C : Cx} {n : Nat} {E E' : EnvA} {a : Act} (h : ESat C n E a) {o : Option Tmp} {dv : AV} {v : Value} (hp : putA n E o dv = some E') (hd : Den C dv v) : ESat C n E' (a.put o v) := by
  cases o with
  | none => simp only [putA, Option.some.injEq] at hp; subst hp; exact h
  | some t =>
    simp only [putA] at hp
    split at hp
    · rename_i hb hb2
      have hlt : t < n := by simpa [Nat.blt_eq] using hb
      have hlt2 : t < 4095 := by simpa [Nat.blt_eq] using hb2
      cases hp
      refine ⟨by simp [Act.put, h.size], fun i x hx => ?_⟩
      by_cases e : i = t
      · subst e
        have : getA (Tr.set dv 12 E i) i = some dv := Tr.get_set_same dv 12 E i (by omega)
        rw [this] at hx; cases hx
        exact ⟨v, by simp [Act.put, h.size, hlt], hd⟩
      · have : getA (Tr.set dv 12 E t) i = getA E i := Tr.get_set_ne dv 12 E t i e
        rw [this] at hx
        have hset : (a.put (some t) v).tmps[i]? = a.tmps[i]? := by simp [Act.put, Array.getElem?_setIfInBounds_ne (Ne.symm e)]
        rw [hset]; exact h.slot i x hx
    · cases hp
noncomputable def wantA (ops : Array Oper) (E : EnvA) (o : Oper) : Option Bool :=
  match o.guard with
  | none => some true
  | some (j, want) => match (ops[j]?).bind (·.dst) with
    | none => some false
    | some d => match getA E d with
      | some (.lit v) => match XW.yieldOf v with
        | some b => some (b == want)
        | none => some false
      | _ => none
theorem ESat.wanted {C : Cx} {n : Nat} {E : EnvA} {a : Act} (h : ESat C n E a) {ops : Array Oper} {o : Oper} {b : Bool} (hw : wantA ops E o = some b) : Region.wanted o (yielded ops a.tmps) = b := by
  unfold Region.wanted
  unfold wantA at hw
  cases hg : o.guard with
  | none => rw [hg] at hw; simpa using hw
  | some gw =>
    obtain ⟨j, want⟩ := gw
    rw [hg] at hw
    simp only at hw ⊢
    unfold yielded
    cases hd : (ops[j]?).bind (·.dst) with
    | none => rw [hd] at hw; simp at hw; subst hw; simp
    | some d =>
      rw [hd] at hw
      simp only at hw
      split at hw
      · rename_i u hv
        obtain ⟨v, h1, h2⟩ := h.slot _ _ hv
        cases h2
        simp only [Option.bind_some, h1]
        cases u <;> simp [XW.yieldOf] at hw ⊢ <;> exact hw
      · cases hw
section
variable {P : Program} {C : Cx} {H H' : Heap} {base : Nat} {w w' : World} {ρ : Operand → Option AV} {e : Operand → Value} {o : Oper} {d : AV}
noncomputable def plainA (P : Program) (H : Heap) (ρ : Operand → Option AV) (o : Oper) : Option AV := match o.op with
  | .move x => ρ x
  | .assign x => ρ x
  | .pick c a b => pickA ρ c a b
  | .build t parts => buildA P ρ t parts
  | .nilCheck x => (ρ x).bind nilA
  | .fieldAddr s x f => fieldAddrA P ρ s x f
  | .field s x f => fieldA P ρ s x f
  | .indexAddr t x i => indexAddrA P ρ t x i
  | .extract t i => extractA ρ t i
  | .makeInterface t x => ifaceA P ρ t x
  | .makeFunc fn first captured => funcA ρ fn first captured
  | .typeAssert x _ t ok => assertA P ρ x t ok
  | .index t x i => match indexA P ρ t x i with
    | some d => some d
    | none => genA P ρ o
  | .slice t x lo hi mx => match cutA P H ρ t x lo hi mx with
    | some d => some d
    | none => genA P ρ o
  | .binOp op t x y _ => match cmpA P ρ op t x y with
    | some d => some d
    | none => genA P ρ o
  | .call c => match lenA P ρ c with
    | some d => some d
    | none => genA P ρ o
  | .unOp .. | .convert .. => genA P ρ o
  | _ => none
theorem plain_spec (hM : Mem C H base w) (hf : Fine C ρ e) (h : plainA P H ρ o = some d) : Gives P C e o d := by
  unfold plainA at h
  split at h
  · exact g_move hf (.inl (by assumption)) h
  · exact g_move hf (.inr (by assumption)) h
  · exact g_pick hf (by assumption) h
  · exact g_build hf (by assumption) h
  · exact g_nil hf (by assumption) h
  · exact g_fieldAddr hf (by assumption) h
  · exact g_field hf (by assumption) h
  · exact g_indexAddr hf (by assumption) h
  · exact g_extract hf (by assumption) h
  · exact g_iface hf (by assumption) h
  · exact g_func hf (by assumption) h
  · exact g_assert hf (by assumption) h
  · split at h
    · cases h; exact g_index hf (by assumption) (by assumption)
    · exact gen_spec hf h
  · split at h
    · cases h; exact g_cut hM hf (by assumption) (by assumption)
    · exact gen_spec hf h
  · split at h
    · cases h; exact g_cmp hf (by assumption) (by assumption)
    · exact gen_spec hf h
  · split at h
    · cases h; exact g_len hf (by assumption) (by assumption)
    · exact gen_spec hf h
  · exact gen_spec hf h
  · exact gen_spec hf h
  · cases h
noncomputable def convDoes (P : Program) (H : Heap) (src dst : TypeId) (x : AV) : Option AV := match textA P H src dst x with
  | some d => some d
  | none => seeA P H src dst x
theorem d_convDoes (hM : Mem C H base w) (hf : Fine C ρ e) {src dst : TypeId} {x : Operand} {dx : AV} (ho : o.op = .convert src dst x) (hx : ρ x = some dx) (h : convDoes P H src dst dx = some d) : Does P C H H base w e o (some d) := by
  unfold convDoes at h
  split at h
  · cases h; exact d_text hM hf ho hx (by assumption)
  · exact d_see hM hf ho hx h
noncomputable def shareC (P : Program) (ρ : Operand → Option AV) (H : Heap) (c : Call) : Option (AV × Heap) := match c.callee, c.args.toList, c.argTypes.toList with
  | .builtin .unsafeSliceData, [x], _ => match ρ x with
    | some dx => match dataA dx with
      | some d => some (d, H)
      | none => none
    | none => none
  | .builtin .unsafeString, [p, x], t :: _ => match ρ p, ρ x, runQ P (elemOf t) with
    | some dp, some dx, some el => shareA P H el dp dx
    | _, _, _ => none
  | _, _, _ => none
theorem d_share (hM : Mem C H base w) (hf : Fine C ρ e) {c : Call} (ho : o.op = .call c) (h : shareC P ρ H c = some (d, H')) : Does P C H H' base w e o (some d) := by
  unfold shareC at h
  split at h
  · rename_i ts x hc ha
    obtain ⟨callee, args, argTypes⟩ := c
    have ha2 := list_arr ha
    clear ha
    simp only at hc ha2
    subst hc; subst ha2
    split at h
    · rename_i dx hx
      split at h
      · rename_i d' hd
        cases h
        obtain ⟨v, hv, hr⟩ := data_spec (P := P) (ts := argTypes) (ty := o.type) hM hd (hf x _ hx)
        exact ⟨C, w, Step.refl hM, v, hv, by simp [execOp, ho, resolve, invoke, builtin, hr]⟩
      · cases h
    · cases h
  · rename_i p x t ts hc ha ht
    obtain ⟨callee, args, argTypes⟩ := c
    have ha2 := list_arr ha
    have ht2 := list_arr ht
    clear ha ht
    simp only at hc ha2 ht2
    subst hc; subst ha2; subst ht2
    split at h
    · rename_i dp dx el hp hx hel
      obtain ⟨v, w', hS, hv, hr⟩ := share_spec (P := P) (ts := (t :: ts).toArray) (pt := t) (ty := o.type) hM h (hf p _ hp) (hf x _ hx) rfl (runQ_spec P _ _ hel)
      exact ⟨C, w', hS, v, hv, by simp [execOp, ho, resolve, invoke, builtin, hr]⟩
    · cases h
  · cases h
noncomputable def callDoes (P : Program) (ρ : Operand → Option AV) (H : Heap) (c : Call) : Option (AV × Heap) := match c.callee with
  | .builtin .append => match appendA P ρ H c with
    | some r => some r
    | none => appMakeA P ρ H c
  | .builtin .copy => copyA P ρ H c
  | .builtin .unsafeSliceData => shareC P ρ H c
  | .builtin .unsafeString => shareC P ρ H c
  | .value _ => externA P ρ H c
  | _ => none
theorem d_callDoes (hM : Mem C H base w) (hf : Fine C ρ e) {c : Call} (ho : o.op = .call c) (h : callDoes P ρ H c = some (d, H')) : Does P C H H' base w e o (some d) := by
  unfold callDoes at h
  split at h
  · split at h
    · cases h; exact d_append hM hf ho (by assumption)
    · exact d_appMake hM hf ho h
  · exact d_copy hM hf ho h
  · exact d_share hM hf ho h
  · exact d_share hM hf ho h
  · exact d_extern hM hf ho h
  · cases h
noncomputable def doesA (P : Program) (H : Heap) (ρ : Operand → Option AV) (o : Oper) : Option (Option AV × Heap) := match o.op with
  | .store t p x => match ρ p, ρ x with
    | some dp, some dx => match storeA P H t dp dx with
      | some H' => some (none, H')
      | none => none
    | _, _ => none
  | .alloc t => match allocA P H t with
    | some (d, H') => some (some d, H')
    | none => none
  | .box t x => match ρ x with
    | some dx => match boxA H t dx with
      | some (d, H') => some (some d, H')
      | none => none
    | none => none
  | .buildSlice t len parts => match buildAny P ρ H t len parts with
    | some (d, H') => some (some d, H')
    | none => none
  | .call c => match callDoes P ρ H c with
    | some (d, H') => some (some d, H')
    | none => none
  | .range t x => match ρ x with
    | some dx => match rangeA P H t dx with
      | some (d, H') => some (some d, H')
      | none => none
    | none => none
  | .next x b => match ρ x with
    | some dx => match nextA H dx b with
      | some (d, H') => some (some d, H')
      | none => none
    | none => none
  | .makeSlice t l c => match ρ l, ρ c with
    | some dl, some dc => match makeSliceA P H t dl dc with
      | some (d, H') => some (some d, H')
      | none => none
    | _, _ => none
  | .convert src dst x => match ρ x with
    | some dx => match convDoes P H src dst dx with
      | some d => some (some d, H)
      | none => none
    | none => none
  | .makeMap t r => match r with
    | none => match makeMapA H with
      | some (d, H') => some (some d, H')
      | none => none
    | some _ => none
  | .lookup t x ix ok => match ρ x, ρ ix with
    | some dx, some di => match lookupA P H t dx di ok with
      | some d => some (some d, H)
      | none => none
    | _, _ => none
  | .mapUpdate t x k v => match ρ x, ρ k, ρ v with
    | some dx, some dk, some dv => match updateA P H t dx dk dv with
      | some H' => some (none, H')
      | none => none
    | _, _, _ => none
  | .insert t x k v => match ρ x, ρ k, ρ v with
    | some dx, some dk, some dv => match updateA P H t dx dk dv with
      | some H' => some (none, H')
      | none => none
    | _, _, _ => none
  | .mapEntry t x k => match ρ x, ρ k with
    | some dx, some dk => match entryA P H t dx dk with
      | some (d, H') => some (some d, H')
      | none => none
    | _, _ => none
  | .entryStore t x s v => match ρ x, ρ s, ρ v with
    | some dx, some ds, some dv => match storeEntryA H dx ds dv with
      | some H' => some (none, H')
      | none => none
    | _, _, _ => none
  | _ => none
theorem does_spec {r : Option AV} (hM : Mem C H base w) (hf : Fine C ρ e) (h : doesA P H ρ o = some (r, H')) : Does P C H H' base w e o r := by
  unfold doesA at h
  split at h
  · split at h
    · split at h
      · cases h; exact d_store hM hf (by assumption) (by assumption) (by assumption) (by assumption)
      · cases h
    · cases h
  · split at h
    · cases h; exact d_alloc hM (by assumption) (by assumption)
    · cases h
  · split at h
    · split at h
      · cases h; exact d_box hM hf (by assumption) (by assumption) (by assumption)
      · cases h
    · cases h
  · split at h
    · cases h; exact d_buildAny hM hf (by assumption) (by assumption)
    · cases h
  · split at h
    · cases h; exact d_callDoes hM hf (by assumption) (by assumption)
    · cases h
  · split at h
    · split at h
      · cases h; exact d_range hM hf (by assumption) (by assumption) (by assumption)
      · cases h
    · cases h
  · split at h
    · split at h
      · cases h; exact d_next hM hf (by assumption) (by assumption) (by assumption)
      · cases h
    · cases h
  · split at h
    · split at h
      · cases h; exact d_makeSlice hM hf (by assumption) (by assumption) (by assumption) (by assumption)
      · cases h
    · cases h
  · split at h
    · split at h
      · cases h; exact d_convDoes hM hf (by assumption) (by assumption) (by assumption)
      · cases h
    · cases h
  · split at h
    · split at h
      · cases h; exact d_makeMap hM (by assumption) (by assumption)
      · cases h
    · cases h
  · split at h
    · split at h
      · cases h; exact d_lookup hM hf (by assumption) (by assumption) (by assumption) (by assumption)
      · cases h
    · cases h
  · split at h
    · split at h
      · cases h; exact d_update hM hf (.inl (by assumption)) (by assumption) (by assumption) (by assumption) (by assumption)
      · cases h
    · cases h
  · split at h
    · split at h
      · cases h; exact d_update hM hf (.inr (by assumption)) (by assumption) (by assumption) (by assumption) (by assumption)
      · cases h
    · cases h
  · split at h
    · split at h
      · cases h; exact d_entry hM hf (by assumption) (by assumption) (by assumption) (by assumption)
      · cases h
    · cases h
  · split at h
    · split at h
      · cases h; exact d_storeEntry hM hf (by assumption) (by assumption) (by assumption) (by assumption) (by assumption)
      · cases h
    · cases h
  · cases h
def calleeA (P : Program) (ρ : Operand → Option AV) (c : Call) : Option (FuncId × List AV) := match c.callee with
  | .value f => match ρ f, opds ρ c.args.toList with
    | some (.clo (.func fid) first cap), some args => match P.funcs[fid]? with
      | some fn => match fn.body with
        | some _ => match fn.name == "runtime.NumGoroutine" with
          | false => some (fid, (first ++ args) ++ cap)
          | true => none
        | none => none
      | none => none
    | _, _ => none
  | _ => none
theorem callee_spec (hf : Fine C ρ e) {c : Call} {f : FuncId} {l : List AV} (ho : o.op = .call c) (h : calleeA P ρ c = some (f, l)) : ∃ vs, Dens C l vs ∧ ∀ w, (execOp e o).run P w = .ok (.enter f vs.toArray) w := by
  obtain ⟨callee, args, argTypes⟩ := c
  unfold calleeA at h
  split at h
  · rename_i fo hc
    simp only at hc
    subst hc
    split at h
    · rename_i fid first cap args' hfo hargs
      split at h
      · rename_i fn hfn
        split at h
        · rename_i bd hbd
          split at h
          · rename_i hne
            cases h
            have hA := opds_spec hf _ _ hargs
            have hv := hf fo _ hfo
            generalize hb : e fo = vf at hv
            cases hv with
            | @clo _ _ _ vs us hl hm h1 h2 =>
              refine ⟨(vs ++ args.toList.map e) ++ us, (Dens.append ⟨hl, h1⟩ hA).append ⟨hm, h2⟩, fun w => ?_⟩
              have hname : (fn.name == "runtime.NumGoroutine") = false := hne
              have e1 : args.map e = (args.toList.map e).toArray := by apply Array.ext'; simp
              simp only [execOp, ho, resolve, hb, Deferred.ofValue, Sem.run_bind, Sem.run_pure, Result.andThen_ok, invoke, callFunc, program, Sem.run, hfn, hname, hbd, Bool.false_eq_true, if_false, Option.isNone_some, e1]
              simp
          · cases h
        · cases h
      · cases h
    · cases h
  · cases h
end
end Go.EV
