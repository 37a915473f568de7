/- Texts that the proof of a law rests on, put together: part 31. -/
import Derived.Test.YtajnboigikdefaaDoorFg30
namespace Go.EV
open Go Go.RowKit
set_option linter.unusedVariables false
set_option linter.unusedSimpArgs false
inductive DM where
  | mode (m : Option AV)
  | bad
noncomputable def plainEnd (P : Program) (fn : Func) (x : SX) (s : SSt) : Bool := match x with
  | .normal => isNilL s.ds && (resA P s.M.H s.E fn).isSome
  | .ret => isNilL s.ds && (resA P s.M.H s.E fn).isSome
  | _ => false
theorem plainEnd_spec {P : Program} {fn : Func} {x : SX} {s : SSt} (h : plainEnd P fn x s = true) : (x = .normal ∨ x = .ret) ∧ s.ds = [] ∧ ∃ d, resA P s.M.H s.E fn = some d := by
  cases x <;> simp only [plainEnd, Bool.and_eq_true, Bool.false_eq_true] at h
  · exact ⟨.inl rfl, isNil_spec h.1, Option.isSome_iff_exists.1 h.2⟩
  · exact ⟨.inr rfl, isNil_spec h.1, Option.isSome_iff_exists.1 h.2⟩
noncomputable def allPlainR (P : Program) (fn : Func) (m : Option AV) : List (SX × SSt) → Option (List (DM × SH))
  | [] => some []
  | (.bad, s) :: r => match allPlainR P fn m r with
    | some l => some ((.bad, s.M) :: l)
    | none => none
  | (x, s) :: r => match plainEnd P fn x s, allPlainR P fn m r with
    | true, some l => some ((.mode m, s.M) :: l)
    | _, _ => none
noncomputable def evalDR (P : Program) (cf : SCF) (lo : FuncId → Lo) (lf : Nat) (f : FuncId) (args : List AV) (m : Option AV) (M : SH) : Option (List (DM × SH)) := match enterable P f, Nat.ble args.length 4000 with
  | some (fn, c), true => match Nat.ble args.length fn.ntmps with
    | true => match isRecover c with
      | some (dst, rest) => match putA fn.ntmps (envOfA 0 args) dst (m.getD (.lit .nilIface)) with
        | some E => match evalCR P cf (lo f) lf fn.ntmps [] rest ⟨E, M, []⟩ with
          | some l => allPlainR P fn none l
          | none => none
        | none => none
      | none => match evalCR P cf (lo f) lf fn.ntmps [] c ⟨envOfA 0 args, M, []⟩ with
        | some l => allPlainR P fn m l
        | none => none
    | false => none
  | _, _ => none
def bindDR (k : Option AV → SH → Option (List (SC × SH))) : List (DM × SH) → Option (List (SC × SH))
  | [] => some []
  | (.bad, M) :: r => match bindDR k r with
    | some b => some ((.bad, M) :: b)
    | none => none
  | (.mode m, M) :: r => match k m M, bindDR k r with
    | some a, some b => some (a ++ b)
    | _, _ => none
noncomputable def leaveR (P : Program) (cf : SCF) (lo : FuncId → Lo) (lf : Nat) (fn : Func) (E : EnvA) : List (FuncId × List AV × List AV) → Option AV → SH → Option (List (SC × SH))
  | [], none, M => match resA P M.H E fn with
    | some d => some [(.val d, M)]
    | none => none
  | [], some d, M => some [(.panic d, M)]
  | (f, cap, args) :: r, m, M => match evalDR P cf lo lf f (args ++ cap) m M with
    | some l => bindDR (leaveR P cf lo lf fn E r) l
    | none => none
noncomputable def endOneR (P : Program) (cf : SCF) (lo : FuncId → Lo) (lf : Nat) (fn : Func) (x : SX) (s : SSt) : Option (List (SC × SH)) := match x with
  | .normal => leaveR P cf lo lf fn s.E s.ds none s.M
  | .ret => leaveR P cf lo lf fn s.E s.ds none s.M
  | .panic d => leaveR P cf lo lf fn s.E s.ds (some d) s.M
  | .exit _ => none
  | .bad => some [(.bad, s.M)]
noncomputable def endsR (P : Program) (cf : SCF) (lo : FuncId → Lo) (lf : Nat) (fn : Func) : List (SX × SSt) → Option (List (SC × SH))
  | [] => some []
  | (x, s) :: r => match endOneR P cf lo lf fn x s, endsR P cf lo lf fn r with
    | some a, some b => some (a ++ b)
    | _, _ => none
noncomputable def evalFR (P : Program) (cf : SCF) (lo : FuncId → Lo) (lf : Nat) (f : FuncId) (args : List AV) (M : SH) : Option (List (SC × SH)) := match enterable P f, Nat.ble args.length 4000 with
  | some (fn, c), true => match Nat.ble args.length fn.ntmps with
    | true => match evalCR P cf (lo f) lf fn.ntmps (resSlots fn.results.toList) c ⟨envOfA 0 args, M, []⟩ with
      | some l => endsR P cf lo lf fn l
      | none => none
    | false => none
  | _, _ => none
noncomputable def callR (P : Program) (known : SCF) (lo : FuncId → Lo) (lf : Nat) : Nat → SCF
  | 0, f, args, M => known f args M
  | k + 1, f, args, M => match known f args M with
    | some r => some r
    | none => evalFR P (callR P known lo lf k) lo lf f args M
section
variable {P : Program} {cf : SCF} {n base lf : Nat} {lo : FuncId → Lo}
def LosOk (P : Program) (base : Nat) (lo : FuncId → Lo) : Prop := ∀ f fn c, enterable P f = some (fn, c) → LoOk P fn.ntmps base (lo f) c
theorem allPlainR_spec {fn : Func} {m : Option AV} : ∀ {l : List (SX × SSt)} {rs : List (DM × SH)}, allPlainR P fn m l = some rs → ∀ x s, (x, s) ∈ l → (x = .bad ∧ (DM.bad, s.M) ∈ rs) ∨ ((x = .normal ∨ x = .ret) ∧ s.ds = [] ∧ (∃ d, resA P s.M.H s.E fn = some d) ∧ (DM.mode m, s.M) ∈ rs)
  | [], rs, h, x, s, hm => by simp at hm
  | (y, s0) :: r, rs, h, x, s, hm => by
    by_cases hy : y = .bad
    · subst hy
      simp only [allPlainR] at h
      split at h
      · rename_i l hl
        cases h
        rcases List.mem_cons.1 hm with e | hm
        · cases e; exact .inl ⟨rfl, List.mem_cons_self⟩
        · rcases allPlainR_spec hl x s hm with ⟨h1, h2⟩ | ⟨h1, h2, h3, h4⟩
          · exact .inl ⟨h1, List.mem_cons_of_mem _ h2⟩
          · exact .inr ⟨h1, h2, h3, List.mem_cons_of_mem _ h4⟩
      · cases h
    · have key : ∃ l, allPlainR P fn m r = some l ∧ rs = (DM.mode m, s0.M) :: l ∧ (y = .normal ∨ y = .ret) ∧ s0.ds = [] ∧ ∃ d, resA P s0.M.H s0.E fn = some d := by
        have h' : (match plainEnd P fn y s0, allPlainR P fn m r with
          | true, some l => some ((DM.mode m, s0.M) :: l)
          | _, _ => none) = some rs := by
          cases y <;> first | exact absurd rfl hy | exact h
        split at h'
        · rename_i l hp hl
          cases h'
          exact ⟨l, hl, rfl, plainEnd_spec hp⟩
        · cases h'
      obtain ⟨l, hl, rfl, h1, h2, h3⟩ := key
      rcases List.mem_cons.1 hm with e | hm
      · cases e; exact .inr ⟨h1, h2, h3, List.mem_cons_self⟩
      · rcases allPlainR_spec hl x s hm with ⟨h1, h2⟩ | ⟨h1, h2, h3, h4⟩
        · exact .inl ⟨h1, List.mem_cons_of_mem _ h2⟩
        · exact .inr ⟨h1, h2, h3, List.mem_cons_of_mem _ h4⟩
def NBd (rs : List (DM × SH)) : Prop := ∀ M, (DM.bad, M) ∈ rs → ¬ M.pc
theorem evalDR_spec (hcf : SCFok P base cf) (hlo : LosOk P base lo) (hm : P.follows .mixedOrders = true) {f : FuncId} {args : List AV} {m : Option AV} {M : SH} {rs : List (DM × SH)} (h : evalDR P cf lo lf f args m M = some rs) (hn : NBd rs) {C : Cx} {w : World} {vs : List Value} (hM : SMem C M base w) (hD : Dens C args vs) {u : FrameMode} (hu : ModeOk C m u) :
    CallsD P f vs.toArray u w fun e u' w' => (∃ v, e = .returned v) ∧ ∃ md M', (DM.mode md, M') ∈ rs ∧ ∃ C', SStep C C' M M' base w w' ∧ ModeOk C' md (settle u') := by
  unfold evalDR at h
  split at h
  · rename_i fn c hen hb4
    obtain ⟨hfn, hbody, _⟩ := enterable_spec hen
    split at h
    · rename_i hbn
      have hS0 := env_sat (Nat.le_of_ble_eq_true hb4) (Nat.le_of_ble_eq_true hbn) hD
      split at h
      · rename_i dst rest hrec
        obtain ⟨id, o, oargs, ts, rfl, hop, hg, rfl⟩ := isRecover_spec hrec
        split at h
        · rename_i E hE
          split at h
          · rename_i l hl
            have hnl : NBs l := fun s' hm' => by
              rcases allPlainR_spec h _ _ hm' with ⟨_, h2⟩ | ⟨h1, _⟩
              · exact hn _ h2
              · rcases h1 with h1 | h1 <;> cases h1
            have hlr : LoOk P fn.ntmps base (lo f) rest := fun id b hb => hlo f fn _ hen id b (List.mem_append_right _ hb)
            refine callsD_of_wpS hfn hbody (fun c₀ cs hc => ?_)
            have hexec : ∀ a : Act, (execOp a.eval o).run P w = .ok .recover w := fun a => by simp [execOp, hop, resolve, invoke, builtin]
            have hwant : ∀ t : Array Value, Region.wanted o (yielded #[o] t) = true := fun a => by simp [Region.wanted, hg]
            refine wpS_seq (wpS_region ?_)
            have hrange : List.range (#[o] : Array Oper).size = [0] := rfl
            rw [hrange]
            have fin : ∀ (c₁ : Frame) (u' : FrameMode) (v : Value), c₁ = { c₀ with mode := u' } → settle u' = .returning → Den C (m.getD (.lit .nilIface)) v →
                rest.wpS P (bodyPostS P fn c₀ cs fun e u' w' => (∃ v, e = .returned v) ∧ ∃ md M', (DM.mode md, M') ∈ rs ∧ ∃ C', SStep C C' M M' base w w' ∧ ModeOk C' md (settle u')) (Act.put { tmps := vs.toArray ++ Array.replicate (fn.ntmps - vs.toArray.size) undef, defers := [] } o.dst v) (c₁ :: cs) w := by
              intro c₁ u' v hc1 hset hv
              refine wpS_of_wp (evalCR_spec (rl := []) (lf := lf) hcf hm rest hlr ⟨E, M, []⟩ C _ w l _ hl hnl ⟨hM, hS0.put hE hv, by rw [put_defers]; exact .nil⟩ (fun x s' C' a' w' e hin hG hx => ?_))
              rcases allPlainR_spec h x s' hin with ⟨rfl, _⟩ | ⟨h1, h2, ⟨d, h3⟩, h4⟩
              · exact hx.elim
              obtain ⟨rv, _, hrr⟩ := resA_spec (P := P) hG.step.mem.mem hG.env h3
              have hdef : a'.defers = [] := by have := hG.ds; rw [h2] at this; exact this.nil_inv
              have hres : a'.defers = [] ∧ ∃ u'', c₁ :: cs = { c₀ with mode := u'' } :: cs ∧ ∃ v, (results fn a'.tmps).run P w' = .ok v w' ∧ ((∃ v', Ending.returned v = .returned v') ∧ ∃ md M', (DM.mode md, M') ∈ rs ∧ ∃ C', SStep C C' M M' base w w' ∧ ModeOk C' md (settle u'')) :=
                ⟨hdef, u', by rw [hc1], rv, hrr, ⟨rv, rfl⟩, none, _, h4, C', hG.step, hset⟩
              rcases h1 with rfl | rfl
              · obtain rfl : e = .normal := hx; exact hres
              · obtain rfl : e = .ret := hx; exact hres
            unfold wpOpsS
            simp only [List.getElem?_toArray, List.getElem?_cons_zero, hexec, hwant, if_true]
            cases m with
            | none =>
              have hu' : u = .returning := hu
              have hrecD : recoverD (c₀ :: cs) = none := by simp [recoverD, hc, hu']
              rw [hrecD]
              exact fin c₀ .returning .nilIface (by rw [← hu', ← hc]) rfl (.lit _)
            | some d =>
              obtain ⟨v, hu', hDv⟩ := hu
              have hrecD : recoverD (c₀ :: cs) = some (v, { c₀ with mode := .panicking [{ v := v, recovered := true }] } :: cs) := by simp [recoverD, hc, hu']
              rw [hrecD]
              exact fin _ _ v rfl rfl hDv
          · cases h
        · cases h
      · split at h
        · rename_i l hl
          have hnl : NBs l := fun s' hm' => by
            rcases allPlainR_spec h _ _ hm' with ⟨_, h2⟩ | ⟨h1, _⟩
            · exact hn _ h2
            · rcases h1 with h1 | h1 <;> cases h1
          refine (callsD_of_wp (R := fun e w' => (∃ v, e = .returned v) ∧ ∃ md M', (DM.mode md, M') ∈ rs ∧ ∃ C', SStep C C' M M' base w w' ∧ ModeOk C' md (settle u)) hfn hbody ?_).mono (fun e u' w' he => by obtain ⟨rfl, h1⟩ := he; exact h1)
          refine evalCR_spec (rl := []) (lf := lf) hcf hm c (hlo f fn c hen) ⟨envOfA 0 args, M, []⟩ C _ w l _ hl hnl ⟨hM, hS0, .nil⟩ (fun x s' C' a' w' e hin hG hx => ?_)
          rcases allPlainR_spec h x s' hin with ⟨rfl, _⟩ | ⟨h1, h2, ⟨d, h3⟩, h4⟩
          · exact hx.elim
          obtain ⟨rv, _, hrr⟩ := resA_spec (P := P) hG.step.mem.mem hG.env h3
          have hdef : a'.defers = [] := by have := hG.ds; rw [h2] at this; exact this.nil_inv
          have hset : ModeOk C' m (settle u) := by
            cases m with
            | none => have hu' : u = .returning := hu; subst hu'; rfl
            | some d => obtain ⟨v, rfl, hDv⟩ := hu; exact ⟨v, rfl, hDv.smono hG.step.ext⟩
          have hres : a'.defers = [] ∧ ∃ v, (results fn a'.tmps).run P w' = .ok v w' ∧ ((∃ v', Ending.returned v = .returned v') ∧ ∃ md M', (DM.mode md, M') ∈ rs ∧ ∃ C', SStep C C' M M' base w w' ∧ ModeOk C' md (settle u)) :=
            ⟨hdef, rv, hrr, ⟨rv, rfl⟩, m, _, h4, C', hG.step, hset⟩
          rcases h1 with rfl | rfl
          · obtain rfl : e = .normal := hx; exact hres
          · obtain rfl : e = .ret := hx; exact hres
        · cases h
    · cases h
  · cases h
theorem bindDR_spec {k : Option AV → SH → Option (List (SC × SH))} : ∀ {l : List (DM × SH)} {rs : List (SC × SH)}, bindDR k l = some rs → (∀ m M, (DM.mode m, M) ∈ l → ∃ r, k m M = some r ∧ ∀ y ∈ r, y ∈ rs) ∧ ∀ M, (DM.bad, M) ∈ l → (SC.bad, M) ∈ rs
  | [], rs, h => ⟨fun m M hm => by simp at hm, fun M hm => by simp at hm⟩
  | (.bad, M0) :: r, rs, h => by
    simp only [bindDR] at h
    split at h
    · rename_i b hb
      cases h
      obtain ⟨h1, h2⟩ := bindDR_spec hb
      refine ⟨fun m M hm => ?_, fun M hm => ?_⟩
      · rcases List.mem_cons.1 hm with e | hm
        · cases e
        · obtain ⟨r', h3, h4⟩ := h1 m M hm
          exact ⟨r', h3, fun y hy => List.mem_cons_of_mem _ (h4 y hy)⟩
      · rcases List.mem_cons.1 hm with e | hm
        · cases e; exact List.mem_cons_self
        · exact List.mem_cons_of_mem _ (h2 M hm)
    · cases h
  | (.mode m0, M0) :: r, rs, h => by
    simp only [bindDR] at h
    split at h
    · rename_i a b ha hb
      cases h
      obtain ⟨h1, h2⟩ := bindDR_spec hb
      refine ⟨fun m M hm => ?_, fun M hm => ?_⟩
      · rcases List.mem_cons.1 hm with e | hm
        · cases e; exact ⟨a, ha, fun y hy => List.mem_append_left _ hy⟩
        · obtain ⟨r', h3, h4⟩ := h1 m M hm
          exact ⟨r', h3, fun y hy => List.mem_append_right _ (h4 y hy)⟩
      · rcases List.mem_cons.1 hm with e | hm
        · cases e
        · exact List.mem_append_right _ (h2 M hm)
    · cases h
theorem leaveR_spec (hcf : SCFok P base cf) (hlo : LosOk P base lo) (hm : P.follows .mixedOrders = true) {fn : Func} {E : EnvA} {a : Act} {R : Ending → World → Prop} : ∀ (ds : List (FuncId × List AV × List AV)) (defers : List Deferred) (m : Option AV) (M : SH) (rs : List (SC × SH)) (C : Cx) (w : World) (u : FrameMode), leaveR P cf lo lf fn E ds m M = some rs → NBc rs →
    DefOk C ds defers → ESat C n E a → SMem C M base w → ModeOk C m u → (∀ r ∈ rs, ∀ e w', SCallOk C M base w r e w' → R e w') → Leaves P fn a.tmps R defers u w
  | [], defers, none, M, rs, C, w, u, h, hn, hd, hS, hM, hu, hR => by
    cases hd
    simp only [leaveR] at h
    split at h
    · rename_i d hres
      cases h
      obtain ⟨v, hD, hr⟩ := resA_spec (P := P) hM.mem hS hres
      have hu' : u = .returning := hu
      subst hu'
      exact ⟨v, hr, hR _ (List.mem_singleton.2 rfl) _ _ ⟨C, SStep.refl hM, v, rfl, hD⟩⟩
    · cases h
  | [], defers, some d, M, rs, C, w, u, h, hn, hd, hS, hM, hu, hR => by
    cases hd
    simp only [leaveR, Option.some.injEq] at h
    subst h
    obtain ⟨v, rfl, hD⟩ := hu
    exact hR _ (List.mem_singleton.2 rfl) _ _ ⟨C, SStep.refl hM, v, rfl, hD⟩
  | (f, cap, args) :: ds, defers, m, M, rs, C, w, u, h, hn, hd, hS, hM, hu, hR => by
    cases hd with
    | @cons _ _ _ vs us _ defs h1 h2 h3 =>
      simp only [leaveR] at h
      split at h
      · rename_i l hl
        obtain ⟨hb1, hb2⟩ := bindDR_spec h
        have hnl : NBd l := fun M' hm' => hn _ (hb2 M' hm')
        have hD := h2.append h1
        have hen : ∃ fn' c, enterable P f = some (fn', c) := by
          unfold evalDR at hl
          split at hl
          · exact ⟨_, _, by assumption⟩
          · cases hl
        obtain ⟨fn', c', hen⟩ := hen
        obtain ⟨e1, e2, e3⟩ := enterable_spec hen
        have hinv : (invoke (.fn (.func f) vs.toArray) us.toArray).run P w = .ok (.enter f (us ++ vs).toArray) w := by
          simp only [invoke, callFunc, program, Sem.run_bind, Sem.run, Result.andThen_ok, e1, e3, e2, Bool.false_eq_true, if_false, Option.isNone_some]
          simp
        refine leaves_cons (fun e => ?_) hinv ((evalDR_spec hcf hlo hm hl hnl hM hD hu).mono (fun e u' w' he => ?_))
        · cases m with
          | none => have hu' : u = .returning := hu; rw [hu'] at e; cases e
          | some d => obtain ⟨v, hu', _⟩ := hu; rw [hu'] at e; cases e
        · obtain ⟨⟨v, rfl⟩, md, M', hr, C', hSt, hmo⟩ := he
          obtain ⟨r', hr1, hr2⟩ := hb1 md M' hr
          exact leaveR_spec hcf hlo hm ds defs md M' r' C' w' (settle u') hr1 (fun M2 hm2 => hn _ (hr2 _ hm2)) (h3.smono hSt.ext) (hS.smono hSt.ext) hSt.mem hmo (fun y hy e w2 ⟨C2, hS2, hm2⟩ => hR y (hr2 y hy) e w2 ⟨C2, hSt.trans hS2, hm2⟩)
      · cases h
theorem endsR_spec {fn : Func} : ∀ {l : List (SX × SSt)} {rs : List (SC × SH)}, endsR P cf lo lf fn l = some rs → ∀ x s, (x, s) ∈ l → ∃ r, endOneR P cf lo lf fn x s = some r ∧ ∀ y ∈ r, y ∈ rs
  | [], rs, h, x, s, hm => by simp at hm
  | (y, s0) :: r, rs, h, x, s, hm => by
    simp only [endsR] at h
    split at h
    · rename_i a b ha hb
      cases h
      rcases List.mem_cons.1 hm with e | hm
      · cases e; exact ⟨a, ha, fun y hy => List.mem_append_left _ hy⟩
      · obtain ⟨r', h1, h2⟩ := endsR_spec hb x s hm
        exact ⟨r', h1, fun y hy => List.mem_append_right _ (h2 y hy)⟩
    · cases h
theorem evalFR_spec (hcf : SCFok P base cf) (hlo : LosOk P base lo) (hm : P.follows .mixedOrders = true) : SCFok P base (evalFR P cf lo lf) := by
  intro f args M rs h hn C w vs hM hD
  unfold evalFR at h
  split at h
  · rename_i fn c hen hb4
    obtain ⟨hfn, hbody, _⟩ := enterable_spec hen
    split at h
    · rename_i hbn
      split at h
      · rename_i l hl
        have hS0 := env_sat (Nat.le_of_ble_eq_true hb4) (Nat.le_of_ble_eq_true hbn) hD
        have hnl : NBs l := fun s' hm' => by
          obtain ⟨r, hr, hsub⟩ := endsR_spec h _ _ hm'
          simp only [endOneR, Option.some.injEq] at hr
          subst hr
          exact hn _ (hsub _ (List.mem_singleton.2 rfl))
        refine calls_of_wp_defers hfn hbody ?_
        refine evalCR_spec (lf := lf) hcf hm c (hlo f fn c hen) ⟨envOfA 0 args, M, []⟩ C _ w l _ hl hnl ⟨hM, hS0, .nil⟩ (fun x s' C' a' w' e hin hG hx => ?_)
        obtain ⟨r, hr, hsub⟩ := endsR_spec h x s' hin
        have key : ∀ (m : Option AV) (u : FrameMode), leaveR P cf lo lf fn s'.E s'.ds m s'.M = some r → ModeOk C' m u → Leaves P fn a'.tmps (fun e w' => ∃ r ∈ rs, SCallOk C M base w r e w') a'.defers u w' := fun m u hr hu =>
          leaveR_spec hcf hlo hm s'.ds a'.defers m s'.M r C' w' u hr (fun M2 hm2 => hn _ (hsub _ hm2)) hG.ds hG.env hG.step.mem hu (fun y hy e w2 ⟨C2, hS2, hm2⟩ => ⟨y, hsub y hy, C2, hG.step.trans hS2, hm2⟩)
        cases x with
        | normal => obtain rfl : e = .normal := hx; exact key none .returning hr rfl
        | ret => obtain rfl : e = .ret := hx; exact key none .returning hr rfl
        | exit id => cases hr
        | panic d => obtain ⟨v, rfl, hDv⟩ := hx; exact key (some d) _ hr ⟨v, rfl, hDv⟩
        | bad => exact hx.elim
      · cases h
    · cases h
  · cases h
theorem callR_spec {known : SCF} (hk : SCFok P base known) (hlo : LosOk P base lo) (hm : P.follows .mixedOrders = true) : ∀ k, SCFok P base (callR P known lo lf k)
  | 0 => hk
  | k + 1 => by
    intro f args M rs h hn
    simp only [callR] at h
    split at h
    · rename_i r hr
      cases h
      exact hk f args M _ hr hn
    · exact evalFR_spec (callR_spec hk hlo hm k) hlo hm f args M rs h hn
end
end Go.EV
