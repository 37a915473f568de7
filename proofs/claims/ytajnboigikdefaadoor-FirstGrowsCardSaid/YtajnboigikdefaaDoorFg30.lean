/- Texts that the proof of a law rests on, put together: part 30. -/
import Derived.Test.YtajnboigikdefaaDoorFg29
namespace Go.EV
open Go Go.RowKit
set_option linter.unusedVariables false
set_option linter.unusedSimpArgs false
theorem DefOk.nil_inv {C : Cx} {m : List Deferred} (h : DefOk C [] m) : m = [] := by cases h; rfl
noncomputable def envOfA : Nat → List AV → EnvA
  | _, [] => .e
  | i, d :: r => Tr.set d 12 (envOfA (i + 1) r) i
def resSlots : List ResultVar → List Nat
  | [] => []
  | .tmp t :: r => t :: resSlots r
  | .cell t _ :: r => t :: resSlots r
noncomputable def resL (P : Program) (H : Heap) (E : EnvA) : List ResultVar → Option (List AV)
  | [] => some []
  | .tmp t :: r => match getA E t, resL P H E r with
    | some d, some l => some (d :: l)
    | _, _ => none
  | .cell a t :: r => match getA E a with
    | some p => match loadA P H t p, resL P H E r with
      | some (d, _), some l => some (d :: l)
      | _, _ => none
    | none => none
noncomputable def resA (P : Program) (H : Heap) (E : EnvA) (fn : Func) : Option AV := match resL P H E fn.results.toList with
  | some [d] => some d
  | some l => some (.tup l)
  | none => none
def enterable (P : Program) (f : FuncId) : Option (Func × Code) := match P.funcs[f]? with
  | some fn => match fn.body with
    | some c => match fn.name == "runtime.NumGoroutine" with
      | false => some (fn, c)
      | true => none
    | none => none
  | none => none
def isRecover (c : Code) : Option (Option Tmp × Code) := match c with
  | .seq (.region _ ops false) rest => match ops.toList with
    | [o] => match o.op, o.guard with
      | .call { callee := .builtin .recover, .. }, none => some (o.dst, rest)
      | _, _ => none
    | _ => none
  | _ => none
noncomputable def allPlain (P : Program) (fn : Func) (m : Option AV) : List (XE × St) → Option (List (Option AV × Heap))
  | [] => some []
  | (x, s) :: r => match x, s.ds, resA P s.H s.E fn, allPlain P fn m r with
    | .normal, [], some _, some l => some ((m, s.H) :: l)
    | .ret, [], some _, some l => some ((m, s.H) :: l)
    | _, _, _, _ => none
noncomputable def evalD (P : Program) (cf : CF) (lf : Nat) (f : FuncId) (args : List AV) (m : Option AV) (H : Heap) : Option (List (Option AV × Heap)) := match enterable P f, Nat.ble args.length 4000 with
  | some (fn, c), true => match Nat.ble args.length fn.ntmps with
    | true => match isRecover c with
      | some (dst, rest) => match putA fn.ntmps (envOfA 0 args) dst (m.getD (.lit .nilIface)) with
        | some E => match evalC P cf lf fn.ntmps [] rest ⟨E, H, []⟩ with
          | some l => allPlain P fn none l
          | none => none
        | none => none
      | none => match evalC P cf lf fn.ntmps [] c ⟨envOfA 0 args, H, []⟩ with
        | some l => allPlain P fn m l
        | none => none
    | false => none
  | _, _ => none
def bindD (k : Option AV → Heap → Option (List (CE × Heap))) : List (Option AV × Heap) → Option (List (CE × Heap))
  | [] => some []
  | (m, H) :: r => match k m H, bindD k r with
    | some a, some b => some (a ++ b)
    | _, _ => none
noncomputable def leaveA (P : Program) (cf : CF) (lf : Nat) (fn : Func) (E : EnvA) : List (FuncId × List AV × List AV) → Option AV → Heap → Option (List (CE × Heap))
  | [], none, H => match resA P H E fn with
    | some d => some [(.val d, H)]
    | none => none
  | [], some d, H => some [(.panic d, H)]
  | (f, cap, args) :: r, m, H => match evalD P cf lf f (args ++ cap) m H with
    | some l => bindD (leaveA P cf lf fn E r) l
    | none => none
noncomputable def endOne (P : Program) (cf : CF) (lf : Nat) (fn : Func) (x : XE) (s : St) : Option (List (CE × Heap)) := match x with
  | .normal => leaveA P cf lf fn s.E s.ds none s.H
  | .ret => leaveA P cf lf fn s.E s.ds none s.H
  | .panic d => leaveA P cf lf fn s.E s.ds (some d) s.H
  | .exit _ => none
noncomputable def endsA (P : Program) (cf : CF) (lf : Nat) (fn : Func) : List (XE × St) → Option (List (CE × Heap))
  | [] => some []
  | (x, s) :: r => match endOne P cf lf fn x s, endsA P cf lf fn r with
    | some a, some b => some (a ++ b)
    | _, _ => none
noncomputable def evalF (P : Program) (cf : CF) (lf : Nat) (f : FuncId) (args : List AV) (H : Heap) : Option (List (CE × Heap)) := match enterable P f, Nat.ble args.length 4000 with
  | some (fn, c), true => match Nat.ble args.length fn.ntmps with
    | true => match evalC P cf lf fn.ntmps (resSlots fn.results.toList) c ⟨envOfA 0 args, H, []⟩ with
      | some l => endsA P cf lf fn l
      | none => none
    | false => none
  | _, _ => none
noncomputable def callA (P : Program) (known : CF) (lf : Nat) : Nat → CF
  | 0, f, args, H => known f args H
  | k + 1, f, args, H => match known f args H with
    | some r => some r
    | none => evalF P (callA P known lf k) lf f args H
section
variable {P : Program} {cf : CF} {n base lf : Nat}
theorem env_get : ∀ (l : List AV) (j i : Nat) (d : AV), j + l.length ≤ 4000 → getA (envOfA j l) i = some d → j ≤ i ∧ l[i - j]? = some d
  | [], j, i, d, _, h => by simp [envOfA, getA, Tr.get] at h
  | x :: r, j, i, d, hl, h => by
    simp only [envOfA] at h
    by_cases e : i = j
    · subst e
      have : getA (Tr.set x 12 (envOfA (i + 1) r) i) i = some x := Tr.get_set_same x 12 _ i (by simp at hl; omega)
      rw [this] at h; cases h
      exact ⟨Nat.le_refl _, by simp⟩
    · have : getA (Tr.set x 12 (envOfA (j + 1) r) j) i = getA (envOfA (j + 1) r) i := Tr.get_set_ne x 12 _ j i e
      rw [this] at h
      obtain ⟨h1, h2⟩ := env_get r (j + 1) i d (by simp at hl; omega) h
      refine ⟨by omega, ?_⟩
      rw [show i - j = (i - (j + 1)) + 1 by omega, List.getElem?_cons_succ]
      exact h2
theorem env_sat {C : Cx} {args : List AV} {vs : List Value} (h4 : args.length ≤ 4000) (hn : args.length ≤ n) (hD : Dens C args vs) : ESat C n (envOfA 0 args) { tmps := vs.toArray ++ Array.replicate (n - vs.toArray.size) undef, defers := [] } := by
  have hl := hD.1
  refine ⟨by simp; omega, fun i d hd => ?_⟩
  obtain ⟨_, h2⟩ := env_get args 0 i d (by omega) hd
  rw [Nat.sub_zero] at h2
  obtain ⟨u, hu, hDu⟩ := hD.at h2
  have hi : i < vs.length := (List.getElem?_eq_some_iff.1 hu).1
  refine ⟨u, ?_, hDu⟩
  rw [Array.getElem?_append_left (by simpa using hi)]
  simpa using hu
theorem ESat.getD {C : Cx} {E : EnvA} {a : Act} (h : ESat C n E a) {t : Nat} {d : AV} (ht : getA E t = some d) : Den C d (a.tmps.getD t undef) := by
  obtain ⟨v, hv, hD⟩ := h.slot t d ht
  have : a.tmps.getD t undef = v := by simp [Array.getD_eq_getD_getElem?, hv]
  rw [this]; exact hD
def oneRes (tmps : Array Value) : ResultVar → Sem Value
  | .tmp t => pure (tmps.getD t undef)
  | .cell a t => do loadVar t (← asAddr (tmps.getD a undef))
theorem resL_spec {C : Cx} {H : Heap} {E : EnvA} {a : Act} {w : World} (hM : Mem C H base w) (hS : ESat C n E a) : ∀ (l : List ResultVar) (ds : List AV), resL P H E l = some ds → ∃ vs, Dens C ds vs ∧ (l.mapM (oneRes a.tmps)).run P w = .ok vs w
  | [], ds, h => by simp only [resL, Option.some.injEq] at h; subst h; exact ⟨[], .nil C, by simp⟩
  | .tmp t :: r, ds, h => by
    simp only [resL] at h
    split at h
    · rename_i d l hd hl
      cases h
      obtain ⟨vs, h1, h2⟩ := resL_spec hM hS r l hl
      exact ⟨_, .cons (hS.getD hd) h1, by simp [List.mapM_cons, oneRes, h2]⟩
    · cases h
  | .cell x t :: r, ds, h => by
    simp only [resL] at h
    split at h
    · rename_i p hp
      split at h
      · rename_i d b l hd hl
        cases h
        obtain ⟨vs, h1, h2⟩ := resL_spec hM hS r l hl
        have hDp := hS.getD hp
        obtain ⟨v, hDv, hr⟩ := load_spec (P := P) hM hd hDp
        have hr' := hr w (fun _ _ _ => rfl)
        have hone : (oneRes a.tmps (.cell x t)).run P w = .ok v w := by
          unfold loadA at hd
          split at hd
          · generalize hb : a.tmps.getD x undef = u at hDp hr'
            cases hDp with
            | ptr h1 h2 =>
              simp only [Instr.loadAt, Instr.sureAddr, Sem.run_bind, Sem.run_pure, Result.andThen_ok] at hr'
              simp only [oneRes, hb, asAddr, Sem.run_bind, Sem.run_pure, Result.andThen_ok, hr']
          · cases hd
        exact ⟨_, .cons hDv h1, by simp [List.mapM_cons, hone, h2]⟩
      · cases h
    · cases h
theorem resA_spec {C : Cx} {H : Heap} {E : EnvA} {a : Act} {w : World} {fn : Func} {d : AV} (hM : Mem C H base w) (hS : ESat C n E a) (h : resA P H E fn = some d) : ∃ v, Den C d v ∧ (results fn a.tmps).run P w = .ok v w := by
  have hrun : ∀ vs, (fn.results.toList.mapM (oneRes a.tmps)).run P w = .ok vs w → (results fn a.tmps).run P w = .ok (if h : vs.toArray.size = 1 then vs.toArray[0] else .tuple vs.toArray) w := fun vs hvs => by
    have e1 : (fn.results.mapM (oneRes a.tmps)).run P w = .ok vs.toArray w := by
      rw [Array.mapM_eq_mapM_toList]
      simp [hvs]
    have e2 : results fn a.tmps = (do
        let vs ← fn.results.mapM (oneRes a.tmps)
        pure (if h : vs.size = 1 then vs[0] else .tuple vs)) := by
      unfold results
      first | rfl | (congr 1; done) | (congr 1; congr 1; funext x; cases x <;> rfl)
    rw [e2]
    simp only [Sem.run_bind, e1, Result.andThen_ok, Sem.run_pure]
  unfold resA at h
  split at h
  · rename_i d' hl
    cases h
    obtain ⟨vs, h1, h2⟩ := resL_spec hM hS _ _ hl
    obtain ⟨u, us, rfl, h3, h4⟩ := h1.cons_inv
    have := h4.nil_inv
    subst this
    exact ⟨u, h3, by rw [hrun _ h2]; simp⟩
  · rename_i l hne hl
    cases h
    obtain ⟨vs, h1, h2⟩ := resL_spec hM hS _ _ hl
    refine ⟨.tuple vs.toArray, .tup h1.1 h1.2, ?_⟩
    rw [hrun _ h2]
    have : vs.toArray.size ≠ 1 := fun e => by
      have hl1 : l.length = 1 := by rw [← h1.1]; simpa using e
      cases l with
      | nil => simp at hl1
      | cons x r =>
        cases r with
        | nil => exact hne x rfl
        | cons y r => simp at hl1
    rw [dif_neg this]
  · cases h
theorem enterable_spec {f : FuncId} {fn : Func} {c : Code} (h : enterable P f = some (fn, c)) : P.funcs[f]? = some fn ∧ fn.body = some c ∧ (fn.name == "runtime.NumGoroutine") = false := by
  unfold enterable at h
  split at h
  · rename_i fn' hfn
    split at h
    · rename_i c' hc
      split at h
      · rename_i hn
        cases h
        exact ⟨hfn, hc, hn⟩
      · cases h
    · cases h
  · cases h
def ModeOk (C : Cx) : Option AV → FrameMode → Prop
  | none, u => u = .returning
  | some d, u => ∃ v, u = .panicking [{ v := v, recovered := false }] ∧ Den C d v
theorem allPlain_spec {fn : Func} {m : Option AV} : ∀ {l : List (XE × St)} {rs : List (Option AV × Heap)}, allPlain P fn m l = some rs → ∀ x s, (x, s) ∈ l → (x = .normal ∨ x = .ret) ∧ s.ds = [] ∧ (∃ d, resA P s.H s.E fn = some d) ∧ (m, s.H) ∈ rs
  | [], rs, h, x, s, hm => by simp at hm
  | (y, s0) :: r, rs, h, x, s, hm => by
    simp only [allPlain] at h
    split at h
    · rename_i d l _ hds hd hl
      cases h
      rcases List.mem_cons.1 hm with e | hm
      · cases e; exact ⟨.inl rfl, by assumption, ⟨_, by assumption⟩, List.mem_cons_self⟩
      · obtain ⟨h1, h2, h3, h4⟩ := allPlain_spec (by assumption) x s hm
        exact ⟨h1, h2, h3, List.mem_cons_of_mem _ h4⟩
    · rename_i d l _ hds hd hl
      cases h
      rcases List.mem_cons.1 hm with e | hm
      · cases e; exact ⟨.inr rfl, by assumption, ⟨_, by assumption⟩, List.mem_cons_self⟩
      · obtain ⟨h1, h2, h3, h4⟩ := allPlain_spec (by assumption) x s hm
        exact ⟨h1, h2, h3, List.mem_cons_of_mem _ h4⟩
    · cases h
theorem isRecover_spec {c rest : Code} {dst : Option Tmp} (h : isRecover c = some (dst, rest)) : ∃ id o args ts, c = .seq (.region id #[o] false) rest ∧ o.op = .call { callee := .builtin .recover, args := args, argTypes := ts } ∧ o.guard = none ∧ o.dst = dst := by
  unfold isRecover at h
  split at h
  · rename_i id ops rest'
    split at h
    · rename_i o ho
      split at h
      · rename_i args ts hop hg
        cases h
        exact ⟨id, o, args, ts, by rw [list_arr ho], hop, hg, rfl⟩
      · cases h
    · cases h
  · cases h
theorem evalD_spec (hcf : CFok P base cf) (hm : P.follows .mixedOrders = true) {f : FuncId} {args : List AV} {m : Option AV} {H : Heap} {rs : List (Option AV × Heap)} (h : evalD P cf lf f args m H = some rs) {C : Cx} {w : World} {vs : List Value} (hM : Mem C H base w) (hD : Dens C args vs) {u : FrameMode} (hu : ModeOk C m u) :
    CallsD P f vs.toArray u w fun e u' w' => (∃ v, e = .returned v) ∧ ∃ r ∈ rs, ∃ C', Step C C' H r.2 base w w' ∧ ModeOk C' r.1 (settle u') := by
  unfold evalD at h
  split at h
  · rename_i fn c hen hb4
    obtain ⟨hfn, hbody, _⟩ := enterable_spec hen
    split at h
    · rename_i hbn
      have hS0 := env_sat (Nat.le_of_ble_eq_true hb4) (Nat.le_of_ble_eq_true hbn) hD
      split at h
      · rename_i dst rest hrec
        obtain ⟨id, o, oargs, ts, rfl, hop, hg, rfl⟩ := isRecover_spec hrec
        split at h
        · rename_i E hE
          split at h
          · rename_i l hl
            refine callsD_of_wpS hfn hbody (fun c₀ cs hc => ?_)
            have hexec : ∀ a : Act, (execOp a.eval o).run P w = .ok .recover w := fun a => by simp [execOp, hop, resolve, invoke, builtin]
            have hwant : ∀ t : Array Value, Region.wanted o (yielded #[o] t) = true := fun a => by simp [Region.wanted, hg]
            refine wpS_seq (wpS_region ?_)
            have hrange : List.range (#[o] : Array Oper).size = [0] := rfl
            rw [hrange]
            have fin : ∀ (c₁ : Frame) (u' : FrameMode) (v : Value), c₁ = { c₀ with mode := u' } → settle u' = .returning → Den C (m.getD (.lit .nilIface)) v →
                rest.wpS P (bodyPostS P fn c₀ cs fun e u' w' => (∃ v, e = .returned v) ∧ ∃ r ∈ rs, ∃ C', Step C C' H r.2 base w w' ∧ ModeOk C' r.1 (settle u')) (Act.put { tmps := vs.toArray ++ Array.replicate (fn.ntmps - vs.toArray.size) undef, defers := [] } o.dst v) (c₁ :: cs) w := by
              intro c₁ u' v hc1 hset hv
              refine wpS_of_wp (evalC_spec (rl := []) (lf := lf) hcf hm rest ⟨E, H, []⟩ C _ w l _ hl ⟨hM, hS0.put hE hv, by rw [put_defers]; exact .nil⟩ (fun x s' C' a' w' e hin hG hx => ?_))
              obtain ⟨h1, h2, ⟨d, h3⟩, h4⟩ := allPlain_spec h x s' hin
              obtain ⟨rv, _, hrr⟩ := resA_spec (P := P) hG.step.mem hG.env h3
              have hdef : a'.defers = [] := by have := hG.ds; rw [h2] at this; exact this.nil_inv
              have hres : a'.defers = [] ∧ ∃ u'', c₁ :: cs = { c₀ with mode := u'' } :: cs ∧ ∃ v, (results fn a'.tmps).run P w' = .ok v w' ∧ ((∃ v', Ending.returned v = .returned v') ∧ ∃ r ∈ rs, ∃ C', Step C C' H r.2 base w w' ∧ ModeOk C' r.1 (settle u'')) :=
                ⟨hdef, u', by rw [hc1], rv, hrr, ⟨rv, rfl⟩, _, h4, C', hG.step, hset⟩
              rcases h1 with rfl | rfl
              · obtain rfl : e = .normal := hx; exact hres
              · obtain rfl : e = .ret := hx; exact hres
            unfold wpOpsS
            simp only [List.getElem?_toArray, List.getElem?_cons_zero, hexec, hwant, if_true]
            cases m with
            | none =>
              have hu' : u = .returning := hu
              have hrecD : recoverD (c₀ :: cs) = none := by simp [recoverD, hc, hu']
              rw [hrecD]
              exact fin c₀ .returning .nilIface (by rw [← hu', ← hc]) rfl (.lit _)
            | some d =>
              obtain ⟨v, hu', hDv⟩ := hu
              have hrecD : recoverD (c₀ :: cs) = some (v, { c₀ with mode := .panicking [{ v := v, recovered := true }] } :: cs) := by simp [recoverD, hc, hu']
              rw [hrecD]
              exact fin _ _ v rfl rfl hDv
          · cases h
        · cases h
      · split at h
        · rename_i l hl
          refine (callsD_of_wp (R := fun e w' => (∃ v, e = .returned v) ∧ ∃ r ∈ rs, ∃ C', Step C C' H r.2 base w w' ∧ ModeOk C' r.1 (settle u)) hfn hbody ?_).mono (fun e u' w' he => by obtain ⟨rfl, h1⟩ := he; exact h1)
          refine evalC_spec (rl := []) (lf := lf) hcf hm c ⟨envOfA 0 args, H, []⟩ C _ w l _ hl ⟨hM, hS0, .nil⟩ (fun x s' C' a' w' e hin hG hx => ?_)
          obtain ⟨h1, h2, ⟨d, h3⟩, h4⟩ := allPlain_spec h x s' hin
          obtain ⟨rv, _, hrr⟩ := resA_spec (P := P) hG.step.mem hG.env h3
          have hdef : a'.defers = [] := by have := hG.ds; rw [h2] at this; exact this.nil_inv
          have hset : ModeOk C' m (settle u) := by
            cases m with
            | none => have hu' : u = .returning := hu; subst hu'; rfl
            | some d => obtain ⟨v, rfl, hDv⟩ := hu; exact ⟨v, rfl, hDv.mono hG.step.ext⟩
          have hres : a'.defers = [] ∧ ∃ v, (results fn a'.tmps).run P w' = .ok v w' ∧ ((∃ v', Ending.returned v = .returned v') ∧ ∃ r ∈ rs, ∃ C', Step C C' H r.2 base w w' ∧ ModeOk C' r.1 (settle u)) :=
            ⟨hdef, rv, hrr, ⟨rv, rfl⟩, _, h4, C', hG.step, hset⟩
          rcases h1 with rfl | rfl
          · obtain rfl : e = .normal := hx; exact hres
          · obtain rfl : e = .ret := hx; exact hres
        · cases h
    · cases h
  · cases h
theorem bindD_spec {k : Option AV → Heap → Option (List (CE × Heap))} : ∀ {l : List (Option AV × Heap)} {rs : List (CE × Heap)}, bindD k l = some rs → ∀ m H, (m, H) ∈ l → ∃ r, k m H = some r ∧ ∀ y ∈ r, y ∈ rs
  | [], rs, h, m, H, hm => by simp at hm
  | (m0, H0) :: r, rs, h, m, H, hm => by
    simp only [bindD] at h
    split at h
    · rename_i a b ha hb
      cases h
      rcases List.mem_cons.1 hm with e | hm
      · cases e; exact ⟨a, ha, fun y hy => List.mem_append_left _ hy⟩
      · obtain ⟨r', h1, h2⟩ := bindD_spec hb m H hm
        exact ⟨r', h1, fun y hy => List.mem_append_right _ (h2 y hy)⟩
    · cases h
theorem leave_spec (hcf : CFok P base cf) (hm : P.follows .mixedOrders = true) {fn : Func} {E : EnvA} {a : Act} {R : Ending → World → Prop} : ∀ (ds : List (FuncId × List AV × List AV)) (defers : List Deferred) (m : Option AV) (H : Heap) (rs : List (CE × Heap)) (C : Cx) (w : World) (u : FrameMode), leaveA P cf lf fn E ds m H = some rs →
    DefOk C ds defers → ESat C n E a → Mem C H base w → ModeOk C m u → (∀ r ∈ rs, ∀ e w', CallOk C H base w r e w' → R e w') → Leaves P fn a.tmps R defers u w
  | [], defers, none, H, rs, C, w, u, h, hd, hS, hM, hu, hR => by
    cases hd
    simp only [leaveA] at h
    split at h
    · rename_i d hres
      cases h
      obtain ⟨v, hD, hr⟩ := resA_spec (P := P) hM hS hres
      have hu' : u = .returning := hu
      subst hu'
      exact ⟨v, hr, hR _ (List.mem_singleton.2 rfl) _ _ ⟨C, Step.refl hM, v, rfl, hD⟩⟩
    · cases h
  | [], defers, some d, H, rs, C, w, u, h, hd, hS, hM, hu, hR => by
    cases hd
    simp only [leaveA, Option.some.injEq] at h
    subst h
    obtain ⟨v, rfl, hD⟩ := hu
    exact hR _ (List.mem_singleton.2 rfl) _ _ ⟨C, Step.refl hM, v, rfl, hD⟩
  | (f, cap, args) :: ds, defers, m, H, rs, C, w, u, h, hd, hS, hM, hu, hR => by
    cases hd with
    | @cons _ _ _ vs us _ defs h1 h2 h3 =>
      simp only [leaveA] at h
      split at h
      · rename_i l hl
        have hD := h2.append h1
        have hen : ∃ fn' c, enterable P f = some (fn', c) := by
          unfold evalD at hl
          split at hl
          · exact ⟨_, _, by assumption⟩
          · cases hl
        obtain ⟨fn', c', hen⟩ := hen
        obtain ⟨e1, e2, e3⟩ := enterable_spec hen
        have hinv : (invoke (.fn (.func f) vs.toArray) us.toArray).run P w = .ok (.enter f (us ++ vs).toArray) w := by
          simp only [invoke, callFunc, program, Sem.run_bind, Sem.run, Result.andThen_ok, e1, e3, e2, Bool.false_eq_true, if_false, Option.isNone_some]
          simp
        refine leaves_cons (fun e => ?_) hinv ((evalD_spec hcf hm hl hM hD hu).mono (fun e u' w' he => ?_))
        · cases m with
          | none => have hu' : u = .returning := hu; rw [hu'] at e; cases e
          | some d => obtain ⟨v, hu', _⟩ := hu; rw [hu'] at e; cases e
        · obtain ⟨⟨v, rfl⟩, r, hr, C', hSt, hmo⟩ := he
          obtain ⟨r', hr1, hr2⟩ := bindD_spec h r.1 r.2 hr
          exact leave_spec hcf hm ds defs r.1 r.2 r' C' w' (settle u') hr1 (h3.mono hSt.ext) (hS.mono hSt.ext) hSt.mem hmo (fun y hy e w2 ⟨C2, hS2, hm2⟩ => hR y (hr2 y hy) e w2 ⟨C2, hSt.trans hS2, hm2⟩)
      · cases h
theorem ends_spec {fn : Func} : ∀ {l : List (XE × St)} {rs : List (CE × Heap)}, endsA P cf lf fn l = some rs → ∀ x s, (x, s) ∈ l → ∃ r, endOne P cf lf fn x s = some r ∧ ∀ y ∈ r, y ∈ rs
  | [], rs, h, x, s, hm => by simp at hm
  | (y, s0) :: r, rs, h, x, s, hm => by
    simp only [endsA] at h
    split at h
    · rename_i a b ha hb
      cases h
      rcases List.mem_cons.1 hm with e | hm
      · cases e; exact ⟨a, ha, fun y hy => List.mem_append_left _ hy⟩
      · obtain ⟨r', h1, h2⟩ := ends_spec hb x s hm
        exact ⟨r', h1, fun y hy => List.mem_append_right _ (h2 y hy)⟩
    · cases h
theorem evalF_spec (hcf : CFok P base cf) (hm : P.follows .mixedOrders = true) : CFok P base (evalF P cf lf) := by
  intro f args H rs h C w vs hM hD
  unfold evalF at h
  split at h
  · rename_i fn c hen hb4
    obtain ⟨hfn, hbody, _⟩ := enterable_spec hen
    split at h
    · rename_i hbn
      split at h
      · rename_i l hl
        have hS0 := env_sat (Nat.le_of_ble_eq_true hb4) (Nat.le_of_ble_eq_true hbn) hD
        refine calls_of_wp_defers hfn hbody ?_
        refine evalC_spec (lf := lf) hcf hm c ⟨envOfA 0 args, H, []⟩ C _ w l _ hl ⟨hM, hS0, .nil⟩ (fun x s' C' a' w' e hin hG hx => ?_)
        obtain ⟨r, hr, hsub⟩ := ends_spec h x s' hin
        have key : ∀ (m : Option AV) (u : FrameMode), leaveA P cf lf fn s'.E s'.ds m s'.H = some r → ModeOk C' m u → Leaves P fn a'.tmps (fun e w' => ∃ r ∈ rs, CallOk C H base w r e w') a'.defers u w' := fun m u hr hu =>
          leave_spec hcf hm s'.ds a'.defers m s'.H r C' w' u hr hG.ds hG.env hG.step.mem hu (fun y hy e w2 ⟨C2, hS2, hm2⟩ => ⟨y, hsub y hy, C2, hG.step.trans hS2, hm2⟩)
        cases x with
        | normal => obtain rfl : e = .normal := hx; exact key none .returning hr rfl
        | ret => obtain rfl : e = .ret := hx; exact key none .returning hr rfl
        | exit id => cases hr
        | panic d => obtain ⟨v, rfl, hDv⟩ := hx; exact key (some d) _ hr ⟨v, rfl, hDv⟩
      · cases h
    · cases h
  · cases h
theorem callA_spec {known : CF} (hk : CFok P base known) (hm : P.follows .mixedOrders = true) : ∀ k, CFok P base (callA P known lf k)
  | 0 => hk
  | k + 1 => by
    intro f args H rs h
    simp only [callA] at h
    split at h
    · rename_i r hr
      cases h
      exact hk f args H _ hr
    · exact evalF_spec (callA_spec hk hm k) hm f args H rs h
end
end Go.EV
