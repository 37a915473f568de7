/- Texts that the proof of a law rests on, put together: part 28. -/
import Derived.Test.YtajnboigikdefaaDoorFg27
import Derived.Recover
namespace Go.EV
open Go Go.RowKit
set_option linter.unusedVariables false
set_option linter.unusedSimpArgs false
def noDst (t : Nat) : List Oper → Bool
  | [] => true
  | o :: r => match o.dst with
    | some d => match Nat.beq d t with
      | true => false
      | false => noDst t r
    | none => noDst t r
noncomputable def keepE (ops : List Oper) (E : EnvA) : List Nat → EnvA
  | [] => .e
  | t :: r => match noDst t ops, getA E t, Nat.blt t 4095 with
    | true, some d, true => Tr.set d 12 (keepE ops E r) t
    | _, _, _ => keepE ops E r
noncomputable def dropP (rl : List Nat) (ops : Array Oper) : List (XE × St) → List (XE × St)
  | [] => []
  | (.panic d, s) :: r => (.panic d, ⟨keepE ops.toList s.E rl, s.H, s.ds⟩) :: dropP rl ops r
  | x :: r => x :: dropP rl ops r
theorem noDst_spec {t : Nat} : ∀ {l : List Oper}, noDst t l = true → ∀ o ∈ l, o.dst ≠ some t
  | [], _, o, ho => by simp at ho
  | x :: r, h, o, ho => by
    simp only [noDst] at h
    rcases List.mem_cons.1 ho with rfl | ho
    · intro e
      rw [e] at h
      simp at h
    · split at h
      · split at h
        · cases h
        · exact noDst_spec h o ho
      · exact noDst_spec h o ho
theorem keepE_spec {ops : List Oper} {E : EnvA} : ∀ {l : List Nat} {t : Nat} {d : AV}, getA (keepE ops E l) t = some d → getA E t = some d ∧ noDst t ops = true
  | [], t, d, h => by simp [keepE, getA, Tr.get] at h
  | x :: r, t, d, h => by
    simp only [keepE] at h
    split at h
    · rename_i d' h1 h2 h3
      have hx : x < 2 ^ 12 - 1 := by have : x < 4095 := by simpa [Nat.blt_eq] using h3
                                     omega
      by_cases e : t = x
      · subst e
        have : getA (Tr.set d' 12 (keepE ops E r) t) t = some d' := Tr.get_set_same d' 12 _ t hx
        rw [this] at h; cases h
        exact ⟨h2, h1⟩
      · have : getA (Tr.set d' 12 (keepE ops E r) x) t = getA (keepE ops E r) t := Tr.get_set_ne d' 12 _ x t e
        rw [this] at h
        exact keepE_spec h
    · exact keepE_spec h
theorem dropP_mem {rl : List Nat} {ops : Array Oper} : ∀ {l : List (XE × St)} {x : XE} {s : St}, (x, s) ∈ l → (∀ d, x ≠ .panic d) ∧ (x, s) ∈ dropP rl ops l ∨ (∃ d, x = .panic d) ∧ (x, (⟨keepE ops.toList s.E rl, s.H, s.ds⟩ : St)) ∈ dropP rl ops l
  | [], x, s, h => by simp at h
  | (y, s0) :: r, x, s, h => by
    rcases List.mem_cons.1 h with e | h
    · cases e
      cases y with
      | panic d => exact .inr ⟨⟨d, rfl⟩, List.mem_cons_self⟩
      | normal => exact .inl ⟨(fun d e => by cases e), List.mem_cons_self⟩
      | exit id => exact .inl ⟨(fun d e => by cases e), List.mem_cons_self⟩
      | ret => exact .inl ⟨(fun d e => by cases e), List.mem_cons_self⟩
    · have ih := dropP_mem (rl := rl) (ops := ops) h
      have hin : ∀ z, z ∈ dropP rl ops r → z ∈ dropP rl ops ((y, s0) :: r) := fun z hz => by cases y <;> exact List.mem_cons_of_mem _ hz
      rcases ih with ⟨h1, h2⟩ | ⟨h1, h2⟩
      · exact .inl ⟨h1, hin _ h2⟩
      · exact .inr ⟨h1, hin _ h2⟩
def blockR (id : Nat) : List (XE × St) → List (XE × St)
  | [] => []
  | (.exit j, s) :: r => match Nat.beq j id with
    | true => (.normal, s) :: blockR id r
    | false => (.exit j, s) :: blockR id r
  | x :: r => x :: blockR id r
theorem blockR_mem {id : Nat} : ∀ {l : List (XE × St)} {x : XE} {s : St}, (x, s) ∈ l → (x = .exit id ∧ (XE.normal, s) ∈ blockR id l) ∨ (x ≠ .exit id ∧ (x, s) ∈ blockR id l)
  | [], x, s, h => by simp at h
  | (y, s0) :: r, x, s, h => by
    have hin : ∀ z, z ∈ blockR id r → z ∈ blockR id ((y, s0) :: r) := fun z hz => by
      cases y with
      | exit j => simp only [blockR]; split <;> exact List.mem_cons_of_mem _ hz
      | normal => exact List.mem_cons_of_mem _ hz
      | ret => exact List.mem_cons_of_mem _ hz
      | panic d => exact List.mem_cons_of_mem _ hz
    rcases List.mem_cons.1 h with e | h
    · cases e
      cases y with
      | exit j =>
        by_cases e : j = id
        · subst e
          left
          refine ⟨rfl, ?_⟩
          simp only [blockR, Nat.beq_refl]
          exact List.mem_cons_self
        · right
          refine ⟨fun e' => e (by cases e'; rfl), ?_⟩
          have : Nat.beq j id = false := by
            cases hb : Nat.beq j id with
            | false => rfl
            | true => exact absurd (Nat.eq_of_beq_eq_true hb) e
          simp only [blockR, this]
          exact List.mem_cons_self
      | normal => exact .inr ⟨(fun e => by cases e), List.mem_cons_self⟩
      | ret => exact .inr ⟨(fun e => by cases e), List.mem_cons_self⟩
      | panic d => exact .inr ⟨(fun e => by cases e), List.mem_cons_self⟩
    · rcases blockR_mem h with ⟨h1, h2⟩ | ⟨h1, h2⟩
      · exact .inl ⟨h1, hin _ h2⟩
      · exact .inr ⟨h1, hin _ h2⟩
def loopN (f : St → RS) : Nat → St → RS
  | 0, _ => none
  | k + 1, s => bindN (f s) (loopN f k)
noncomputable def regionS (P : Program) (cf : CF) (n : Nat) (rl : List Nat) (ops : Array Oper) (draw : Bool) (s : St) : RS := match draw with
  | false => evalOps P cf n ops ops.toList s
  | true => match planR ops with
    | some pl => match evalPlan P cf n ops pl [] s with
      | some l => some (dropP rl ops l)
      | none => none
    | none => none
noncomputable def condS (c : Operand) (t f : St → RS) (s : St) : RS := match opd s.E c with
  | some (.lit (.bool true)) => t s
  | some (.lit (.bool false)) => f s
  | _ => none
def blockS (id : Nat) (r : RS) : RS := match r with
  | some l => some (blockR id l)
  | none => none
noncomputable def evalC (P : Program) (cf : CF) (lf n : Nat) (rl : List Nat) (c : Code) : St → RS :=
  Code.rec (motive := fun _ => St → RS) (fun s => some [(.normal, s)]) (fun _ ops draw s => regionS P cf n rl ops draw s) (fun _ _ fx fy s => bindN (fx s) fy) (fun c _ _ ft ff s => condS c ft ff s)
    (fun id _ fb s => blockS id (fb s)) (fun _ fb s => loopN fb lf s) (fun _ _ _ _ _ _ _ => none) (fun id s => some [(.exit id, s)]) (fun _ fb s => fb s) (fun _ s => some [(.normal, s)]) (fun _ _ => none)
    (fun s => some [(.ret, s)]) (fun _ _ => none) c
section
variable {P : Program} {cf : CF} {n base lf : Nat} {rl : List Nat}
def SoundC (P : Program) (n base : Nat) (c : Code) (f : St → RS) : Prop := ∀ (s : St) (C : Cx) (a : Act) (w : World) (rs : List (XE × St)) (Q : Exit → Act → World → Prop), f s = some rs → Rel C n base s a w →
    (∀ x s' C' a' w' e, (x, s') ∈ rs → Goes C C' n base s.H s' w a' w' → ExOk C' x e → Q e a' w') → c.wp P Q a w
theorem planR_spec {ops : Array Oper} {pl : Plan} (h : planR ops = some pl) : planOk ops (XW.summ ops) pl (Array.replicate ops.size false) [] = true ∧ Region.noSelect ops = true ∧ cnt pl = ops.size := by
  unfold planR at h
  split at h
  · split at h
    · rename_i p hp hok
      cases h
      simp only [Bool.and_eq_true] at hok
      exact ⟨hok.1, hok.2.1, Nat.eq_of_beq_eq_true hok.2.2⟩
    · cases h
  · cases h
theorem loop_spec {c : Code} {f : St → RS} (hf : SoundC P n base c f) : ∀ (k : Nat) (s : St) (C : Cx) (a : Act) (w : World) (rs : List (XE × St)) (Q : Exit → Act → World → Prop), loopN f k s = some rs → Rel C n base s a w →
    (∀ x s' C' a' w' e, (x, s') ∈ rs → Goes C C' n base s.H s' w a' w' → ExOk C' x e → Q e a' w') → (∀ s', (XE.normal, s') ∉ rs) → Code.rounds P c Q k a w
  | 0, s, C, a, w, rs, Q, h, hR, hQ, hno => by simp [loopN] at h
  | k + 1, s, C, a, w, rs, Q, h, hR, hQ, hno => by
    simp only [loopN] at h
    obtain ⟨l, hl, hb⟩ := bindN_spec h
    refine hf s C a w l _ hl hR (fun x s' C' a' w' e hin hG hx => ?_)
    rcases hb _ _ hin with ⟨rfl, r', hr', hsub⟩ | ⟨hne, hin2⟩
    · obtain rfl : e = .normal := hx
      exact loop_spec hf k s' C' a' w' r' Q hr' hG.rel (fun x s2 C2 a2 w2 e hin2 hG2 hx => hQ x s2 C2 a2 w2 e (hsub _ hin2) (hG.trans hG2) hx) (fun s2 h2 => hno s2 (hsub _ h2))
    · have := hQ x s' C' a' w' e hin2 hG hx
      cases x with
      | normal => exact absurd rfl hne
      | exit id => obtain rfl : e = .exit id := hx; exact this
      | ret => obtain rfl : e = .ret := hx; exact this
      | panic d => obtain ⟨v, rfl, _⟩ := hx; exact this
theorem bindL_no {k : St → RS} (hk : ∀ s r, k s = some r → ∀ s', (XE.normal, s') ∉ r) : ∀ {l : List (XE × St)} {rs : List (XE × St)}, bindL k l = some rs → ∀ s', (XE.normal, s') ∉ rs
  | [], rs, h, s', hm => by simp only [bindL, Option.some.injEq] at h; subst h; simp at hm
  | (.normal, s0) :: r, rs, h, s', hm => by
    simp only [bindL] at h
    split at h
    · rename_i a b ha hb
      cases h
      rcases List.mem_append.1 hm with hm | hm
      · exact hk _ _ ha s' hm
      · exact bindL_no hk hb s' hm
    · cases h
  | (.exit id, s0) :: r, rs, h, s', hm => by
    simp only [bindL] at h
    split at h
    · rename_i b hb
      cases h
      rcases List.mem_cons.1 hm with e | hm
      · cases e
      · exact bindL_no hk hb s' hm
    · cases h
  | (.ret, s0) :: r, rs, h, s', hm => by
    simp only [bindL] at h
    split at h
    · rename_i b hb
      cases h
      rcases List.mem_cons.1 hm with e | hm
      · cases e
      · exact bindL_no hk hb s' hm
    · cases h
  | (.panic d, s0) :: r, rs, h, s', hm => by
    simp only [bindL] at h
    split at h
    · rename_i b hb
      cases h
      rcases List.mem_cons.1 hm with e | hm
      · cases e
      · exact bindL_no hk hb s' hm
    · cases h
theorem loop_no {f : St → RS} : ∀ (k : Nat) (s : St) (rs : List (XE × St)), loopN f k s = some rs → ∀ s', (XE.normal, s') ∉ rs
  | 0, s, rs, h => by simp [loopN] at h
  | k + 1, s, rs, h => by
    simp only [loopN, bindN] at h
    split at h
    · exact loop_no k _ rs h
    · exact bindL_no (fun s r hr => loop_no k s r hr) h
    · cases h
theorem evalC_spec (hcf : CFok P base cf) (hm : P.follows .mixedOrders = true) : ∀ c : Code, SoundC P n base c (evalC P cf lf n rl c) := by
  intro c
  induction c with
  | skip =>
    intro s C a w rs Q h hR hQ
    have h : some [(XE.normal, s)] = some rs := h
    simp only [Option.some.injEq] at h
    subst h
    exact wp_skip (hQ .normal s C a w .normal (List.mem_singleton.2 rfl) hR.goes rfl)
  | label l =>
    intro s C a w rs Q h hR hQ
    have h : some [(XE.normal, s)] = some rs := h
    simp only [Option.some.injEq] at h
    subst h
    exact wp_label (hQ .normal s C a w .normal (List.mem_singleton.2 rfl) hR.goes rfl)
  | region id ops draw =>
    intro s C a w rs Q h hR hQ
    have h : regionS P cf n rl ops draw s = some rs := h
    unfold regionS at h
    split at h
    · refine wp_region ?_
      have := evalOps_spec (ops := ops) hcf ops.toList 0 s C a w rs Q (fun j o hj => by rw [Nat.zero_add]; simpa using hj) h hR hQ
      rw [← List.range_eq_range', Array.length_toList] at this
      exact this
    · split at h
      · rename_i pl hpl
        split at h
        · rename_i l hl
          cases h
          obtain ⟨h1, h2, h3⟩ := planR_spec hpl
          have hS : Step C C s.H s.H base w w.drew := Step.same hR.mem (Below.refl _ w).drew
          let Q0 : Exit → Act → World → Prop := fun e a1 w1 => match e with
            | .panic c => ∀ a2 : Act, a2.defers = a1.defers → a2.tmps.size = a1.tmps.size → (∀ t, noDst t ops.toList = true → a2.tmps[t]? = a1.tmps[t]?) → Q (.panic c) a2 w1
            | e => Q e a1 w1
          have hmono : ∀ e a w, Q0 e a w → Q e a w := fun e a w h => by
            cases e with
            | panic c => exact h a rfl rfl (fun _ _ => rfl)
            | _ => exact h
          refine Code.wp_mono hmono (wp_region_G (S := SF []) hm ?_)
          refine evalPlan_spec (C0 := C) (H0 := s.H) (w0 := w.drew) hcf h2 hR.mem.base (Q := Q0) (fun i o ho c a1 w1 v hq a2 e1 e2 e3 => ?_) pl _ [] [] s C a w.drew l [] [] (fun _ => 0) _ _ h1 hl ⟨Step.refl hS.mem, hR.env, hR.ds⟩ (fun x hx => by simp at hx) (fun x hx => by simp at hx) (fun x hx => by simp at hx) List.nodup_nil (fun x hx => by simp at hx) (fun x hx => by simp at hx) ⟨fun k d hk => by simp at hk, fun k d _ => rfl⟩ rfl (fun f hf => by simp at hf) (fun f hf => by simp at hf) rfl (fun x s' C' a' w' e hin hG hx => ?_) (by simp [h3])
          · refine hq a2 (by rw [e1, put_defers]) (by rw [e2]; cases hd : o.dst <;> simp [Act.put]) (fun t ht => ?_)
            rw [e3 t ht]
            have hne := noDst_spec ht o (by simpa using Array.mem_of_getElem? ho)
            cases hd : o.dst with
            | none => rfl
            | some d =>
              rw [hd] at hne
              have hdt : d ≠ t := fun e => hne (by rw [e])
              simp [Act.put, Array.getElem?_setIfInBounds_ne hdt]
          · have hG' : Goes C C' n base s.H s' w a' w' := ⟨hS.trans hG.step, hG.env, hG.ds⟩
            rcases dropP_mem (rl := rl) (ops := ops) hin with ⟨hn, h4⟩ | ⟨⟨d, rfl⟩, h4⟩
            · have := hQ x s' C' a' w' e h4 hG' hx
              cases x with
              | normal => obtain rfl : e = .normal := hx; exact this
              | exit id => obtain rfl : e = .exit id := hx; exact this
              | ret => obtain rfl : e = .ret := hx; exact this
              | panic d => exact absurd rfl (hn d)
            · obtain ⟨v, rfl, hD⟩ := hx
              intro a2 e1 e2 e3
              refine hQ _ _ C' a2 w' _ h4 ⟨hG'.step, ⟨by rw [e2]; exact hG'.env.size, fun i x hx => ?_⟩, by rw [e1]; exact hG'.ds⟩ ⟨v, rfl, hD⟩
              obtain ⟨h5, h6⟩ := keepE_spec hx
              rw [e3 i h6]
              exact hG'.env.slot i x h5
        · cases h
      · cases h
  | seq x y ihx ihy =>
    intro s C a w rs Q h hR hQ
    have h : bindN (evalC P cf lf n rl x s) (evalC P cf lf n rl y) = some rs := h
    obtain ⟨l, hl, hb⟩ := bindN_spec h
    refine wp_seq (ihx s C a w l _ hl hR (fun x s' C' a' w' e hin hG hx => ?_))
    rcases hb _ _ hin with ⟨rfl, r', hr', hsub⟩ | ⟨hne, hin2⟩
    · obtain rfl : e = .normal := hx
      exact ihy s' C' a' w' r' Q hr' hG.rel (fun x s2 C2 a2 w2 e hin2 hG2 hx => hQ x s2 C2 a2 w2 e (hsub _ hin2) (hG.trans hG2) hx)
    · have := hQ x s' C' a' w' e hin2 hG hx
      cases x with
      | normal => exact absurd rfl hne
      | exit id => obtain rfl : e = .exit id := hx; exact this
      | ret => obtain rfl : e = .ret := hx; exact this
      | panic d => obtain ⟨v, rfl, _⟩ := hx; exact this
  | cond c t f iht ihf =>
    intro s C a w rs Q h hR hQ
    have h : condS c (evalC P cf lf n rl t) (evalC P cf lf n rl f) s = some rs := h
    unfold condS at h
    split at h
    · rename_i hc
      have hv := hR.env.fine _ _ hc
      generalize hb : a.eval c = vc at hv
      cases hv
      exact wp_cond_true hb (iht s C a w rs Q h hR hQ)
    · rename_i hc
      have hv := hR.env.fine _ _ hc
      generalize hb : a.eval c = vc at hv
      cases hv
      exact wp_cond_false hb (ihf s C a w rs Q h hR hQ)
    · cases h
  | block id b ih =>
    intro s C a w rs Q h hR hQ
    have h : blockS id (evalC P cf lf n rl b s) = some rs := h
    unfold blockS at h
    split at h
    · rename_i l hl
      cases h
      refine wp_block (ih s C a w l _ hl hR (fun x s' C' a' w' e hin hG hx => ?_))
      rcases blockR_mem (id := id) hin with ⟨rfl, h2⟩ | ⟨hne, h2⟩
      · obtain rfl : e = .exit id := hx
        simp only [Exit.inBlock, if_true]
        exact hQ .normal s' C' a' w' .normal h2 hG rfl
      · have := hQ x s' C' a' w' e h2 hG hx
        cases x with
        | normal => obtain rfl : e = .normal := hx; exact this
        | exit j =>
          obtain rfl : e = .exit j := hx
          simp only [Exit.inBlock]
          rw [if_neg (fun e => hne (by rw [e]))]; exact this
        | ret => obtain rfl : e = .ret := hx; exact this
        | panic d => obtain ⟨v, rfl, _⟩ := hx; exact this
    · cases h
  | loop b ih =>
    intro s C a w rs Q h hR hQ
    have h : loopN (evalC P cf lf n rl b) lf s = some rs := h
    exact wp_loop_rounds lf (loop_spec ih lf s C a w rs Q h hR hQ (loop_no lf s rs h))
  | exit id =>
    intro s C a w rs Q h hR hQ
    have h : some [(XE.exit id, s)] = some rs := h
    simp only [Option.some.injEq] at h
    subst h
    exact wp_exit (hQ (.exit id) s C a w (.exit id) (List.mem_singleton.2 rfl) hR.goes rfl)
  | ret =>
    intro s C a w rs Q h hR hQ
    have h : some [(XE.ret, s)] = some rs := h
    simp only [Option.some.injEq] at h
    subst h
    exact wp_ret (hQ .ret s C a w .ret (List.mem_singleton.2 rfl) hR.goes rfl)
  | scope b ih =>
    intro s C a w rs Q h hR hQ
    have h : evalC P cf lf n rl b s = some rs := h
    refine wp_scope_straight (ih s C a w rs _ h hR (fun x s' C' a' w' e hin hG hx => ?_))
    have := hQ x s' C' a' w' e hin hG hx
    cases x with
    | normal => obtain rfl : e = .normal := hx; exact this
    | exit j => obtain rfl : e = .exit j := hx; exact this
    | ret => obtain rfl : e = .ret := hx; exact this
    | panic d => obtain ⟨v, rfl, _⟩ := hx; exact this
  | rangeFunc f ps as b _ _ => intro s C a w rs Q h hR hQ; exact absurd (show (none : RS) = some rs from h) (by simp)
  | goto l => intro s C a w rs Q h hR hQ; exact absurd (show (none : RS) = some rs from h) (by simp)
  | refuse why => intro s C a w rs Q h hR hQ; exact absurd (show (none : RS) = some rs from h) (by simp)
end
end Go.EV
