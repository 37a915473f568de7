/- Texts that the proof of a law rests on, put together: part 29. -/
import Derived.Test.YtajnboigikdefaaDoorFg28
namespace Go.EV
open Go Go.RowKit
set_option linter.unusedVariables false
set_option linter.unusedSimpArgs false
noncomputable def dropR (rl : List Nat) (ops : Array Oper) : List (SX × SSt) → List (SX × SSt)
  | [] => []
  | (.panic d, s) :: r => (.panic d, ⟨keepE ops.toList s.E rl, s.M, s.ds⟩) :: dropR rl ops r
  | x :: r => x :: dropR rl ops r
theorem dropR_mem {rl : List Nat} {ops : Array Oper} : ∀ {l : List (SX × SSt)} {x : SX} {s : SSt}, (x, s) ∈ l → (∀ d, x ≠ .panic d) ∧ (x, s) ∈ dropR rl ops l ∨ (∃ d, x = .panic d) ∧ (x, (⟨keepE ops.toList s.E rl, s.M, s.ds⟩ : SSt)) ∈ dropR rl ops l
  | [], x, s, h => by simp at h
  | (y, s0) :: r, x, s, h => by
    rcases List.mem_cons.1 h with e | h
    · cases e
      cases y with
      | panic d => exact .inr ⟨⟨d, rfl⟩, List.mem_cons_self⟩
      | normal => exact .inl ⟨(fun d e => by cases e), List.mem_cons_self⟩
      | exit id => exact .inl ⟨(fun d e => by cases e), List.mem_cons_self⟩
      | ret => exact .inl ⟨(fun d e => by cases e), List.mem_cons_self⟩
      | bad => exact .inl ⟨(fun d e => by cases e), List.mem_cons_self⟩
    · have ih := dropR_mem (rl := rl) (ops := ops) h
      have hin : ∀ z, z ∈ dropR rl ops r → z ∈ dropR rl ops ((y, s0) :: r) := fun z hz => by cases y <;> exact List.mem_cons_of_mem _ hz
      rcases ih with ⟨h1, h2⟩ | ⟨h1, h2⟩
      · exact .inl ⟨h1, hin _ h2⟩
      · exact .inr ⟨h1, hin _ h2⟩
def blockW (id : Nat) : List (SX × SSt) → List (SX × SSt)
  | [] => []
  | (.exit j, s) :: r => match Nat.beq j id with
    | true => (.normal, s) :: blockW id r
    | false => (.exit j, s) :: blockW id r
  | x :: r => x :: blockW id r
theorem blockW_mem {id : Nat} : ∀ {l : List (SX × SSt)} {x : SX} {s : SSt}, (x, s) ∈ l → (x = .exit id ∧ (SX.normal, s) ∈ blockW id l) ∨ (x ≠ .exit id ∧ (x, s) ∈ blockW id l)
  | [], x, s, h => by simp at h
  | (y, s0) :: r, x, s, h => by
    have hin : ∀ z, z ∈ blockW id r → z ∈ blockW id ((y, s0) :: r) := fun z hz => by
      cases y with
      | exit j => simp only [blockW]; split <;> exact List.mem_cons_of_mem _ hz
      | normal => exact List.mem_cons_of_mem _ hz
      | ret => exact List.mem_cons_of_mem _ hz
      | panic d => exact List.mem_cons_of_mem _ hz
      | bad => exact List.mem_cons_of_mem _ hz
    rcases List.mem_cons.1 h with e | h
    · cases e
      cases y with
      | exit j =>
        by_cases e : j = id
        · subst e
          left
          refine ⟨rfl, ?_⟩
          simp only [blockW, Nat.beq_refl]
          exact List.mem_cons_self
        · right
          refine ⟨fun e' => e (by cases e'; rfl), ?_⟩
          have : Nat.beq j id = false := by
            cases hb : Nat.beq j id with
            | false => rfl
            | true => exact absurd (Nat.eq_of_beq_eq_true hb) e
          simp only [blockW, this]
          exact List.mem_cons_self
      | normal => exact .inr ⟨(fun e => by cases e), List.mem_cons_self⟩
      | ret => exact .inr ⟨(fun e => by cases e), List.mem_cons_self⟩
      | panic d => exact .inr ⟨(fun e => by cases e), List.mem_cons_self⟩
      | bad => exact .inr ⟨(fun e => by cases e), List.mem_cons_self⟩
    · rcases blockW_mem h with ⟨h1, h2⟩ | ⟨h1, h2⟩
      · exact .inl ⟨h1, hin _ h2⟩
      · exact .inr ⟨h1, hin _ h2⟩
def sloopN (f : SSt → SRS) : Nat → SSt → SRS
  | 0, _ => none
  | k + 1, s => sbindN (f s) (sloopN f k)
noncomputable def regionR (P : Program) (cf : SCF) (n : Nat) (rl : List Nat) (ops : Array Oper) (draw : Bool) (s : SSt) : SRS := match draw with
  | false => runR P cf n ops ops.toList s
  | true => match Region.noSelect ops with
    | true => match evalAny P cf n ops (XW.summ ops) ops.size (Array.replicate ops.size false) [] s with
      | some l => some (dropR rl ops l)
      | none => none
    | false => none
noncomputable def knowE (n : Nat) (E : EnvA) (c : Operand) (b : Bool) : EnvA := match c with
  | .tmp d => (match putA n E (some d) (.lit (.bool b)) with
    | some E' => E'
    | none => E)
  | _ => E
noncomputable def condSR (n : Nat) (c : Operand) (t f : SSt → SRS) (s : SSt) : SRS := match opd s.E c with
  | some (.lit (.bool true)) => t s
  | some (.lit (.bool false)) => f s
  | some (.sym (.bool b)) => match t ⟨knowE n s.E c true, withP s.M (b = true), s.ds⟩, f ⟨knowE n s.E c false, withP s.M (b = false), s.ds⟩ with
    | some x, some y => some (x ++ y)
    | _, _ => none
  | _ => none
def blockSR (id : Nat) (r : SRS) : SRS := match r with
  | some l => some (blockW id l)
  | none => none
abbrev Lo := Nat → Option (SSt → SRS)
noncomputable def evalCR (P : Program) (cf : SCF) (lo : Lo) (lf n : Nat) (rl : List Nat) (c : Code) : SSt → SRS :=
  Code.rec (motive := fun _ => SSt → SRS) (fun s => some [(.normal, s)]) (fun id ops draw s => match lo (1000000 + id) with
      | some g => g s
      | none => regionR P cf n rl ops draw s) (fun _ _ fx fy s => sbindN (fx s) fy) (fun c _ _ ft ff s => condSR n c ft ff s)
    (fun id _ fb s => match lo id with
      | some g => g s
      | none => blockSR id (fb s)) (fun _ fb s => sloopN fb lf s) (fun _ _ _ _ _ _ _ => none) (fun id s => some [(.exit id, s)]) (fun _ fb s => fb s) (fun _ s => some [(.normal, s)]) (fun _ _ => none)
    (fun s => some [(.ret, s)]) (fun _ _ => none) c
noncomputable def blocksC (c : Code) : List (Nat × Code) :=
  Code.rec (motive := fun _ => List (Nat × Code)) [] (fun id ops draw => [(1000000 + id, .region id ops draw)]) (fun _ _ fx fy => fx ++ fy) (fun _ _ _ ft ff => ft ++ ff) (fun id b fb => (id, .block id b) :: fb) (fun _ fb => fb) (fun _ _ _ _ _ _ => []) (fun _ => []) (fun _ fb => fb) (fun _ => []) (fun _ => []) [] (fun _ => []) c
section
variable {P : Program} {cf : SCF} {n base lf : Nat} {rl : List Nat} {lo : Lo}
def SoundR (P : Program) (n base : Nat) (c : Code) (f : SSt → SRS) : Prop := ∀ (s : SSt) (C : Cx) (a : Act) (w : World) (rs : List (SX × SSt)) (Q : Exit → Act → World → Prop), f s = some rs → NBs rs → SRel C n base s a w →
    (∀ x s' C' a' w' e, (x, s') ∈ rs → SGoes C C' n base s.M s' w a' w' → SExOk C' x e → Q e a' w') → c.wp P Q a w
def LoOk (P : Program) (n base : Nat) (lo : Lo) (c : Code) : Prop := ∀ id b, (id, b) ∈ blocksC c → ∀ g, lo id = some g → SoundR P n base b g
theorem sloop_spec {c : Code} {f : SSt → SRS} (hf : SoundR P n base c f) : ∀ (k : Nat) (s : SSt) (C : Cx) (a : Act) (w : World) (rs : List (SX × SSt)) (Q : Exit → Act → World → Prop), sloopN f k s = some rs → NBs rs → SRel C n base s a w →
    (∀ x s' C' a' w' e, (x, s') ∈ rs → SGoes C C' n base s.M s' w a' w' → SExOk C' x e → Q e a' w') → (∀ s', (SX.normal, s') ∉ rs) → Code.rounds P c Q k a w
  | 0, s, C, a, w, rs, Q, h, hn, hR, hQ, hno => by simp [sloopN] at h
  | k + 1, s, C, a, w, rs, Q, h, hn, hR, hQ, hno => by
    simp only [sloopN] at h
    obtain ⟨l, hl, hb⟩ := sbindN_spec h
    have hnl : NBs l := fun s' hm => by
      rcases hb _ _ hm with ⟨e, _⟩ | ⟨_, h1⟩
      · cases e
      · exact hn s' h1
    refine hf s C a w l _ hl hnl hR (fun x s' C' a' w' e hin hG hx => ?_)
    rcases hb _ _ hin with ⟨rfl, r', hr', hsub⟩ | ⟨hne, hin2⟩
    · obtain rfl : e = .normal := hx
      exact sloop_spec hf k s' C' a' w' r' Q hr' (hn.sub hsub) hG.rel (fun x s2 C2 a2 w2 e hin2 hG2 hx => hQ x s2 C2 a2 w2 e (hsub _ hin2) (hG.trans hG2) hx) (fun s2 h2 => hno s2 (hsub _ h2))
    · have := hQ x s' C' a' w' e hin2 hG hx
      cases x with
      | normal => exact absurd rfl hne
      | exit id => obtain rfl : e = .exit id := hx; exact this
      | ret => obtain rfl : e = .ret := hx; exact this
      | panic d => obtain ⟨v, rfl, _⟩ := hx; exact this
      | bad => exact hx.elim
theorem sbindL_no {k : SSt → SRS} (hk : ∀ s r, k s = some r → ∀ s', (SX.normal, s') ∉ r) : ∀ {l : List (SX × SSt)} {rs : List (SX × SSt)}, sbindL k l = some rs → ∀ s', (SX.normal, s') ∉ rs
  | [], rs, h, s', hm => by simp only [sbindL, Option.some.injEq] at h; subst h; simp at hm
  | (y, s0) :: r, rs, h, s', hm => by
    by_cases hy : y = .normal
    · subst hy
      simp only [sbindL] at h
      split at h
      · rename_i a b ha hb
        cases h
        rcases List.mem_append.1 hm with hm | hm
        · exact hk _ _ ha s' hm
        · exact sbindL_no hk hb s' hm
      · cases h
    · have h' : ∃ b, sbindL k r = some b ∧ rs = (y, s0) :: b := by
        cases y <;> first | exact absurd rfl hy | (simp only [sbindL] at h; split at h <;> cases h; exact ⟨_, by assumption, rfl⟩)
      obtain ⟨b, hb, rfl⟩ := h'
      rcases List.mem_cons.1 hm with e | hm
      · cases e; exact hy rfl
      · exact sbindL_no hk hb s' hm
theorem sloop_no {f : SSt → SRS} : ∀ (k : Nat) (s : SSt) (rs : List (SX × SSt)), sloopN f k s = some rs → ∀ s', (SX.normal, s') ∉ rs
  | 0, s, rs, h => by simp [sloopN] at h
  | k + 1, s, rs, h => by
    simp only [sloopN, sbindN] at h
    split at h
    · exact sloop_no k _ rs h
    · exact sbindL_no (fun s r hr => sloop_no k s r hr) h
    · cases h
theorem knowE_spec {C : Cx} {E : EnvA} {a : Act} {c : Operand} {b : Bool} (h : ESat C n E a) (hv : a.eval c = .bool b) (hd : ∃ d, opd E c = some d) : ESat C n (knowE n E c b) a := by
  unfold knowE
  split
  · rename_i d
    split
    · rename_i E' hE
      obtain ⟨x, hx⟩ := hd
      obtain ⟨v, h1, _⟩ := h.slot d x hx
      have : a.eval (.tmp d) = v := by simp [Act.eval, h1]
      rw [this] at hv
      subst hv
      exact h.known hE h1 (.lit _)
    · exact h
  · exact h
theorem evalCR_spec (hcf : SCFok P base cf) (hm : P.follows .mixedOrders = true) : ∀ c : Code, LoOk P n base lo c → SoundR P n base c (evalCR P cf lo lf n rl c) := by
  intro c
  induction c with
  | skip =>
    intro hlo s C a w rs Q h hn hR hQ
    have h : some [(SX.normal, s)] = some rs := h
    simp only [Option.some.injEq] at h
    subst h
    exact wp_skip (hQ .normal s C a w .normal (List.mem_singleton.2 rfl) hR.goes rfl)
  | label l =>
    intro hlo s C a w rs Q h hn hR hQ
    have h : some [(SX.normal, s)] = some rs := h
    simp only [Option.some.injEq] at h
    subst h
    exact wp_label (hQ .normal s C a w .normal (List.mem_singleton.2 rfl) hR.goes rfl)
  | region id ops draw =>
    intro hlo s C a w rs Q h hn hR hQ
    have h : (match lo (1000000 + id) with | some g => g s | none => regionR P cf n rl ops draw s) = some rs := h
    cases hg : lo (1000000 + id) with
    | some g =>
      rw [hg] at h
      exact hlo (1000000 + id) _ (List.mem_singleton.2 rfl) g hg s C a w rs Q h hn hR hQ
    | none =>
    rw [hg] at h
    have h : regionR P cf n rl ops draw s = some rs := h
    unfold regionR at h
    split at h
    · refine wp_region ?_
      have := runR_spec (ops := ops) hcf ops.toList 0 s C a w rs Q (fun j o hj => by rw [Nat.zero_add]; simpa using hj) h hn hR hQ
      rw [← List.range_eq_range', Array.length_toList] at this
      exact this
    · split at h
      · rename_i hns
        split at h
        · rename_i l hl
          cases h
          have hS : SStep C C s.M s.M base w w.drew := hR.mem.drew (Below.refl _ w).drew
          have hnl : NBs l := fun s' hm' => by
            rcases dropR_mem (rl := rl) (ops := ops) hm' with ⟨_, h4⟩ | ⟨⟨d, e⟩, _⟩
            · exact hn s' h4
            · cases e
          let Q0 : Exit → Act → World → Prop := fun e a1 w1 => match e with
            | .panic c => ∀ a2 : Act, a2.defers = a1.defers → a2.tmps.size = a1.tmps.size → (∀ t, noDst t ops.toList = true → a2.tmps[t]? = a1.tmps[t]?) → Q (.panic c) a2 w1
            | e => Q e a1 w1
          have hmono : ∀ e a w, Q0 e a w → Q e a w := fun e a w h => by
            cases e with
            | panic c => exact h a rfl rfl (fun _ _ => rfl)
            | _ => exact h
          refine Code.wp_mono hmono (wp_region_G (S := SF []) hm ?_)
          refine evalAny_spec (C0 := C) (M0 := s.M) (w0 := w.drew) hcf hns (Q := Q0) (fun i o ho c a1 w1 v hq a2 e1 e2 e3 => ?_) _ _ [] s C a w.drew l [] hl hnl ⟨SStep.refl hS.mem, hR.env, hR.ds⟩ (fun f hf => by simp at hf) (fun f hf => by simp at hf) rfl (fun x s' C' a' w' e hin hG hx => ?_)
          · refine hq a2 (by rw [e1, put_defers']) (by rw [e2]; cases hd : o.dst <;> simp [Act.put]) (fun t ht => ?_)
            rw [e3 t ht]
            have hne := noDst_spec ht o (by simpa using Array.mem_of_getElem? ho)
            cases hd : o.dst with
            | none => rfl
            | some d =>
              rw [hd] at hne
              have hdt : d ≠ t := fun e => hne (by rw [e])
              simp [Act.put, Array.getElem?_setIfInBounds_ne hdt]
          · have hG' : SGoes C C' n base s.M s' w a' w' := ⟨hS.trans hG.step, hG.env, hG.ds⟩
            rcases dropR_mem (rl := rl) (ops := ops) hin with ⟨hn', h4⟩ | ⟨⟨d, rfl⟩, h4⟩
            · have := hQ x s' C' a' w' e h4 hG' hx
              cases x with
              | normal => obtain rfl : e = .normal := hx; exact this
              | exit id => obtain rfl : e = .exit id := hx; exact this
              | ret => obtain rfl : e = .ret := hx; exact this
              | panic d => exact absurd rfl (hn' d)
              | bad => exact hx.elim
            · obtain ⟨v, rfl, hD⟩ := hx
              intro a2 e1 e2 e3
              refine hQ _ _ C' a2 w' _ h4 ⟨hG'.step, ⟨by rw [e2]; exact hG'.env.size, fun i x hx => ?_⟩, by rw [e1]; exact hG'.ds⟩ ⟨v, rfl, hD⟩
              obtain ⟨h5, h6⟩ := keepE_spec hx
              rw [e3 i h6]
              exact hG'.env.slot i x h5
        · cases h
      · cases h
  | seq x y ihx ihy =>
    intro hlo s C a w rs Q h hn hR hQ
    have h : sbindN (evalCR P cf lo lf n rl x s) (evalCR P cf lo lf n rl y) = some rs := h
    have hlx : LoOk P n base lo x := fun id b hb => hlo id b (List.mem_append_left _ hb)
    have hly : LoOk P n base lo y := fun id b hb => hlo id b (List.mem_append_right _ hb)
    obtain ⟨l, hl, hb⟩ := sbindN_spec h
    have hnl : NBs l := fun s' hm' => by
      rcases hb _ _ hm' with ⟨e, _⟩ | ⟨_, h1⟩
      · cases e
      · exact hn s' h1
    refine wp_seq (ihx hlx s C a w l _ hl hnl hR (fun x s' C' a' w' e hin hG hx => ?_))
    rcases hb _ _ hin with ⟨rfl, r', hr', hsub⟩ | ⟨hne, hin2⟩
    · obtain rfl : e = .normal := hx
      exact ihy hly s' C' a' w' r' Q hr' (hn.sub hsub) hG.rel (fun x s2 C2 a2 w2 e hin2 hG2 hx => hQ x s2 C2 a2 w2 e (hsub _ hin2) (hG.trans hG2) hx)
    · have := hQ x s' C' a' w' e hin2 hG hx
      cases x with
      | normal => exact absurd rfl hne
      | exit id => obtain rfl : e = .exit id := hx; exact this
      | ret => obtain rfl : e = .ret := hx; exact this
      | panic d => obtain ⟨v, rfl, _⟩ := hx; exact this
      | bad => exact hx.elim
  | cond c t f iht ihf =>
    intro hlo s C a w rs Q h hn hR hQ
    have h : condSR n c (evalCR P cf lo lf n rl t) (evalCR P cf lo lf n rl f) s = some rs := h
    have hlt : LoOk P n base lo t := fun id b hb => hlo id b (List.mem_append_left _ hb)
    have hlf : LoOk P n base lo f := fun id b hb => hlo id b (List.mem_append_right _ hb)
    unfold condSR at h
    split at h
    · rename_i hc
      have hv := hR.env.fine _ _ hc
      generalize hb : a.eval c = vc at hv
      cases hv
      exact wp_cond_true hb (iht hlt s C a w rs Q h hn hR hQ)
    · rename_i hc
      have hv := hR.env.fine _ _ hc
      generalize hb : a.eval c = vc at hv
      cases hv
      exact wp_cond_false hb (ihf hlf s C a w rs Q h hn hR hQ)
    · rename_i b hc
      have hv := hR.env.fine _ _ hc
      generalize hb : a.eval c = vc at hv
      cases sym_inv hv
      split at h
      · rename_i x y hx hy
        cases h
        cases b with
        | true =>
          have hS := hR.mem.cond (p := s.M.pc ∧ true = true) ⟨hR.mem.pc, rfl⟩
          refine wp_cond_true hb (iht hlt _ C a w x Q hx (hn.sub (fun y hy => List.mem_append_left _ hy)) ⟨hS.mem, knowE_spec hR.env hb ⟨_, hc⟩, hR.ds⟩ (fun x s' C' a' w' e hin hG hx => hQ x s' C' a' w' e (List.mem_append_left _ hin) ⟨hS.trans hG.step, hG.env, hG.ds⟩ hx))
        | false =>
          have hS := hR.mem.cond (p := s.M.pc ∧ false = false) ⟨hR.mem.pc, rfl⟩
          refine wp_cond_false hb (ihf hlf _ C a w y Q hy (hn.sub (fun y hy => List.mem_append_right _ hy)) ⟨hS.mem, knowE_spec hR.env hb ⟨_, hc⟩, hR.ds⟩ (fun x s' C' a' w' e hin hG hx => hQ x s' C' a' w' e (List.mem_append_right _ hin) ⟨hS.trans hG.step, hG.env, hG.ds⟩ hx))
      · cases h
    · cases h
  | block id b ih =>
    intro hlo s C a w rs Q h hn hR hQ
    have h : (match lo id with | some g => g s | none => blockSR id (evalCR P cf lo lf n rl b s)) = some rs := h
    have hlb : LoOk P n base lo b := fun id' b' hb => hlo id' b' (List.mem_cons_of_mem _ hb)
    split at h
    · rename_i g hg
      exact hlo id _ List.mem_cons_self g hg s C a w rs Q h hn hR hQ
    · unfold blockSR at h
      split at h
      · rename_i l hl
        cases h
        have hnl : NBs l := fun s' hm' => by
          rcases blockW_mem (id := id) hm' with ⟨e, _⟩ | ⟨_, h2⟩
          · cases e
          · exact hn s' h2
        refine wp_block (ih hlb s C a w l _ hl hnl hR (fun x s' C' a' w' e hin hG hx => ?_))
        rcases blockW_mem (id := id) hin with ⟨rfl, h2⟩ | ⟨hne, h2⟩
        · obtain rfl : e = .exit id := hx
          simp only [Exit.inBlock, if_true]
          exact hQ .normal s' C' a' w' .normal h2 hG rfl
        · have := hQ x s' C' a' w' e h2 hG hx
          cases x with
          | normal => obtain rfl : e = .normal := hx; exact this
          | exit j =>
            obtain rfl : e = .exit j := hx
            simp only [Exit.inBlock]
            rw [if_neg (fun e => hne (by rw [e]))]; exact this
          | ret => obtain rfl : e = .ret := hx; exact this
          | panic d => obtain ⟨v, rfl, _⟩ := hx; exact this
          | bad => exact hx.elim
      · cases h
  | loop b ih =>
    intro hlo s C a w rs Q h hn hR hQ
    have h : sloopN (evalCR P cf lo lf n rl b) lf s = some rs := h
    exact wp_loop_rounds lf (sloop_spec (ih hlo) lf s C a w rs Q h hn hR hQ (sloop_no lf s rs h))
  | exit id =>
    intro hlo s C a w rs Q h hn hR hQ
    have h : some [(SX.exit id, s)] = some rs := h
    simp only [Option.some.injEq] at h
    subst h
    exact wp_exit (hQ (.exit id) s C a w (.exit id) (List.mem_singleton.2 rfl) hR.goes rfl)
  | ret =>
    intro hlo s C a w rs Q h hn hR hQ
    have h : some [(SX.ret, s)] = some rs := h
    simp only [Option.some.injEq] at h
    subst h
    exact wp_ret (hQ .ret s C a w .ret (List.mem_singleton.2 rfl) hR.goes rfl)
  | scope b ih =>
    intro hlo s C a w rs Q h hn hR hQ
    have h : evalCR P cf lo lf n rl b s = some rs := h
    refine wp_scope_straight (ih hlo s C a w rs _ h hn hR (fun x s' C' a' w' e hin hG hx => ?_))
    have := hQ x s' C' a' w' e hin hG hx
    cases x with
    | normal => obtain rfl : e = .normal := hx; exact this
    | exit j => obtain rfl : e = .exit j := hx; exact this
    | ret => obtain rfl : e = .ret := hx; exact this
    | panic d => obtain ⟨v, rfl, _⟩ := hx; exact this
    | bad => exact hx.elim
  | rangeFunc f ps as b _ _ => intro hlo s C a w rs Q h hn hR hQ; exact absurd (show (none : SRS) = some rs from h) (by simp)
  | goto l => intro hlo s C a w rs Q h hn hR hQ; exact absurd (show (none : SRS) = some rs from h) (by simp)
  | refuse why => intro hlo s C a w rs Q h hn hR hQ; exact absurd (show (none : SRS) = some rs from h) (by simp)
end
end Go.EV
