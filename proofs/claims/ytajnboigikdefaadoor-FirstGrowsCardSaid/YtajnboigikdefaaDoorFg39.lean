/- Texts that the proof of a law rests on, put together: part 39. -/
import Derived.Test.YtajnboigikdefaaDoorFg38
namespace Go.EV
open Go Go.RowKit
set_option linter.unusedVariables false
set_option linter.unusedSimpArgs false
noncomputable def loOf : List (Nat × LFace) → Lo
  | [], _ => none
  | (i, L) :: r, id => match Nat.beq i id with
    | true => some (loopR L)
    | false => loOf r id
noncomputable def loF (f : FuncId) (l : List (Nat × LFace)) : FuncId → Lo := fun g => match Nat.beq g f with
  | true => loOf l
  | false => fun _ => none
def findC (id : Nat) : List (Nat × Code) → Option Code
  | [] => none
  | (i, b) :: r => match Nat.beq i id with
    | true => some b
    | false => findC id r
noncomputable def loopAt (c : Code) (id : Nat) : Option Code := match findC id (blocksC c) with
  | some (.block _ (.loop b)) => some b
  | _ => none
def fstN : List (Nat × Code) → List Nat
  | [] => []
  | (i, _) :: r => i :: fstN r
noncomputable def uniqB (P : Program) (f : FuncId) : Bool := match enterable P f with
  | some (_, c) => nodN (fstN (blocksC c))
  | none => true
def LpAt (P : Program) (f : FuncId) (id : Nat) (L : LFace) : Prop := ∀ fn c d, enterable P f = some (fn, c) → findC id (blocksC c) = some d → LpOk P fn.ntmps d L
def LpsAt (P : Program) (f : FuncId) (l : List (Nat × LFace)) : Prop := ∀ q ∈ l, LpAt P f q.1 q.2
theorem mem_fstN {id : Nat} {b : Code} : ∀ {l : List (Nat × Code)}, (id, b) ∈ l → id ∈ fstN l
  | [], hm => by simp at hm
  | (i, c) :: r, hm => by
    rcases List.mem_cons.1 hm with e | hm
    · cases e; exact List.mem_cons_self
    · exact List.mem_cons_of_mem _ (mem_fstN hm)
theorem findC_mem {id : Nat} {b : Code} : ∀ {l : List (Nat × Code)}, nodN (fstN l) = true → (id, b) ∈ l → findC id l = some b
  | [], _, hm => by simp at hm
  | (i, c) :: r, h, hm => by
    simp only [fstN, nodN, Bool.and_eq_true, Bool.not_eq_true'] at h
    simp only [findC]
    rcases List.mem_cons.1 hm with e | hm
    · cases e; simp
    · have hin := mem_fstN hm
      have : Nat.beq i id = false := by
        cases hb : Nat.beq i id with
        | false => rfl
        | true =>
          have := Nat.eq_of_beq_eq_true hb
          subst this
          rw [(XW.memN_iff _ _).2 hin] at h; cases h.1
      rw [this]
      exact findC_mem h.2 hm
theorem findC_in {id : Nat} {b : Code} : ∀ {l : List (Nat × Code)}, findC id l = some b → (id, b) ∈ l
  | [], h => by simp [findC] at h
  | (i, c) :: r, h => by
    simp only [findC] at h
    split at h
    · rename_i hb
      cases h
      have := Nat.eq_of_beq_eq_true hb
      subst this
      exact List.mem_cons_self
    · exact List.mem_cons_of_mem _ (findC_in h)
theorem loOf_ok {P : Program} {f : FuncId} {fn : Func} {c : Code} {base : Nat} (hen : enterable P f = some (fn, c)) (hu : nodN (fstN (blocksC c)) = true) : ∀ {l : List (Nat × LFace)}, LpsAt P f l → ∀ d : Code, (∀ q ∈ blocksC d, q ∈ blocksC c) → LoOk P fn.ntmps base (loOf l) d
  | [], _, d, _ => fun id b _ g hg => by simp [loOf] at hg
  | (i, L) :: r, h, d, hsub => fun id b hb g hg => by
    simp only [loOf] at hg
    split at hg
    · rename_i hbi
      have e := Nat.eq_of_beq_eq_true hbi
      subst e
      cases hg
      exact loopR_sound (h _ List.mem_cons_self fn c b hen (findC_mem hu (hsub _ hb)))
    · exact loOf_ok hen hu (fun q hq => h q (List.mem_cons_of_mem _ hq)) d hsub id b hb g hg
theorem loF_ok {P : Program} {f : FuncId} {base : Nat} {l : List (Nat × LFace)} (hu : uniqB P f = true) (h : LpsAt P f l) : LosOk P base (loF f l) := by
  intro g fn c hen
  unfold loF
  split
  · rename_i hb
    have e := Nat.eq_of_beq_eq_true hb
    subst e
    have hu' : nodN (fstN (blocksC c)) = true := by
      unfold uniqB at hu
      rw [hen] at hu
      exact hu
    exact loOf_ok hen hu' h c (fun q hq => hq)
  · intro id b _ g hg
    cases hg
theorem lps_nil (P : Program) (f : FuncId) : LpsAt P f [] := fun q hq => by simp at hq
theorem lps_cons {P : Program} {f : FuncId} {id : Nat} {L : LFace} {l : List (Nat × LFace)} (h : LpAt P f id L) (hl : LpsAt P f l) : LpsAt P f ((id, L) :: l) := fun q hq => by
  rcases List.mem_cons.1 hq with rfl | hq
  · exact h
  · exact hl q hq
noncomputable def GoodLA (P : Program) (cf : SCF) (l : List (Nat × LFace)) (lf : Nat) (f : FuncId) (id : Nat) (L : LFace) (μ : dens L.sh → Nat) (x : dens L.sh) : Prop := match enterable P f with
  | some (fn, c) => match loopAt c id with
    | some b => GoodL id L μ x (evalCR P cf (loOf l) lf fn.ntmps (resSlots fn.results.toList) b ⟨envSl L.sl (avs 0 (bns L.sh) L.sh x), bookM (rws L.sh x) (bxs 0 L.sh x) True, []⟩)
    | none => False
  | none => False
theorem blocks_sub : ∀ (c : Code) (i : Nat) (d : Code), (i, d) ∈ blocksC c → ∀ q ∈ blocksC d, q ∈ blocksC c := by
  intro c
  induction c with
  | seq x y ihx ihy =>
    intro i d hd q hq
    rcases List.mem_append.1 (show (i, d) ∈ blocksC x ++ blocksC y from hd) with h1 | h1
    · exact List.mem_append_left _ (ihx i d h1 q hq)
    · exact List.mem_append_right _ (ihy i d h1 q hq)
  | cond o x y ihx ihy =>
    intro i d hd q hq
    rcases List.mem_append.1 (show (i, d) ∈ blocksC x ++ blocksC y from hd) with h1 | h1
    · exact List.mem_append_left _ (ihx i d h1 q hq)
    · exact List.mem_append_right _ (ihy i d h1 q hq)
  | block j b ih =>
    intro i d hd q hq
    rcases List.mem_cons.1 (show (i, d) ∈ (j, .block j b) :: blocksC b from hd) with h1 | h1
    · cases h1; exact hq
    · exact List.mem_cons_of_mem _ (ih i d h1 q hq)
  | loop b ih => intro i d hd q hq; exact ih i d hd q hq
  | scope b ih => intro i d hd q hq; exact ih i d hd q hq
  | skip => intro i d hd; simp [blocksC] at hd
  | region id ops draw =>
    intro i d hd q hq
    have hd : (i, d) ∈ [(1000000 + id, Code.region id ops draw)] := hd
    simp only [List.mem_singleton, Prod.mk.injEq] at hd
    rw [hd.2] at hq; exact hq
  | rangeFunc f ps as b _ _ => intro i d hd; simp [blocksC] at hd
  | exit j => intro i d hd; simp [blocksC] at hd
  | label j => intro i d hd; simp [blocksC] at hd
  | goto j => intro i d hd; simp [blocksC] at hd
  | ret => intro i d hd; simp [blocksC] at hd
  | refuse j => intro i d hd; simp [blocksC] at hd
theorem blocks_key : ∀ (c : Code) (i j : Nat) (b : Code), (i, .block j b) ∈ blocksC c → i = j := by
  intro c
  induction c with
  | seq x y ihx ihy =>
    intro i j b hd
    rcases List.mem_append.1 (show (i, Code.block j b) ∈ blocksC x ++ blocksC y from hd) with h1 | h1
    · exact ihx i j b h1
    · exact ihy i j b h1
  | cond o x y ihx ihy =>
    intro i j b hd
    rcases List.mem_append.1 (show (i, Code.block j b) ∈ blocksC x ++ blocksC y from hd) with h1 | h1
    · exact ihx i j b h1
    · exact ihy i j b h1
  | block k d ih =>
    intro i j b hd
    rcases List.mem_cons.1 (show (i, Code.block j b) ∈ (k, .block k d) :: blocksC d from hd) with h1 | h1
    · cases h1; rfl
    · exact ih i j b h1
  | loop d ih => intro i j b hd; exact ih i j b hd
  | scope d ih => intro i j b hd; exact ih i j b hd
  | skip => intro i j b hd; simp [blocksC] at hd
  | region id ops draw =>
    intro i j b hd
    have hd : (i, Code.block j b) ∈ [(1000000 + id, Code.region id ops draw)] := hd
    simp at hd
  | rangeFunc f ps as b _ _ => intro i j b hd; simp [blocksC] at hd
  | exit k => intro i j b hd; simp [blocksC] at hd
  | label k => intro i j b hd; simp [blocksC] at hd
  | goto k => intro i j b hd; simp [blocksC] at hd
  | ret => intro i j b hd; simp [blocksC] at hd
  | refuse k => intro i j b hd; simp [blocksC] at hd
theorem loopAt_spec {c b d : Code} {id : Nat} (h : loopAt c id = some b) (hd : findC id (blocksC c) = some d) : d = .block id (.loop b) := by
  unfold loopAt at h
  rw [hd] at h
  split at h
  · rename_i j b' hj
    cases h
    cases hj
    rw [blocks_key c id j _ (findC_in hd)]
  · cases h
theorem blocks_loop {c b d : Code} {id : Nat} (h : loopAt c id = some b) (hd : findC id (blocksC c) = some d) : ∀ q ∈ blocksC b, q ∈ blocksC c := fun q hq => by
  have e := loopAt_spec h hd
  subst e
  exact blocks_sub c id _ (findC_in hd) q (List.mem_cons_of_mem _ hq)
noncomputable def chkP (P : Program) (f : FuncId) (n : Nat) : Bool := uniqB P f && (P.follows .mixedOrders && small n)
theorem lp_eval {P : Program} {cf : SCF} {l : List (Nat × LFace)} {lf : Nat} {f : FuncId} {id : Nat} (hcf : ∀ base, SCFok P base cf) (hl : LpsAt P f l) (hc : chkP P f 0 = true) (L : LFace) (μ : dens L.sh → Nat)
    (h : ∀ x, holds (L.pre x) → GoodLA P cf l lf f id L μ x) : LpAt P f id L := by
  simp only [chkP, Bool.and_eq_true] at hc
  obtain ⟨hu, hm, _⟩ := hc
  intro fn c d hen hd base C x a w vs Q hpre
  have hu' : nodN (fstN (blocksC c)) = true := by
    unfold uniqB at hu
    rw [hen] at hu
    exact hu
  obtain ⟨b, hb⟩ : ∃ b, loopAt c id = some b := by
    have := h x hpre
    unfold GoodLA at this
    simp only [hen] at this
    split at this
    · exact ⟨_, by assumption⟩
    · exact this.elim
  have e := loopAt_spec hb hd
  subst e
  refine loop_law (f := evalCR P cf (loOf l) lf fn.ntmps (resSlots fn.results.toList) b) (fun base => evalCR_spec (hcf base) hm b (loOf_ok hen hu' hl b (blocks_loop hb hd))) L id μ (fun x hx => ?_) base C x a w vs Q hpre
  have := h x hx
  unfold GoodLA at this
  simp only [hen, hb] at this
  exact this
noncomputable def GoodPA (P : Program) (cf : SCF) (l : List (Nat × LFace)) (lf : Nat) (f : FuncId) (id : Nat) (L : LFace) (x : dens L.sh) : Prop := match enterable P f with
  | some (fn, c) => match findC id (blocksC c) with
    | some d => GoodP L x (evalCR P cf (loOf l) lf fn.ntmps (resSlots fn.results.toList) d ⟨envSl L.sl (avs 0 (bns L.sh) L.sh x), bookM (rws L.sh x) (bxs 0 L.sh x) True, []⟩)
    | none => False
  | none => False
theorem pc_eval {P : Program} {cf : SCF} {l : List (Nat × LFace)} {lf : Nat} {f : FuncId} {id : Nat} (hcf : ∀ base, SCFok P base cf) (hl : LpsAt P f l) (hc : chkP P f 0 = true) (L : LFace)
    (h : ∀ x, holds (L.pre x) → GoodPA P cf l lf f id L x) : LpAt P f id L := by
  simp only [chkP, Bool.and_eq_true] at hc
  obtain ⟨hu, hm, _⟩ := hc
  intro fn c d hen hd
  have hu' : nodN (fstN (blocksC c)) = true := by
    unfold uniqB at hu
    rw [hen] at hu
    exact hu
  refine piece_law (f := evalCR P cf (loOf l) lf fn.ntmps (resSlots fn.results.toList) d) (fun base => evalCR_spec (hcf base) hm d (loOf_ok hen hu' hl d (blocks_sub c id d (findC_in hd)))) L (fun x hx => ?_)
  have := h x hx
  unfold GoodPA at this
  simp only [hen, hd] at this
  exact this
noncomputable def GoodFA (P : Program) (cf : SCF) (l : List (Nat × LFace)) (lf : Nat) (S : Face) (x : dens S.ps) : Prop := GoodF S x (evalFR P cf (loF S.f l) lf S.f (avs 0 (bns S.ps) S.ps x) (bookM (rws S.ps x) (bxs 0 S.ps x) True))
theorem fn_eval {P : Program} {cf : SCF} {l : List (Nat × LFace)} {lf : Nat} (hcf : ∀ base, SCFok P base cf) (S : Face) (hl : LpsAt P S.f l) (hc : chkP P S.f (nbx S.ps) = true)
    (h : ∀ x, holds (S.pre x) → GoodFA P cf l lf S x) : FnOk P S := by
  simp only [chkP, Bool.and_eq_true] at hc
  obtain ⟨hu, hm, hs⟩ := hc
  exact fnOk_eval hcf (fun base => loF_ok hu hl) hm S hs h
structure Hid (p : Prop) : Prop where
  out : p
theorem lp_evalH {P : Program} {cf : SCF} {l : List (Nat × LFace)} {lf : Nat} {f : FuncId} {id : Nat} (hcf : ∀ base, SCFok P base cf) (hl : LpsAt P f l) (hc : chkP P f 0 = true) (L : LFace) (μ : dens L.sh → Nat)
    (h : ∀ x, holds (L.pre x) → Hid (GoodLA P cf l lf f id L μ x)) : LpAt P f id L := lp_eval hcf hl hc L μ fun x hx => (h x hx).out
theorem pc_evalH {P : Program} {cf : SCF} {l : List (Nat × LFace)} {lf : Nat} {f : FuncId} {id : Nat} (hcf : ∀ base, SCFok P base cf) (hl : LpsAt P f l) (hc : chkP P f 0 = true) (L : LFace)
    (h : ∀ x, holds (L.pre x) → Hid (GoodPA P cf l lf f id L x)) : LpAt P f id L := pc_eval hcf hl hc L fun x hx => (h x hx).out
theorem fn_evalH {P : Program} {cf : SCF} {l : List (Nat × LFace)} {lf : Nat} (hcf : ∀ base, SCFok P base cf) (S : Face) (hl : LpsAt P S.f l) (hc : chkP P S.f (nbx S.ps) = true)
    (h : ∀ x, holds (S.pre x) → Hid (GoodFA P cf l lf S x)) : FnOk P S := fn_eval hcf S hl hc fun x hx => (h x hx).out
theorem Hid.of {p q : Prop} (h : p = q) (hq : q) : Hid p := ⟨h.mpr hq⟩
noncomputable def inl (P : Program) (cf : SCF) (k : Nat) : SCF := callR P cf (fun _ _ => none) 1000 k
theorem inl_ok {P : Program} {cf : SCF} (h : ∀ base, SCFok P base cf) (hm : P.follows .mixedOrders = true) (k : Nat) : ∀ base, SCFok P base (inl P cf k) := fun base => callR_spec (h base) (fun f fn c _ id b _ g hg => by cases hg) hm k
end Go.EV
