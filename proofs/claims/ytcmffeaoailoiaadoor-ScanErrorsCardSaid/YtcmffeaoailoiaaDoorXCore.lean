/- Of no program: small laws by which a walk through a function is written out step by step: what the slots hold is an association list, straight runs of plain operations are computed, and each other operation has a law. -/
import Derived.Calls
import Derived.Tactics
import Derived.Orders
import Derived.OrdersHeld
import Derived.Below
import Derived.Deep.Draws
import Derived.KernelRfl
import Derived.RowKit3
import Derived.Laws.AppendOwn
import Derived.Laws.OwnMore
import Derived.Laws.MakeOwn
namespace Go.XW
open Go.RowKit

/-! ### 1. What the slots hold -/
abbrev Env := List (Nat × Value)
def get : Env → Nat → Option Value
  | [], _ => none
  | (k, v) :: r, i => match Nat.beq k i with | true => some v | false => get r i
def ev (E : Env) : Operand → Option Value
  | .tmp t => get E t
  | .const v => some v
  | .global g => some (.pointer (some ⟨g, 0, none⟩))
  | .func f => some (.func (.func f) #[] #[])
def evD (E : Env) (x : Operand) : Value := (ev E x).getD undef

structure Sat (n : Nat) (ds : List Deferred) (E : Env) (a : Act) : Prop where
  size : a.tmps.size = n
  defers : a.defers = ds
  slot : ∀ i v, get E i = some v → a.tmps[i]? = some v

theorem Sat.eval {n ds E a} (h : Sat n ds E a) {x : Operand} {v : Value} (hx : ev E x = some v) : a.eval x = v := by
  cases x with
  | tmp t => simp only [ev] at hx; simp [Act.eval, h.slot t v hx]
  | const u => simpa [ev, Act.eval] using hx
  | global g => simpa [ev, Act.eval] using hx
  | func f => simpa [ev, Act.eval] using hx

theorem get_cons_ne {d i : Nat} {v : Value} {E : Env} (h : d ≠ i) : get ((d, v) :: E) i = get E i := by
  simp only [get]
  cases hb : Nat.beq d i with
  | true => exact absurd (Nat.eq_of_beq_eq_true hb) h
  | false => rfl
theorem get_cons_eq {d : Nat} {v : Value} {E : Env} : get ((d, v) :: E) d = some v := by simp [get]

theorem Sat.put {n ds E a} (h : Sat n ds E a) {d : Nat} (hd : d < n) (v : Value) : Sat n ds ((d, v) :: E) (a.put (some d) v) := by
  refine ⟨by simp [Act.put, h.size], h.defers, fun i u hu => ?_⟩
  by_cases e : d = i
  · subst e
    rw [get_cons_eq] at hu
    cases hu
    simp [Act.put, h.size, hd]
  · rw [get_cons_ne e] at hu
    have := h.slot i u hu
    simp [Act.put, Array.getElem?_setIfInBounds_ne e, this]

/-- The destination: none, or a slot that there is. -/
def dstE (n : Nat) (E : Env) (dst : Option Tmp) (v : Value) : Option Env :=
  match dst with
  | none => some E
  | some d => match Nat.blt d n with | true => some ((d, v) :: E) | false => none
theorem Sat.dst {n ds E a E'} (h : Sat n ds E a) {o : Option Tmp} {v : Value} (he : dstE n E o v = some E') : Sat n ds E' (a.put o v) := by
  cases o with
  | none => simp only [dstE, Option.some.injEq] at he; subst he; exact h
  | some d =>
    simp only [dstE] at he
    cases hb : Nat.blt d n with
    | true => rw [hb] at he; simp only [Option.some.injEq] at he; subst he; exact h.put (by simpa [Nat.blt_eq] using hb) v
    | false => rw [hb] at he; simp at he

/-- Only those slots. -/
def pick (E : Env) : List Nat → Option Env
  | [] => some []
  | i :: r => match get E i, pick E r with | some v, some l => some ((i, v) :: l) | _, _ => none
theorem get_pick : ∀ (l : List Nat) (E E' : Env), pick E l = some E' → ∀ i v, get E' i = some v → get E i = some v
  | [], E, E', h, i, v, hi => by simp [pick] at h; subst h; simp [get] at hi
  | j :: l, E, E', h, i, v, hi => by
    simp only [pick] at h
    split at h
    · rename_i u L hu hl
      simp only [Option.some.injEq] at h
      subst h
      by_cases e : j = i
      · subst e; rw [get_cons_eq] at hi; cases hi; exact hu
      · rw [get_cons_ne e] at hi; exact get_pick l E L hl i v hi
    · cases h
theorem Sat.pick {n ds E E' a l} (h : Sat n ds E a) (hp : pick E l = some E') : Sat n ds E' a := ⟨h.size, h.defers, fun i v hi => h.slot i v (get_pick l E E' hp i v hi)⟩
theorem Sat.sub {n ds E E' a} (h : Sat n ds E a) (hs : ∀ i v, get E' i = some v → get E i = some v) : Sat n ds E' a := ⟨h.size, h.defers, fun i v hi => h.slot i v (hs i v hi)⟩

/-! ### 2. Plain operations, computed -/
def runPure (P : Program) : Sem Next → Option Value
  | .pure (.value v) => some v
  | .program k => runPure P (k P)
  | _ => none
theorem runPure_sound (P : Program) : ∀ (s : Sem Next) (v : Value), runPure P s = some v → ∀ w, s.run P w = .ok (.value v) w
  | .pure x, v, h, w => by
    cases x <;> simp [runPure] at h
    subst h; rfl
  | .program k, v, h, w => by
    simp only [runPure] at h
    exact runPure_sound P (k P) v h w
  | .load .., v, h, w => by simp [runPure] at h
  | .store .., v, h, w => by simp [runPure] at h
  | .new .., v, h, w => by simp [runPure] at h
  | .shape .., v, h, w => by simp [runPure] at h
  | .freeze .., v, h, w => by simp [runPure] at h
  | .frozen .., v, h, w => by simp [runPure] at h
  | .getObj .., v, h, w => by simp [runPure] at h
  | .setObj .., v, h, w => by simp [runPure] at h
  | .choose .., v, h, w => by simp [runPure] at h
  | .sys .., v, h, w => by simp [runPure] at h
  | .mark .., v, h, w => by simp [runPure] at h
  | .halt .., v, h, w => by simp [runPure] at h

def isSelect : Op → Bool
  | .select .. => true
  | _ => false
def known (E : Env) (xs : List Operand) : Bool := xs.all fun x => (ev E x).isSome
theorem known_spec {E : Env} {xs : List Operand} (h : known E xs = true) {x : Operand} (hx : x ∈ xs) : ∃ v, ev E x = some v := by
  have := List.all_eq_true.1 h x hx
  exact Option.isSome_iff_exists.1 this
theorem Sat.execOp {n ds E a} (h : Sat n ds E a) {o : Oper} (hs : isSelect o.op = false) (hk : known E o.op.operands.toList = true) : execOp a.eval o = execOp (evD E) o := by
  refine execOp_congr o (fun cs b e => by rw [e] at hs; simp [isSelect] at hs) (fun x hx => ?_)
  obtain ⟨v, hv⟩ := known_spec hk (by simpa using hx)
  rw [h.eval hv]
  simp [evD, hv]

def yieldOf : Value → Option Bool
  | .bool b => some b
  | _ => none
/-- Is the operation carried out? -/
def wantE (ops : Array Oper) (E : Env) (o : Oper) : Option Bool :=
  match o.guard with
  | none => some true
  | some (j, want) => match (ops[j]?).bind (·.dst) with
    | none => some false
    | some d => match get E d with
      | none => none
      | some v => match yieldOf v with
        | none => some false
        | some b => some (b == want)
theorem Sat.wanted {n ds E a} (h : Sat n ds E a) {ops : Array Oper} {o : Oper} {b : Bool} (hw : wantE ops E o = some b) : Region.wanted o (yielded ops a.tmps) = b := by
  unfold Region.wanted
  unfold wantE at hw
  cases hg : o.guard with
  | none => rw [hg] at hw; simpa using hw
  | some gw =>
    obtain ⟨j, want⟩ := gw
    rw [hg] at hw
    simp only at hw ⊢
    unfold yielded
    cases hd : (ops[j]?).bind (·.dst) with
    | none => rw [hd] at hw; simp at hw; subst hw; simp
    | some d =>
      rw [hd] at hw
      simp only at hw
      cases hv : get E d with
      | none => rw [hv] at hw; simp at hw
      | some v =>
        rw [hv] at hw
        simp only at hw
        simp only [Option.bind_some, h.slot d v hv]
        cases v <;> simp [yieldOf] at hw ⊢ <;> exact hw

/-- One plain operation, or one that is passed over. -/
def pureOp (P : Program) (n : Nat) (ops : Array Oper) (E : Env) (o : Oper) : Option Env :=
  match wantE ops E o with
  | none => none
  | some false => dstE n E o.dst undef
  | some true => match isSelect o.op, known E o.op.operands.toList with
    | false, true => match runPure P (execOp (evD E) o) with
      | some v => dstE n E o.dst v
      | none => none
    | _, _ => none
def pureRun (P : Program) (n : Nat) (ops : Array Oper) : List Nat → Env → Option Env
  | [], E => some E
  | i :: r, E => match ops[i]? with
    | none => none
    | some o => match pureOp P n ops E o with
      | none => none
      | some E' => pureRun P n ops r E'

section
variable {P : Program} {n : Nat} {ds : List Deferred} {ops : Array Oper} {Q : Exit → Act → World → Prop} {E E' : Env} {a : Act} {w : World}

theorem pureOp_spec (h : Sat n ds E a) {o : Oper} (hp : pureOp P n ops E o = some E') :
    ∃ v, Sat n ds E' (a.put o.dst v) ∧ Yields P ops o v a := by
  unfold pureOp at hp
  cases hw : wantE ops E o with
  | none => rw [hw] at hp; simp at hp
  | some b =>
    rw [hw] at hp
    cases b with
    | false =>
      simp only at hp
      exact ⟨undef, h.dst hp, .inr ⟨h.wanted hw, rfl⟩⟩
    | true =>
      simp only at hp
      split at hp
      · rename_i h1 h2
        split at hp
        · rename_i v hv
          exact ⟨v, h.dst hp, .inl ⟨h.wanted hw, fun W => by rw [h.execOp h1 h2]; exact runPure_sound P _ v hv W⟩⟩
        · cases hp
      · cases hp

theorem wpOp_pure (h : Sat n ds E a) {i : Nat} {o : Oper} (hi : ops[i]? = some o) (hp : pureOp P n ops E o = some E') {K : Act → World → Prop}
    (hK : ∀ a', Sat n ds E' a' → K a' w) : wpOp P ops Q i K a w := by
  obtain ⟨v, hs, hy⟩ := pureOp_spec h hp
  exact hy.wpOp hi (hK _ hs)

/-- A straight run of plain operations, in the text's order; then those slots alone. -/
theorem L_pure (h : Sat n ds E a) (l : List Nat) (l' : List Nat) (ks : List Nat) (E' : Env) (hp : ((pureRun P n ops l E).bind fun F => pick F ks) = some E')
    (hK : ∀ a', Sat n ds E' a' → wpOps P ops Q l' a' w) : wpOps P ops Q (l ++ l') a w := by
  induction l generalizing E a with
  | nil =>
    simp only [pureRun, Option.bind_some] at hp
    exact hK a (h.pick hp)
  | cons i r ih =>
    rw [List.cons_append, wpOps_cons]
    simp only [pureRun] at hp
    cases ho : ops[i]? with
    | none => rw [ho] at hp; simp at hp
    | some o =>
      rw [ho] at hp
      simp only at hp
      cases hq : pureOp P n ops E o with
      | none => rw [hq] at hp; simp at hp
      | some F =>
        rw [hq] at hp
        exact wpOp_pure h ho hq (fun a' h' => ih h' hp)

/-- One operation in the text's order, by its own law. -/
theorem L_op (h : Sat n ds E a) {i : Nat} {r : List Nat} {o : Oper} (hi : ops[i]? = some o) (hw : wantE ops E o = some true)
    (hK : o.wp P a w (wpOps P ops Q r) Q) : wpOps P ops Q (i :: r) a w := by
  rw [wpOps_cons]
  unfold wpOp
  simp only [hi, h.wanted hw, if_true]
  exact .inl hK
/-- One that may ask for more room than there is. -/
theorem L_end (hK : Q .normal a w) : wpOps P ops Q [] a w := hK
theorem L_region {id : Nat} (l : List Nat) (hl : List.range ops.size = l) (h : wpOps P ops Q l a w) : (Code.region id ops false).wp P Q a w := wp_region (by rw [hl]; exact h)

/-! ### 3. Regions whose order is drawn: first what is plain, then what alone may come up -/
/-! What the operations of a region look at, told as numbers: computed once. -/
abbrev OI := Option Nat × List Nat × List Nat
def summ (ops : Array Oper) : List OI := ops.toList.map fun o => (o.dst, o.looksAt ops, o.after.toList.filterMap fun e => if Region.binds .any e then some e.on else none)
def memN (d : Nat) : List Nat → Bool
  | [] => false
  | x :: r => match Nat.beq x d with | true => true | false => memN d r
theorem memN_iff (d : Nat) : ∀ l, memN d l = true ↔ d ∈ l
  | [] => by simp [memN]
  | x :: r => by
    unfold memN
    cases hb : Nat.beq x d with
    | true => have := Nat.eq_of_beq_eq_true hb; subst this; simp
    | false =>
      have : x ≠ d := fun e => by subst e; simp at hb
      simp only [memN_iff d r, List.mem_cons]
      exact ⟨.inr, fun h => h.resolve_left (fun e => this e.symm)⟩
def noN (d : Option Nat) (l : List Nat) : Bool := match d with | some d => !(memN d l) | none => true
def apartI (x y : OI) : Bool := noN x.1 y.2.1 && (noN y.1 x.2.1 && match x.1, y.1 with | some a, some b => !(Nat.beq a b) | _, _ => true)
def freeGo (i : Nat) (x : OI) : Nat → List OI → List Bool → Bool
  | _, [], _ => true
  | _, _ :: _, [] => false
  | j, y :: r, b :: bs => (b || Nat.beq j i || memN i y.2.2 || apartI x y) && freeGo i x (j + 1) r bs
def doneN (L : List Bool) : List Nat → Bool
  | [] => true
  | e :: r => (L.getD e false) && doneN L r
/-- Operation i may come up now, and may be taken first. -/
def upI (is : List OI) (L : List Bool) (i : Nat) : Bool :=
  match is[i]? with
  | none => false
  | some x => !(L.getD i true) && (doneN L x.2.2 && freeGo i x 0 is L)
theorem apartI_spec {ops : Array Oper} {x y : Oper} {a b : List Nat} (h : apartI (x.dst, x.looksAt ops, a) (y.dst, y.looksAt ops, b) = true) : x.apart ops y = true := by
  unfold apartI noN at h
  unfold Oper.apart
  cases hx : x.dst with
  | none =>
    rw [hx] at h
    cases hy : y.dst with
    | none => simp
    | some d =>
      rw [hy] at h
      simp only [Bool.true_and, Bool.and_true, Bool.not_eq_true'] at h
      have : d ∉ x.looksAt ops := fun hm => by rw [(memN_iff d _).2 hm] at h; cases h
      simpa using this
  | some c =>
    rw [hx] at h
    cases hy : y.dst with
    | none =>
      rw [hy] at h
      simp only [Bool.and_true, Bool.not_eq_true'] at h
      have : c ∉ y.looksAt ops := fun hm => by rw [(memN_iff c _).2 hm] at h; cases h
      simpa using this
    | some d =>
      rw [hy] at h
      simp only [Bool.and_eq_true, Bool.not_eq_true'] at h
      have h1 : c ∉ y.looksAt ops := fun hm => by rw [(memN_iff c _).2 hm] at h; cases h.1
      have h2 : d ∉ x.looksAt ops := fun hm => by rw [(memN_iff d _).2 hm] at h; cases h.2.1
      have h3 : d ≠ c := fun e => by subst e; simp at h
      simp [h1, h2, h3]
theorem freeGo_spec {ops : Array Oper} {i : Nat} {x : OI} : ∀ (is : List OI) (L : List Bool) (j0 : Nat), freeGo i x j0 is L = true → ∀ (k : Nat) (y : OI), is[k]? = some y → (L.getD k true = true ∨ j0 + k = i ∨ i ∈ y.2.2 ∨ apartI x y = true)
  | [], _, _, _, k, y, hk => by simp at hk
  | z :: r, [], _, h, _, _, _ => by simp [freeGo] at h
  | z :: r, b :: bs, j0, h, k, y, hk => by
    simp only [freeGo, Bool.and_eq_true, Bool.or_eq_true] at h
    cases k with
    | zero =>
      simp only [List.getElem?_cons_zero, Option.some.injEq] at hk
      subst hk
      rcases h.1 with ((h1 | h1) | h1) | h1
      · exact .inl (by simpa using h1)
      · exact .inr (.inl (by simpa using Nat.eq_of_beq_eq_true h1))
      · exact .inr (.inr (.inl ((memN_iff _ _).1 h1)))
      · exact .inr (.inr (.inr h1))
    | succ k =>
      have := freeGo_spec (ops := ops) r bs (j0 + 1) h.2 k y (by simpa using hk)
      rcases this with h1 | h1 | h1
      · exact .inl (by simpa using h1)
      · exact .inr (.inl (by omega))
      · exact .inr (.inr h1)
theorem doneN_spec (L : List Bool) : ∀ l, doneN L l = true → ∀ e ∈ l, L.getD e false = true
  | [], _, e, he => by simp at he
  | x :: r, h, e, he => by
    simp only [doneN, Bool.and_eq_true] at h
    rcases List.mem_cons.1 he with rfl | he
    · exact h.1
    · exact doneN_spec L r h.2 e he
theorem upI_spec {ops : Array Oper} {is : List OI} (hs : summ ops = is) {L : Array Bool} {i : Nat} (h : upI is L.toList i = true) : Region.free .any ops L i = true ∧ (Region.ready .any ops L).contains i = true := by
  subst hs
  have gD : ∀ (k : Nat) (d : Bool), L.toList.getD k d = L.getD k d := fun k d => by simp [List.getD, Array.getD_eq_getD_getElem?]
  have gI : ∀ k : Nat, (summ ops)[k]? = (ops[k]?).map fun (o : Oper) => (o.dst, o.looksAt ops, o.after.toList.filterMap fun e => if Region.binds .any e then some e.on else none) := fun k => by unfold summ; rw [List.getElem?_map, Array.getElem?_toList]
  unfold upI at h
  rw [gI] at h
  cases ho : ops[i]? with
  | none => rw [ho] at h; simp at h
  | some o =>
    rw [ho] at h
    simp only [Option.map_some, Bool.and_eq_true, Bool.not_eq_true', gD] at h
    obtain ⟨h1, h2, h3⟩ := h
    refine ⟨?_, ?_⟩
    · unfold Region.free
      rw [ho]
      simp only [List.all_eq_true, List.mem_range, Bool.or_eq_true, beq_iff_eq]
      intro j hj
      have hoj : ops[j]? = some ops[j] := Array.getElem?_eq_getElem hj
      have := freeGo_spec (ops := ops) _ _ 0 h3 j _ (by rw [gI, hoj]; rfl)
      rw [hoj]
      simp only [Bool.or_eq_true]
      rcases this with h4 | h4 | h4 | h4
      · exact .inl (.inr (by rw [← gD]; exact h4))
      · exact .inl (.inl (by omega))
      · refine .inr (.inl (Array.any_eq_true'.2 ?_))
        simp only [List.mem_filterMap] at h4
        obtain ⟨e, he, hb⟩ := h4
        split at hb
        · rename_i hbe
          simp only [Option.some.injEq] at hb
          exact ⟨e, by simpa using he, by simp [hbe, hb]⟩
        · cases hb
      · exact .inr (.inr (apartI_spec h4))
    · rw [List.contains_iff_mem, mem_ready]
      refine ⟨h1, o, ho, fun e he hb => ?_⟩
      have := doneN_spec _ _ h2 e.on (by simp only [List.mem_filterMap]; exact ⟨e, by simpa using he, by simp [hb]⟩)
      rw [gD] at this
      exact this
def takeRun (P : Program) (n : Nat) (ops : Array Oper) (is : List OI) : List Nat → Array Bool → Env → Option (Array Bool × Env)
  | [], L, E => some (L, E)
  | i :: r, L, E => match ops[i]?, upI is L.toList i with
    | some o, true => match pureOp P n ops E o with
      | none => none
      | some E' => takeRun P n ops is r (L.setIfInBounds i true) E'
    | _, _ => none
variable {is : List OI}
variable {S : World → Prop}
theorem putQ (hQ : ∀ c a w d v, Q (.panic c) (a.put (some d) v) w → Q (.panic c) a w) {o : Option Tmp} {v : Value} : ∀ c a w, Q (.panic c) (a.put o v) w → Q (.panic c) a w := fun c a w h => by
  cases o with
  | none => exact h
  | some d => exact hQ c a w d v h
theorem H_pure (hI : summ ops = is) (hns : Region.noSelect ops = true) (hQ : ∀ c a w d v, Q (.panic c) (a.put (some d) v) w → Q (.panic c) a w) (h : Sat n ds E a) (hS : S w) (l : List Nat) (ks : List Nat) (L L' : Array Bool) (E' : Env) (fuel : Nat)
    (hp : ((takeRun P n ops is l L E).bind fun F => (pick F.2 ks).map fun G => (F.1, G)) = some (L', E'))
    (hK : ∀ a', Sat n ds E' a' → wpAnyH P .any ops Q S fuel L' a' w) : wpAnyH P .any ops Q S (l.length + fuel) L a w := by
  induction l generalizing E a L with
  | nil =>
    simp only [takeRun, Option.bind_some, Option.map_eq_some_iff] at hp
    obtain ⟨G, hG, he⟩ := hp
    simp only [Prod.mk.injEq] at he
    obtain ⟨rfl, rfl⟩ := he
    simp only [List.length_nil, Nat.zero_add]
    exact hK a (h.pick hG)
  | cons i r ih =>
    simp only [takeRun] at hp
    split at hp
    · rename_i o ho hfr
      cases hq : pureOp P n ops E o with
      | none => rw [hq] at hp; simp at hp
      | some F =>
        rw [hq] at hp
        have hfr := upI_spec hI hfr
        obtain ⟨v, hs, hy⟩ := pureOp_spec h hq
        have e : (i :: r).length + fuel = (r.length + fuel) + 1 := by simp only [List.length_cons]; omega
        rw [e]
        exact wpAnyH_take ho hns hfr.1 hfr.2 (putQ hQ) hy.yieldsIf hS (ih hs _ hp)
    · simp at hp
/-- A read that yields the same in every world that meets S. -/
theorem H_take (hI : summ ops = is) (hns : Region.noSelect ops = true) (hQ : ∀ c a w d v, Q (.panic c) (a.put (some d) v) w → Q (.panic c) a w) (h : Sat n ds E a) (hS : S w) (i : Nat) {o : Oper} {L : Array Bool} {fuel : Nat} (v : Value) (L' : Array Bool) (E' : Env)
    (hi : ops[i]? = some o) (hw : wantE ops E o = some true) (hf : upI is L.toList i = true)
    (hL : L.setIfInBounds i true = L') (hy : ∀ w, S w → (execOp a.eval o).run P w = .ok (.value v) w) (hd : dstE n E o.dst v = some E')
    (hK : ∀ a', Sat n ds E' a' → wpAnyH P .any ops Q S fuel L' a' w) : wpAnyH P .any ops Q S (fuel + 1) L a w := by
  have hf := upI_spec hI hf
  subst hL
  exact wpAnyH_take hi hns hf.1 hf.2 (putQ hQ) (.inl ⟨h.wanted hw, hy⟩) hS (hK _ (h.dst hd))
/-- The one operation that may come up. -/
theorem H_op (h : Sat n ds E a) (i : Nat) {o : Oper} {L : Array Bool} {fuel : Nat} (L' : Array Bool) (hi : ops[i]? = some o) (hw : wantE ops E o = some true) (hr : Region.ready .any ops L = [i])
    (hL : L.setIfInBounds i true = L') (hK : o.wp P a w (fun a' w' => S w' ∧ wpAnyH P .any ops Q S fuel L' a' w') Q) : wpAnyH P .any ops Q S (fuel + 1) L a w := by
  subst hL
  refine wpAnyH_all hr (by simp) (fun j hj => ?_)
  obtain rfl : j = i := by simpa using hj
  unfold wpOp
  simp only [hi, h.wanted hw, if_true]
  exact .inl hK
theorem H_end {L : Array Bool} {fuel : Nat} (hr : Region.ready .any ops L = []) (hK : Q .normal a w) : wpAnyH P .any ops Q S fuel L a w := wpAnyH_done hr hK fuel
theorem H_region {id : Nat} (hm : P.follows .mixedOrders = true) (m : Nat) (L : Array Bool) (hn : ops.size = m) (hL : Array.replicate m false = L)
    (h : wpAnyH P .any ops Q S m L a w.drew) : (Code.region id ops true).wp P Q a w := by
  subst hL hn
  exact wp_region_held hm h

/-! ### 4. Code -/
theorem c_cond (h : Sat n ds E a) {c : Operand} {x y : Code} {b : Bool} (hc : ev E c = some (.bool b)) (ht : b = true → x.wp P Q a w) (hf : b = false → y.wp P Q a w) : (Code.cond c x y).wp P Q a w :=
  wp_cond_split (h.eval hc) ht hf
theorem c_true (h : Sat n ds E a) {c : Operand} {x y : Code} (hc : ev E c = some (.bool true)) (ht : x.wp P Q a w) : (Code.cond c x y).wp P Q a w := wp_cond_true (h.eval hc) ht
theorem c_false (h : Sat n ds E a) {c : Operand} {x y : Code} (hc : ev E c = some (.bool false)) (ht : y.wp P Q a w) : (Code.cond c x y).wp P Q a w := wp_cond_false (h.eval hc) ht
theorem x_then {id : Nat} {next : Act → World → Prop} (h : Q (.exit id) a w) : Exit.then next Q (.exit id) a w := h
theorem x_hit {id : Nat} (h : Q .normal a w) : Exit.inBlock id Q (.exit id) a w := by simp only [Exit.inBlock, if_true]; exact h
theorem x_miss {id id' : Nat} (hne : id' ≠ id) (h : Q (.exit id') a w) : Exit.inBlock id Q (.exit id') a w := by simp only [Exit.inBlock, if_neg hne]; exact h

/-- A loop: g: what the rounds turn on; fuel: what each round lowers. -/
theorem c_loop {G : Type} (Inv : G → Act → World → Prop) (fuel : G → Nat) {c : Code} (g₀ : G) (h₀ : Inv g₀ a w)
    (round : ∀ g a w, Inv g a w → c.wp P (Exit.then (fun a' w' => ∃ g', fuel g' < fuel g ∧ Inv g' a' w') Q) a w) : (Code.loop c).wp P Q a w := by
  intro b k cs
  have key : ∀ m g a w, fuel g = m → Inv g a w → ∃ e a' w', Q e a' w' ∧ Arrives P (lone (b.at a (.code c :: .inLoop c :: k)) cs w) b k cs e a' w' := by
    intro m
    induction m using Nat.strongRecOn with
    | _ m ih =>
      intro g a w hn hI
      obtain ⟨e, a₁, w₁, hq, harr⟩ := round g a w hI b (.inLoop c :: k) cs
      cases e with
      | normal =>
        obtain ⟨g', hlt, hI₁⟩ := hq
        obtain ⟨e₂, a₂, w₂, hq₂, harr₂⟩ := ih (fuel g') (hn ▸ hlt) g' a₁ w₁ rfl hI₁
        exact ⟨e₂, a₂, w₂, hq₂, .of_steps (Steps.trans harr (.one step_inLoop)) harr₂⟩
      | exit id => exact ⟨_, a₁, w₁, hq, .pass (x := .inLoop c) rfl (fun _ _ => .inl (by simp)) harr⟩
      | goto l => exact ⟨_, a₁, w₁, hq, .pass (x := .inLoop c) rfl (fun _ _ => .inl (by simp)) harr⟩
      | ret => exact ⟨_, a₁, w₁, hq, .pass (x := .inLoop c) rfl (fun _ _ => .inl (by simp)) harr⟩
      | panic ch => exact ⟨_, a₁, w₁, hq, .pass (x := .inLoop c) rfl (fun _ _ => .inl (by simp)) harr⟩
      | outgrown => exact ⟨_, a₁, w₁, hq, .pass (x := .inLoop c) rfl (fun _ _ => .inl (by simp)) harr⟩
  obtain ⟨e, a', w', hq, harr⟩ := key _ g₀ a w rfl h₀
  exact ⟨e, a', w', hq, .of_steps (.one step_loop) harr⟩

/-- Where ways meet. -/
theorem c_cut (R : Act → World → Prop) {c : Code} (h : c.wp P (Exit.then R Q) a w) (hK : ∀ a w, R a w → Q .normal a w) : c.wp P Q a w :=
  Code.wp_mono (fun e a w h => by cases e <;> first | exact hK _ _ h | exact h) h

/-- A function is entered. -/
theorem enter {f : FuncId} {fn : Func} {c : Code} {args : Array Value} {R : Ending → World → Prop} (hf : P.funcs[f]? = some fn) (hb : fn.body = some c) (E : Env) (n : Nat)
    (hn : fn.ntmps = n) (hle : args.size ≤ n) (hE : ∀ i v, get E i = some v → args[i]? = some v)
    (h : ∀ a, Sat n [] E a → c.wp P (bodyPost P fn R) a w) : Calls P f args w R := by
  refine calls_of_wp hf hb (h _ ⟨by simp [hn]; omega, rfl, fun i v hi => ?_⟩)
  have := hE i v hi
  have hlt : i < args.size := (Array.getElem?_eq_some_iff.1 this).1
  rw [Array.getElem?_append_left hlt]
  exact this
def envOf : Nat → List Value → Env
  | _, [] => []
  | i, v :: r => (i, v) :: envOf (i + 1) r
theorem get_envOf : ∀ (l : List Value) (j i : Nat) (v : Value), get (envOf j l) i = some v → j ≤ i ∧ l[i - j]? = some v
  | [], j, i, v, h => by simp [envOf, get] at h
  | u :: r, j, i, v, h => by
    simp only [envOf] at h
    by_cases e : j = i
    · subst e; rw [get_cons_eq] at h; cases h; simp
    · rw [get_cons_ne e] at h
      have := get_envOf r (j + 1) i v h
      refine ⟨by omega, ?_⟩
      have e2 : i - j = (i - (j + 1)) + 1 := by omega
      rw [e2, List.getElem?_cons_succ]; exact this.2
theorem enterL {f : FuncId} {fn : Func} {c : Code} {l : List Value} {R : Ending → World → Prop} (hf : P.funcs[f]? = some fn) (hb : fn.body = some c) (n : Nat)
    (hn : fn.ntmps = n) (hle : Nat.ble l.length n = true) (h : ∀ a, Sat n [] (envOf 0 l) a → c.wp P (bodyPost P fn R) a w) : Calls P f l.toArray w R :=
  enter hf hb (envOf 0 l) n hn (by simpa using Nat.le_of_ble_eq_true hle) (fun i v hi => by simpa using (get_envOf l 0 i v hi).2) h

end
end Go.XW
