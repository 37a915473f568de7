/- Of no program: a function that goes on in many ways behind its first part: each of the ways is carried out by itself. -/
import Derived.Test.YtcmffeaoailoiaaDoorEView3
namespace Go.EV
open Go Go.RowKit
set_option linter.unusedVariables false
set_option linter.unusedSimpArgs false

section
variable {P : Program} {cf : CF} {n base lf : Nat} {rl : List Nat}
theorem bindN_bindL (r : RS) (k : St → RS) : bindN r k = match r with
    | some l => bindL k l
    | none => none := by
  unfold bindN
  split
  · rename_i s
    simp only [bindL]
    cases k s <;> simp
  · rfl
  · rfl
theorem bindL_append (k : St → RS) : ∀ (a b : List (XE × St)), bindL k (a ++ b) = match bindL k a, bindL k b with
    | some x, some y => some (x ++ y)
    | _, _ => none
  | [], b => by simp only [List.nil_append, bindL]; cases bindL k b <;> simp
  | (.normal, s) :: r, b => by
    simp only [List.cons_append, bindL, bindL_append k r b]
    cases k s <;> cases bindL k r <;> cases bindL k b <;> simp
  | (.exit i, s) :: r, b => by
    simp only [List.cons_append, bindL, bindL_append k r b]
    cases bindL k r <;> cases bindL k b <;> simp
  | (.ret, s) :: r, b => by
    simp only [List.cons_append, bindL, bindL_append k r b]
    cases bindL k r <;> cases bindL k b <;> simp
  | (.panic d, s) :: r, b => by
    simp only [List.cons_append, bindL, bindL_append k r b]
    cases bindL k r <;> cases bindL k b <;> simp
theorem bindL_assoc (f g : St → RS) : ∀ (l : List (XE × St)), (match bindL f l with
    | some m => bindL g m
    | none => none) = bindL (fun s => bindN (f s) g) l
  | [] => rfl
  | (.normal, s) :: r => by
    have ih := bindL_assoc f g r
    generalize hk : (fun s => bindN (f s) g) = k at ih ⊢
    have hks : k s = bindN (f s) g := by rw [← hk]
    simp only [bindL, ← ih, hks]
    rw [bindN_bindL (f s)]
    cases hf : f s with
    | none => rfl
    | some a =>
      cases hr : bindL f r with
      | none => simp only; cases bindL g a <;> rfl
      | some b => simp only [bindL_append]; cases bindL g a <;> cases bindL g b <;> rfl
  | (.exit i, s) :: r => by
    have ih := bindL_assoc f g r
    simp only [bindL, ← ih]
    cases hr : bindL f r <;> simp [bindL]
  | (.ret, s) :: r => by
    have ih := bindL_assoc f g r
    simp only [bindL, ← ih]
    cases hr : bindL f r <;> simp [bindL]
  | (.panic d, s) :: r => by
    have ih := bindL_assoc f g r
    simp only [bindL, ← ih]
    cases hr : bindL f r <;> simp [bindL]
theorem bindN_assoc (r : RS) (f g : St → RS) : bindN (bindN r f) g = bindN r (fun s => bindN (f s) g) := by
  rw [bindN_bindL r, bindN_bindL, bindN_bindL r]
  cases r with
  | none => rfl
  | some l => exact bindL_assoc f g l
/-- A row of codes, cut behind its k-th one. -/
def cutC : Nat → Code → Option (Code × Code)
  | 0, .seq x y => some (x, y)
  | k + 1, .seq x y => match cutC k y with
    | some (a, b) => some (.seq x a, b)
    | none => none
  | _, _ => none
theorem cutC_spec : ∀ (k : Nat) (c a b : Code), cutC k c = some (a, b) → ∀ s, evalC P cf lf n rl c s = bindN (evalC P cf lf n rl a s) (evalC P cf lf n rl b)
  | 0, c, a, b, h, s => by
    cases c <;> simp only [cutC, Option.some.injEq, Prod.mk.injEq, reduceCtorEq] at h
    obtain ⟨rfl, rfl⟩ := h
    rfl
  | k + 1, c, a, b, h, s => by
    cases c with
    | seq x y =>
      simp only [cutC] at h
      split at h
      · rename_i a' b' hk
        simp only [Option.some.injEq, Prod.mk.injEq] at h
        obtain ⟨rfl, rfl⟩ := h
        show bindN (evalC P cf lf n rl x s) (evalC P cf lf n rl y) = bindN (bindN (evalC P cf lf n rl x s) (evalC P cf lf n rl a')) (evalC P cf lf n rl _)
        rw [bindN_assoc]
        congr 1
        funext s'
        exact cutC_spec k y a' _ hk s'
      · cases h
    | _ => simp [cutC] at h
def isT : CE → Bool
  | .val (.lit (.bool b)) => b
  | _ => false
theorem isT_spec {c : CE} (h : isT c = true) : c = .val (.lit (.bool true)) := by
  unfold isT at h
  split at h
  · rw [h]
  · cases h
def goodR : List (CE × Heap) → Bool
  | [] => true
  | (c, _) :: r => match isT c with
    | true => goodR r
    | false => false
theorem goodR_spec : ∀ {l : List (CE × Heap)}, goodR l = true → ∀ r ∈ l, r.1 = .val (.lit (.bool true))
  | [], _, r, h => by simp at h
  | (c, H) :: s, h, r, hr => by
    simp only [goodR] at h
    split at h
    · rename_i h1
      rcases List.mem_cons.1 hr with rfl | hr
      · exact isT_spec h1
      · exact goodR_spec h r hr
    · cases h
def goodO : Option (List (CE × Heap)) → Bool
  | some l => goodR l
  | none => false
noncomputable def pathR (P : Program) (cf : CF) (lf n : Nat) (rl : List Nat) (b : Code) (x : XE × St) : RS := match x with
  | (.normal, s) => evalC P cf lf n rl b s
  | (x, s) => some [(x, s)]
noncomputable def pathG (P : Program) (cf : CF) (lf : Nat) (fn : Func) (b : Code) (x : XE × St) : Bool := match pathR P cf lf fn.ntmps (resSlots fn.results.toList) b x with
  | some r => goodO (endsA P cf lf fn r)
  | none => false
noncomputable def allG (P : Program) (cf : CF) (lf : Nat) (fn : Func) (b : Code) : List (XE × St) → Bool
  | [] => true
  | x :: r => match pathG P cf lf fn b x with
    | true => allG P cf lf fn b r
    | false => false
def takeN {α : Type} : Nat → List α → List α
  | 0, _ => []
  | _ + 1, [] => []
  | n + 1, x :: r => x :: takeN n r
def dropN {α : Type} : Nat → List α → List α
  | 0, l => l
  | _ + 1, [] => []
  | n + 1, _ :: r => dropN n r
theorem takeN_dropN {α : Type} : ∀ (n : Nat) (l : List α), takeN n l ++ dropN n l = l
  | 0, _ => rfl
  | _ + 1, [] => rfl
  | n + 1, x :: r => by simp [takeN, dropN, takeN_dropN n r]
theorem dropN_dropN {α : Type} : ∀ (n m : Nat) (l : List α), dropN m (dropN n l) = dropN (n + m) l
  | 0, m, l => by simp [dropN]
  | n + 1, m, [] => by rw [show n + 1 + m = (n + m) + 1 by omega]; cases m <;> rfl
  | n + 1, m, x :: r => by rw [show n + 1 + m = (n + m) + 1 by omega]; exact dropN_dropN n m r
def emptyB {α : Type} : List α → Bool
  | [] => true
  | _ => false
/-- The ways from the i-th on, so many. -/
noncomputable def partOk (P : Program) (cf : CF) (lf : Nat) (f : FuncId) (args : List AV) (k i m : Nat) : Bool := match enterable P f, Nat.ble args.length 4000 with
  | some (fn, c), true => match Nat.ble args.length fn.ntmps, cutC k c with
    | true, some (a, b) => match evalC P cf lf fn.ntmps (resSlots fn.results.toList) a ⟨envOfA 0 args, H0, []⟩ with
      | some l => allG P cf lf fn b (takeN m (dropN i l))
      | none => false
    | _, _ => false
  | _, _ => false
/-- There are no more than so many. -/
noncomputable def noMore (P : Program) (cf : CF) (lf : Nat) (f : FuncId) (args : List AV) (k i : Nat) : Bool := match enterable P f, Nat.ble args.length 4000 with
  | some (fn, c), true => match Nat.ble args.length fn.ntmps, cutC k c with
    | true, some (a, b) => match evalC P cf lf fn.ntmps (resSlots fn.results.toList) a ⟨envOfA 0 args, H0, []⟩ with
      | some l => emptyB (dropN i l)
      | none => false
    | _, _ => false
  | _, _ => false
/-- All ways from the i-th on. -/
def FromOk (P : Program) (cf : CF) (lf : Nat) (f : FuncId) (args : List AV) (k i : Nat) : Prop := ∃ fn c a b l, enterable P f = some (fn, c) ∧ args.length ≤ 4000 ∧ args.length ≤ fn.ntmps ∧ cutC k c = some (a, b) ∧ evalC P cf lf fn.ntmps (resSlots fn.results.toList) a ⟨envOfA 0 args, H0, []⟩ = some l ∧ allG P cf lf fn b (dropN i l) = true
theorem allG_append {fn : Func} {b : Code} : ∀ {x y : List (XE × St)}, allG P cf lf fn b x = true → allG P cf lf fn b y = true → allG P cf lf fn b (x ++ y) = true
  | [], y, _, h => h
  | x :: r, y, h, h2 => by
    simp only [List.cons_append, allG] at h ⊢
    split at h
    · exact allG_append h h2
    · cases h
theorem from_end {f : FuncId} {args : List AV} {k i : Nat} (h : noMore P cf lf f args k i = true) : FromOk P cf lf f args k i := by
  unfold noMore at h
  split at h
  · rename_i fn c he hb
    split at h
    · rename_i a b hb2 hc
      split at h
      · rename_i l hl
        refine ⟨fn, c, a, b, l, he, Nat.le_of_ble_eq_true hb, Nat.le_of_ble_eq_true hb2, hc, hl, ?_⟩
        cases hd : dropN i l with
        | nil => rfl
        | cons x r => rw [hd] at h; cases h
      · cases h
    · cases h
  · cases h
theorem from_part {f : FuncId} {args : List AV} {k i m : Nat} (h : partOk P cf lf f args k i m = true) (h2 : FromOk P cf lf f args k (i + m)) : FromOk P cf lf f args k i := by
  obtain ⟨fn, c, a, b, l, e1, e2, e3, e4, e5, e6⟩ := h2
  unfold partOk at h
  rw [e1, Nat.ble_eq_true_of_le e2] at h
  simp only [Nat.ble_eq_true_of_le e3, e4, e5] at h
  refine ⟨fn, c, a, b, l, e1, e2, e3, e4, e5, ?_⟩
  rw [← takeN_dropN m (dropN i l), dropN_dropN]
  exact allG_append h e6
theorem endsA_append {fn : Func} : ∀ {x y : List (XE × St)} {a b : List (CE × Heap)}, endsA P cf lf fn x = some a → endsA P cf lf fn y = some b → endsA P cf lf fn (x ++ y) = some (a ++ b)
  | [], y, a, b, h, h2 => by simp only [endsA, Option.some.injEq] at h; subst h; simpa using h2
  | (x, s) :: r, y, a, b, h, h2 => by
    simp only [endsA] at h
    split at h
    · rename_i a1 a2 g1 g2
      cases h
      simp only [List.cons_append, endsA, g1, endsA_append g2 h2, List.append_assoc]
    · cases h
theorem goodR_append : ∀ {a b : List (CE × Heap)}, goodR a = true → goodR b = true → goodR (a ++ b) = true
  | [], b, _, h => h
  | (c, H) :: r, b, h, h2 => by
    simp only [List.cons_append, goodR] at h ⊢
    split at h
    · exact goodR_append h h2
    · cases h
theorem allG_spec {fn : Func} {b : Code} : ∀ {l : List (XE × St)}, allG P cf lf fn b l = true → ∃ rs es, bindL (evalC P cf lf fn.ntmps (resSlots fn.results.toList) b) l = some rs ∧ endsA P cf lf fn rs = some es ∧ goodR es = true
  | [], _ => ⟨[], [], rfl, rfl, rfl⟩
  | (x, s) :: r, h => by
    simp only [allG] at h
    split at h
    · rename_i h1
      obtain ⟨rs, es, g1, g2, g3⟩ := allG_spec h
      unfold pathG at h1
      split at h1
      · rename_i r1 hr1
        unfold goodO at h1
        split at h1
        · rename_i e1 he1
          cases x with
          | normal =>
            simp only [pathR] at hr1
            exact ⟨r1 ++ rs, e1 ++ es, by simp only [bindL, hr1, g1], endsA_append he1 g2, goodR_append h1 g3⟩
          | exit i =>
            simp only [pathR, Option.some.injEq] at hr1
            subst hr1
            exact ⟨_ :: rs, e1 ++ es, by simp only [bindL, g1], endsA_append he1 g2, goodR_append h1 g3⟩
          | ret =>
            simp only [pathR, Option.some.injEq] at hr1
            subst hr1
            exact ⟨_ :: rs, e1 ++ es, by simp only [bindL, g1], endsA_append he1 g2, goodR_append h1 g3⟩
          | panic d =>
            simp only [pathR, Option.some.injEq] at hr1
            subst hr1
            exact ⟨_ :: rs, e1 ++ es, by simp only [bindL, g1], endsA_append he1 g2, goodR_append h1 g3⟩
        · cases h1
      · cases h1
    · cases h
/-- Carried out in parts, all of which yield true. -/
theorem split_eq {m : Memo} {hm : List HE} (hmo : ∀ x ∈ m, Contract P x) (hho : ∀ x ∈ hm, HOk P x) (hf : P.follows .mixedOrders = true) {lf k j : Nat} {f : FuncId} {args : List AV} (ha : args.all argOk = true) (h : FromOk P (callA P (knownB m hm) lf k) lf f args j 0) : Contract P (f, args, List.replicate 1 (.lit (.bool true))) := by
  obtain ⟨fn, c, a, b, l, e1, e2, e3, e4, e5, e6⟩ := h
  obtain ⟨rs, es, g1, g2, g3⟩ := allG_spec (l := l) e6
  have hev : evalF P (callA P (knownB m hm) lf k) lf f args H0 = some es := by
    unfold evalF
    rw [e1, Nat.ble_eq_true_of_le e2]
    simp only [Nat.ble_eq_true_of_le e3]
    rw [cutC_spec j c a b e4, e5, bindN_bindL]
    simp only [g1, g2]
  intro C w vs hD
  have hD0 : Dens C0 args vs := ⟨hD.1, fun i d u hd hu => argOk_den (List.all_eq_true.1 ha d (List.mem_of_getElem? hd)) (hD.2 i d u hd hu)⟩
  refine (evalF_spec (callA_spec (knownB_ok hmo hho w.heap.size) hf k) hf f args H0 es hev C0 w vs (mem0 w) hD0).mono fun e w' he => ?_
  obtain ⟨r, hr, C', hS, hr2⟩ := he
  have hv := goodR_spec g3 r hr
  rw [hv] at hr2
  obtain ⟨v, rfl, hDv⟩ := hr2
  cases hDv
  exact ⟨_, List.mem_singleton.2 rfl, _, rfl, fun C2 => .lit _, hS.below⟩
end
end Go.EV
