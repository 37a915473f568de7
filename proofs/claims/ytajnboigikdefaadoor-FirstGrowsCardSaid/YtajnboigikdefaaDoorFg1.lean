/- Texts that the proof of a law rests on, put together: part 1. -/
import Derived.Test.YtajnboigikdefaaDoorFg0
import Derived.Below
namespace Go.EV
open Go Go.RowKit
set_option linter.unusedVariables false
set_option linter.unusedSimpArgs false
inductive Tr (α : Type) where
  | e
  | n (l : Tr α) (o : Option α) (r : Tr α)
noncomputable def Tr.get {α : Type} (t : Tr α) : Nat → Option α :=
  Tr.rec (fun _ => none) (fun _ o _ gl gr k => Nat.rec o (fun k _ => Nat.rec (gl (Nat.div k 2)) (fun _ _ => gr (Nat.div k 2)) (Nat.mod k 2)) k) t
noncomputable def Tr.set {α : Type} (v : α) (f : Nat) : Tr α → Nat → Tr α :=
  Nat.rec (fun t _ => t) (fun _ ih t k => Tr.rec
    (Nat.rec (.n .e (some v) .e) (fun k _ => Nat.rec (.n (ih .e (Nat.div k 2)) none .e) (fun _ _ => .n .e none (ih .e (Nat.div k 2))) (Nat.mod k 2)) k)
    (fun l o r _ _ => Nat.rec (.n l (some v) r) (fun k _ => Nat.rec (.n (ih l (Nat.div k 2)) o r) (fun _ _ => .n l o (ih r (Nat.div k 2))) (Nat.mod k 2)) k) t) f
section
variable {α : Type} (v : α) (f k : Nat) (l r t : Tr α) (o : Option α)
theorem Tr.get_s : (Tr.n l o r).get (k + 1) = match Nat.mod k 2 with | 0 => l.get (Nat.div k 2) | _ + 1 => r.get (Nat.div k 2) := by
  show Nat.rec (motive := fun _ => Option α) (l.get (Nat.div k 2)) (fun _ _ => r.get (Nat.div k 2)) (Nat.mod k 2) = _
  cases Nat.mod k 2 <;> rfl
theorem Tr.set_e0 : Tr.set v (f + 1) .e 0 = .n .e (some v) .e := rfl
theorem Tr.set_n0 : Tr.set v (f + 1) (.n l o r) 0 = .n l (some v) r := rfl
theorem Tr.set_es : Tr.set v (f + 1) .e (k + 1) = match Nat.mod k 2 with | 0 => .n (Tr.set v f .e (Nat.div k 2)) none .e | _ + 1 => .n .e none (Tr.set v f .e (Nat.div k 2)) := by
  show Nat.rec (motive := fun _ => Tr α) (.n (Tr.set v f .e (Nat.div k 2)) none .e) (fun _ _ => .n .e none (Tr.set v f .e (Nat.div k 2))) (Nat.mod k 2) = _
  cases Nat.mod k 2 <;> rfl
theorem Tr.set_ns : Tr.set v (f + 1) (.n l o r) (k + 1) = match Nat.mod k 2 with | 0 => .n (Tr.set v f l (Nat.div k 2)) o r | _ + 1 => .n l o (Tr.set v f r (Nat.div k 2)) := by
  show Nat.rec (motive := fun _ => Tr α) (.n (Tr.set v f l (Nat.div k 2)) o r) (fun _ _ => .n l o (Tr.set v f r (Nat.div k 2))) (Nat.mod k 2) = _
  cases Nat.mod k 2 <;> rfl
end
theorem Tr.get_set_same {α : Type} (v : α) : ∀ (f : Nat) (t : Tr α) (k : Nat), k < 2 ^ f - 1 → (Tr.set v f t k).get k = some v
  | 0, _, _, h => by simp at h
  | f + 1, .e, 0, _ => rfl
  | f + 1, .n l o r, 0, _ => rfl
  | f + 1, .e, k + 1, h => by
    have h2 : Nat.div k 2 < 2 ^ f - 1 := by
      show k / 2 < 2 ^ f - 1
      rw [Nat.pow_succ] at h; omega
    rw [Tr.set_es]
    cases hm : Nat.mod k 2 with
    | zero => simp only [Tr.get_s, hm]; exact Tr.get_set_same v f _ _ h2
    | succ m => simp only [Tr.get_s, hm]; exact Tr.get_set_same v f _ _ h2
  | f + 1, .n l o r, k + 1, h => by
    have h2 : Nat.div k 2 < 2 ^ f - 1 := by
      show k / 2 < 2 ^ f - 1
      rw [Nat.pow_succ] at h; omega
    rw [Tr.set_ns]
    cases hm : Nat.mod k 2 with
    | zero => simp only [Tr.get_s, hm]; exact Tr.get_set_same v f _ _ h2
    | succ m => simp only [Tr.get_s, hm]; exact Tr.get_set_same v f _ _ h2
theorem Tr.get_set_ne {α : Type} (v : α) : ∀ (f : Nat) (t : Tr α) (k j : Nat), j ≠ k → (Tr.set v f t k).get j = t.get j
  | 0, _, _, _, _ => rfl
  | f + 1, .e, 0, 0, h => absurd rfl h
  | f + 1, .e, 0, j + 1, _ => by rw [Tr.set_e0, Tr.get_s]; cases Nat.mod j 2 <;> rfl
  | f + 1, .n l o r, 0, 0, h => absurd rfl h
  | f + 1, .n l o r, 0, j + 1, _ => by rw [Tr.set_n0, Tr.get_s, Tr.get_s]
  | f + 1, .e, k + 1, 0, _ => by rw [Tr.set_es]; cases Nat.mod k 2 <;> rfl
  | f + 1, .n l o r, k + 1, 0, _ => by rw [Tr.set_ns]; cases Nat.mod k 2 <;> rfl
  | f + 1, .e, k + 1, j + 1, h => by
    have key : Nat.mod j 2 = Nat.mod k 2 → Nat.div j 2 ≠ Nat.div k 2 := fun h1 h2 => by
      have h1' : j % 2 = k % 2 := h1
      have h2' : j / 2 = k / 2 := h2
      omega
    have hlt : ∀ x, Nat.mod x 2 < 2 := fun x => Nat.mod_lt x (by decide)
    have h1 := hlt k
    have h2 := hlt j
    rw [Tr.set_es]
    cases hk : Nat.mod k 2 with
    | zero =>
      simp only [Tr.get_s]
      cases hj : Nat.mod j 2 with
      | zero => simp only; rw [Tr.get_set_ne v f _ _ _ (key (by omega))]; rfl
      | succ m => rfl
    | succ m =>
      simp only [Tr.get_s]
      cases hj : Nat.mod j 2 with
      | zero => rfl
      | succ m' => simp only; rw [Tr.get_set_ne v f _ _ _ (key (by omega))]; rfl
  | f + 1, .n l o r, k + 1, j + 1, h => by
    have key : Nat.mod j 2 = Nat.mod k 2 → Nat.div j 2 ≠ Nat.div k 2 := fun h1 h2 => by
      have h1' : j % 2 = k % 2 := h1
      have h2' : j / 2 = k / 2 := h2
      omega
    have hlt : ∀ x, Nat.mod x 2 < 2 := fun x => Nat.mod_lt x (by decide)
    have h1 := hlt k
    have h2 := hlt j
    rw [Tr.set_ns]
    cases hk : Nat.mod k 2 with
    | zero =>
      simp only [Tr.get_s]
      cases hj : Nat.mod j 2 with
      | zero => simp only; rw [Tr.get_set_ne v f _ _ _ (key (by omega))]
      | succ m => rfl
    | succ m =>
      simp only [Tr.get_s]
      cases hj : Nat.mod j 2 with
      | zero => rfl
      | succ m' => simp only; rw [Tr.get_set_ne v f _ _ _ (key (by omega))]
inductive AV where
  | lit (v : Value)
  | any (k : IntKind)
  | ptr (b ver off : Nat)
  | sl (b ver off len : Nat) (cap : Option Nat) (es : Nat)
  | empty
  | mp (b : Nat)
  | hole
  | agg (l : List AV)
  | tup (l : List AV)
  | iface (t : TypeId) (v : AV)
  | clo (fn : Fn) (first cap : List AV)
  | sym (s : SA)
  deriving Inhabited
structure Loc where
  blk : Nat
  off : Nat
  lo : Nat
  sz : Nat
  n : Nat
structure Cx where
  at_ : Nat → Nat → Option Loc
  unk : Sx
def Loc.ad (l : Loc) (i : Nat) : Addr := ⟨l.blk, l.off + (i - l.lo), none⟩
theorem Loc.add (l : Loc) (i j : Nat) (h : l.lo ≤ i) : (l.ad i).add j = l.ad (i + j) := by
  unfold Loc.ad Addr.add
  split
  · subst_vars; rfl
  · simp only [Addr.mk.injEq, true_and, and_true]; omega
inductive Den (C : Cx) : AV → Value → Prop
  | lit (v : Value) : Den C (.lit v) v
  | any {k : IntKind} {n : Int} (h : k.min ≤ n ∧ n ≤ k.max) : Den C (.any k) (.int k n)
  | ptr {b ver off : Nat} {loc : Loc} (h : C.at_ b ver = some loc) (h1 : loc.lo ≤ off) : Den C (.ptr b ver off) (.pointer (some (loc.ad off)))
  | sl {b ver off len : Nat} {cap : Option Nat} {es : Nat} {loc : Loc} {c : Nat} (h : C.at_ b ver = some loc) (h1 : loc.lo ≤ off) (h3 : len ≤ c) (h4 : c ≤ 9223372036854775807)
      (h5 : ∀ k, cap = some k → c = k) (h6 : loc.off + (off - loc.lo) + c * es ≤ loc.sz) : Den C (.sl b ver off len cap es) (.slice (some (loc.ad off)) len c)
  | empty (a : Addr) (c : Nat) : Den C .empty (.slice (some a) 0 c)
  | mp {b : Nat} {loc : Loc} (h : C.at_ b 0 = some loc) : Den C (.mp b) (.map (some loc.blk))
  | hole (v : Value) : Den C .hole v
  | agg {l : List AV} {vs : List Value} (hl : vs.length = l.length) (h : ∀ (i : Nat) (d : AV) (u : Value), l[i]? = some d → vs[i]? = some u → Den C d u) : Den C (.agg l) (.agg vs.toArray)
  | tup {l : List AV} {vs : List Value} (hl : vs.length = l.length) (h : ∀ (i : Nat) (d : AV) (u : Value), l[i]? = some d → vs[i]? = some u → Den C d u) : Den C (.tup l) (.tuple vs.toArray)
  | iface {t : TypeId} {d : AV} {u : Value} (h : Den C d u) : Den C (.iface t d) (.iface t u)
  | clo {fn : Fn} {l m : List AV} {vs us : List Value} (hl : vs.length = l.length) (hm : us.length = m.length) (h : ∀ (i : Nat) (d : AV) (u : Value), l[i]? = some d → vs[i]? = some u → Den C d u)
      (h' : ∀ (i : Nat) (d : AV) (u : Value), m[i]? = some d → us[i]? = some u → Den C d u) : Den C (.clo fn l m) (.func fn vs.toArray us.toArray)
  | sym {s : SA} {v : Value} (h : DenS C.unk s v) : Den C (.sym s) v
def Dens (C : Cx) (l : List AV) (vs : List Value) : Prop := vs.length = l.length ∧ ∀ (i : Nat) (d : AV) (u : Value), l[i]? = some d → vs[i]? = some u → Den C d u
structure Ext (C C' : Cx) : Prop where
  at_ : ∀ b v loc, C.at_ b v = some loc → C'.at_ b v = some loc
  unk : C'.unk = C.unk
theorem Ext.refl (C : Cx) : Ext C C := ⟨fun _ _ _ h => h, rfl⟩
theorem Ext.trans {A B C : Cx} (h : Ext A B) (k : Ext B C) : Ext A C := ⟨fun b v l x => k.at_ b v l (h.at_ b v l x), k.unk.trans h.unk⟩
theorem Den.mono {C C' : Cx} (hE : Ext C C') {d : AV} {u : Value} (h : Den C d u) : Den C' d u := by
  induction h with
  | lit v => exact .lit v
  | any h => exact .any h
  | ptr h h1 => exact .ptr (hE.at_ _ _ _ h) h1
  | empty a c => exact .empty a c
  | sl h h1 h3 h4 h5 h6 => exact .sl (hE.at_ _ _ _ h) h1 h3 h4 h5 h6
  | mp h => exact .mp (hE.at_ _ _ _ h)
  | hole v => exact .hole v
  | agg hl _ ih => exact .agg hl ih
  | tup hl _ ih => exact .tup hl ih
  | iface _ ih => exact .iface ih
  | clo hl hm _ _ ih ih' => exact .clo hl hm ih ih'
  | sym h => exact .sym (by rw [hE.unk]; exact h)
theorem Dens.mono {C C' : Cx} (hE : Ext C C') {l : List AV} {vs : List Value} (h : Dens C l vs) : Dens C' l vs := ⟨h.1, fun i d u hd hu => (h.2 i d u hd hu).mono hE⟩
theorem Dens.nil (C : Cx) : Dens C [] [] := ⟨rfl, fun i d u h => by simp at h⟩
theorem Dens.cons {C : Cx} {d : AV} {u : Value} {l : List AV} {vs : List Value} (h : Den C d u) (hs : Dens C l vs) : Dens C (d :: l) (u :: vs) :=
  ⟨by simp [hs.1], fun i e v he hv => by
    cases i with
    | zero => simp at he hv; subst he; subst hv; exact h
    | succ i => simp at he hv; exact hs.2 i e v he hv⟩
theorem Dens.cons_inv {C : Cx} {d : AV} {l : List AV} {us : List Value} (h : Dens C (d :: l) us) : ∃ u vs, us = u :: vs ∧ Den C d u ∧ Dens C l vs := by
  cases us with
  | nil => have := h.1; simp at this
  | cons u vs => exact ⟨u, vs, rfl, h.2 0 d u rfl rfl, by simpa using h.1, fun i e v he hv => h.2 (i + 1) e v (by simpa using he) (by simpa using hv)⟩
theorem Dens.nil_inv {C : Cx} {us : List Value} (h : Dens C [] us) : us = [] := List.eq_nil_of_length_eq_zero h.1
theorem Dens.append {C : Cx} {l m : List AV} {us vs : List Value} (h : Dens C l us) (k : Dens C m vs) : Dens C (l ++ m) (us ++ vs) := by
  refine ⟨by simp [h.1, k.1], fun i d u hd hu => ?_⟩
  by_cases hi : i < l.length
  · rw [List.getElem?_append_left hi] at hd
    rw [List.getElem?_append_left (by rw [h.1]; exact hi)] at hu
    exact h.2 i d u hd hu
  · rw [List.getElem?_append_right (by omega)] at hd
    rw [List.getElem?_append_right (by rw [h.1]; omega), h.1] at hu
    exact k.2 _ d u hd hu
theorem Dens.at {C : Cx} {l : List AV} {us : List Value} (h : Dens C l us) {i : Nat} {d : AV} (hd : l[i]? = some d) : ∃ u, us[i]? = some u ∧ Den C d u := by
  have hi : i < us.length := by rw [h.1]; exact (List.getElem?_eq_some_iff.1 hd).1
  exact ⟨us[i], List.getElem?_eq_getElem hi, h.2 i d _ hd (List.getElem?_eq_getElem hi)⟩
theorem Dens.drop {C : Cx} {l : List AV} {us : List Value} (h : Dens C l us) (k : Nat) : Dens C (l.drop k) (us.drop k) :=
  ⟨by simp [h.1], fun i d u hd hu => by rw [List.getElem?_drop] at hd hu; exact h.2 _ d u hd hu⟩
theorem Dens.take {C : Cx} {l : List AV} {us : List Value} (h : Dens C l us) (k : Nat) : Dens C (l.take k) (us.take k) :=
  ⟨by simp [h.1], fun i d u hd hu => by
    rw [List.getElem?_take] at hd hu
    split at hd
    · rw [if_pos (by assumption)] at hu; exact h.2 _ d u hd hu
    · cases hd⟩
theorem Dens.set {C : Cx} {l : List AV} {us : List Value} (h : Dens C l us) (k : Nat) {d : AV} {u : Value} (hd : Den C d u) : Dens C (l.set k d) (us.set k u) := by
  refine ⟨by simp [h.1], fun i e v he hv => ?_⟩
  rw [List.getElem?_set] at he hv
  by_cases hk : k = i
  · subst hk
    by_cases hl : k < l.length
    · rw [if_pos rfl, if_pos hl] at he
      rw [if_pos rfl, if_pos (by rw [h.1]; exact hl)] at hv
      cases he; cases hv; exact hd
    · rw [if_pos rfl, if_neg hl] at he; cases he
  · rw [if_neg hk] at he hv; exact h.2 i e v he hv
def flatVs (g : Value → Option AV) : List Value → Option (List AV)
  | [] => some []
  | v :: r => match g v, flatVs g r with | some d, some l => some (d :: l) | _, _ => none
def absN : Nat → Value → Option AV
  | 0, _ => none
  | n + 1, v => match v with
    | .bool _ | .int _ _ | .float _ _ | .string _ | .nilFunc | .nilIface => some (.lit v)
    | .pointer none => some (.lit v)
    | .slice none _ _ => some (.lit v)
    | .map none => some (.lit v)
    | .agg cs => (flatVs (absN n) cs.toList).map .agg
    | .tuple cs => (flatVs (absN n) cs.toList).map .tup
    | .iface t u => (absN n u).map (.iface t)
    | .func fn fs cs => match fs.toList, cs.toList with
      | [], [] => some (.clo fn [] [])
      | _, _ => none
    | _ => none
theorem flatVs_spec {C : Cx} {g : Value → Option AV} (hg : ∀ v d, g v = some d → Den C d v) : ∀ (vs : List Value) (l : List AV), flatVs g vs = some l → Dens C l vs
  | [], l, h => by simp [flatVs] at h; subst h; exact Dens.nil C
  | v :: r, l, h => by
    simp only [flatVs] at h
    split at h
    · rename_i d m hd hm
      simp only [Option.some.injEq] at h
      subst h
      exact .cons (hg v d hd) (flatVs_spec hg r m hm)
    · cases h
theorem absN_spec (C : Cx) : ∀ (n : Nat) (v : Value) (d : AV), absN n v = some d → Den C d v
  | 0, _, _, h => by simp [absN] at h
  | n + 1, v, d, h => by
    have ih := absN_spec C n
    cases v with
    | bool b => simp only [absN, Option.some.injEq] at h; subst h; exact .lit _
    | int k n => simp only [absN, Option.some.injEq] at h; subst h; exact .lit _
    | float k n => simp only [absN, Option.some.injEq] at h; subst h; exact .lit _
    | complex => simp [absN] at h
    | string s => simp only [absN, Option.some.injEq] at h; subst h; exact .lit _
    | pointer a => cases a with
      | none => simp only [absN, Option.some.injEq] at h; subst h; exact .lit _
      | some a => simp [absN] at h
    | slice a l c => cases a with
      | none => simp only [absN, Option.some.injEq] at h; subst h; exact .lit _
      | some a => simp [absN] at h
    | map r => cases r with
      | none => simp only [absN, Option.some.injEq] at h; subst h; exact .lit _
      | some a => simp [absN] at h
    | chan => simp [absN] at h
    | func fn fs cs =>
      simp only [absN] at h
      split at h
      · rename_i h1 h2
        simp only [Option.some.injEq] at h
        subst h
        have e1 : fs = #[] := by apply Array.ext'; simpa using h1
        have e2 : cs = #[] := by apply Array.ext'; simpa using h2
        subst e1; subst e2
        exact .clo (vs := []) (us := []) rfl rfl (fun i d u h => by simp at h) (fun i d u h => by simp at h)
      · cases h
    | nilFunc => simp only [absN, Option.some.injEq] at h; subst h; exact .lit _
    | iface t u =>
      simp only [absN, Option.map_eq_some_iff] at h
      obtain ⟨d', hd, rfl⟩ := h
      exact .iface (ih u d' hd)
    | nilIface => simp only [absN, Option.some.injEq] at h; subst h; exact .lit _
    | agg cs =>
      simp only [absN, Option.map_eq_some_iff] at h
      obtain ⟨l, hl, rfl⟩ := h
      have := flatVs_spec (C := C) ih cs.toList l hl
      exact .agg (vs := cs.toList) this.1 this.2
    | tuple cs =>
      simp only [absN, Option.map_eq_some_iff] at h
      obtain ⟨l, hl, rfl⟩ := h
      have := flatVs_spec (C := C) ih cs.toList l hl
      exact .tup (vs := cs.toList) this.1 this.2
def flatDs (g : AV → Option Value) : List AV → Option (List Value)
  | [] => some []
  | v :: r => match g v, flatDs g r with | some d, some l => some (d :: l) | _, _ => none
def concN : Nat → AV → Option Value
  | 0, _ => none
  | n + 1, d => match d with
    | .lit v => some v
    | .agg l => (flatDs (concN n) l).map fun vs => .agg vs.toArray
    | .tup l => (flatDs (concN n) l).map fun vs => .tuple vs.toArray
    | .iface t u => (concN n u).map (.iface t)
    | .clo fn l m => match l, m with
      | [], [] => some (.func fn #[] #[])
      | _, _ => none
    | _ => none
theorem flatDs_spec {C : Cx} {g : AV → Option Value} (hg : ∀ d v v', g d = some v → Den C d v' → v' = v) : ∀ (l : List AV) (vs vs' : List Value), flatDs g l = some vs → Dens C l vs' → vs' = vs
  | [], vs, vs', h, hd => by simp [flatDs] at h; subst h; exact hd.nil_inv
  | d :: r, vs, vs', h, hd => by
    simp only [flatDs] at h
    split at h
    · rename_i v m hv hm
      simp only [Option.some.injEq] at h
      subst h
      obtain ⟨u, us, rfl, h1, h2⟩ := hd.cons_inv
      rw [hg d v u hv h1, flatDs_spec hg r m us hm h2]
    · cases h
theorem concN_spec (C : Cx) : ∀ (n : Nat) (d : AV) (v v' : Value), concN n d = some v → Den C d v' → v' = v
  | 0, _, _, _, h, _ => by simp [concN] at h
  | n + 1, d, v, v', h, hd => by
    have ih := concN_spec C n
    cases hd with
    | lit u => simp only [concN, Option.some.injEq] at h; exact h
    | any => simp [concN] at h
    | ptr => simp [concN] at h
    | sl => simp [concN] at h
    | empty => simp [concN] at h
    | mp => simp [concN] at h
    | hole => simp [concN] at h
    | sym => simp [concN] at h
    | @clo fn l m vs us hl hm _ _ =>
      simp only [concN] at h
      split at h
      · cases h
        have e1 : vs = [] := List.eq_nil_of_length_eq_zero hl
        have e2 : us = [] := List.eq_nil_of_length_eq_zero hm
        subst e1; subst e2
        rfl
      · cases h
    | @agg l vs hl hh =>
      simp only [concN, Option.map_eq_some_iff] at h
      obtain ⟨us, hu, rfl⟩ := h
      rw [flatDs_spec ih l us vs hu ⟨hl, hh⟩]
    | @tup l vs hl hh =>
      simp only [concN, Option.map_eq_some_iff] at h
      obtain ⟨us, hu, rfl⟩ := h
      rw [flatDs_spec ih l us vs hu ⟨hl, hh⟩]
    | @iface t d' u hh =>
      simp only [concN, Option.map_eq_some_iff] at h
      obtain ⟨u', hu, rfl⟩ := h
      rw [ih d' u' u hu hh]
inductive AObj where
  | iter (s : ByteArray) (pos : Nat)
  | map (es : List (AV × AV × Nat)) (clock : Nat)
inductive ObjOk (C : Cx) : AObj → Obj → Prop
  | iter (s : ByteArray) (pos : Nat) : ObjOk C (.iter s pos) (.stringIter s pos)
  | map {es : List (AV × AV × Nat)} {clock : Nat} {en : Array MapEntry} (hl : en.size = es.length) (h : ∀ (i : Nat) (x : AV × AV × Nat) (y : MapEntry), es[i]? = some x → en[i]? = some y → Den C x.1 y.key ∧ Den C x.2.1 y.val ∧ y.born = x.2.2) : ObjOk C (.map es clock) (.map en clock)
theorem ObjOk.mono {C C' : Cx} (hE : Ext C C') {a : AObj} {o : Obj} (h : ObjOk C a o) : ObjOk C' a o := by
  cases h with
  | iter => exact .iter _ _
  | map hl h => exact .map hl (fun i x y hx hy => let ⟨h1, h2, h3⟩ := h i x y hx hy; ⟨h1.mono hE, h2.mono hE, h3⟩)
structure Blk where
  cells : List AV
  elem : TypeId
  vers : List (Nat × Nat)
  next : Nat
  fz : Nat
  ro : Bool
  stamp : Nat
  obj : Option AObj
structure Heap where
  t : Tr Blk
  nb : Nat
def FUEL : Nat := 40
noncomputable def Heap.get (H : Heap) (b : Nat) : Option Blk := H.t.get b
noncomputable def Heap.set (H : Heap) (b : Nat) (B : Blk) : Heap := ⟨Tr.set B FUEL H.t b, H.nb⟩
noncomputable def Heap.push (H : Heap) (B : Blk) : Heap := ⟨Tr.set B FUEL H.t H.nb, H.nb + 1⟩
structure Local (C : Cx) (b : Nat) (B : Blk) (base : Nat) (w : World) : Prop where
  dom : ∀ v n, (v, n) ∈ B.vers → ∃ loc, C.at_ b v = some loc ∧ loc.n = n
  ver : ∀ v loc, C.at_ b v = some loc → v < B.next ∧ loc.blk < w.heap.size
  obj : ∀ v n loc, (v, n) ∈ B.vers → C.at_ b v = some loc → ∃ arr lo hi, w.heap[loc.blk]? = some (.cells arr B.elem (lo, hi)) ∧ arr.size = loc.sz ∧ hi ≤ loc.off + (B.fz - loc.lo)
  cell : ∀ v n loc, (v, n) ∈ B.vers → C.at_ b v = some loc → ∀ i, loc.lo ≤ i → i < n → ∃ d u, B.cells[i]? = some d ∧ w.cell? (loc.ad i) = some u ∧ Den C d u
  fam : ∀ v n v' n' loc loc', (v, n) ∈ B.vers → (v', n') ∈ B.vers → C.at_ b v = some loc → C.at_ b v' = some loc' → loc.blk = loc'.blk → loc.off + loc'.lo = loc'.off + loc.lo
  own : B.ro = false → ∀ v loc, C.at_ b v = some loc → base ≤ loc.blk
  objs : ∀ a, B.obj = some a → ∃ loc o, C.at_ b 0 = some loc ∧ w.heap[loc.blk]? = some o ∧ ObjOk C a o ∧ loc.off = 0 ∧ loc.lo = 0
  at0 : ∀ loc, C.at_ b 0 = some loc → loc.off = 0 ∧ loc.lo = 0
structure Mem (C : Cx) (H : Heap) (base : Nat) (w : World) : Prop where
  blk : ∀ b B, H.get b = some B → b < H.nb ∧ Local C b B base w
  known : ∀ b v loc, C.at_ b v = some loc → ∃ B, H.get b = some B
  sep : ∀ b v loc b' v' loc', C.at_ b v = some loc → C.at_ b' v' = some loc' → b ≠ b' → loc.blk ≠ loc'.blk
  base : base ≤ w.heap.size
theorem cell_of_heap {w w' : World} {a : Addr} (h : w'.heap[a.block]? = w.heap[a.block]?) : w'.cell? a = w.cell? a := by simp [World.cell?, h]
theorem Local.keep {C C' : Cx} {b : Nat} {B : Blk} {base : Nat} {w w' : World} (h : Local C b B base w) (hE : Ext C C') (hb : ∀ v, C'.at_ b v = C.at_ b v)
    (hw : ∀ v loc, C.at_ b v = some loc → w'.heap[loc.blk]? = w.heap[loc.blk]?) (hs : w.heap.size ≤ w'.heap.size) : Local C' b B base w' := by
  refine ⟨fun v n hv => ?_, fun v loc hl => ?_, fun v n loc hv hl => ?_, fun v n loc hv hl i h1 h2 => ?_, fun v n v' n' loc loc' hv hv' hl hl' hbk => ?_, fun hr v loc hl => ?_, fun a ha => ?_, fun loc hl => by rw [hb] at hl; exact h.at0 loc hl⟩
  · rw [hb]; exact h.dom v n hv
  · rw [hb] at hl
    have := h.ver v loc hl
    exact ⟨this.1, by omega⟩
  · rw [hb] at hl
    rw [hw v loc hl]; exact h.obj v n loc hv hl
  · rw [hb] at hl
    obtain ⟨d, u, hd, hu, hD⟩ := h.cell v n loc hv hl i h1 h2
    exact ⟨d, u, hd, by rw [cell_of_heap (w := w) (hw v loc hl)]; exact hu, hD.mono hE⟩
  · rw [hb] at hl hl'; exact h.fam v n v' n' loc loc' hv hv' hl hl' hbk
  · rw [hb] at hl; exact h.own hr v loc hl
  · obtain ⟨loc, o, h1, h2, h3, h4⟩ := h.objs a ha
    exact ⟨loc, o, by rw [hb]; exact h1, by rw [hw 0 loc h1]; exact h2, h3.mono hE, h4⟩
theorem Mem.upd {C C' : Cx} {H H' : Heap} {base b : Nat} {B' : Blk} {w w' : World} (h : Mem C H base w) (hE : Ext C C') (hC : ∀ b' v, b' ≠ b → C'.at_ b' v = C.at_ b' v)
    (hg : H'.get b = some B') (hn : ∀ b', b' ≠ b → H'.get b' = H.get b') (hnb : H.nb ≤ H'.nb) (hlt : b < H'.nb) (hL : Local C' b B' base w')
    (hw : ∀ k, k < w.heap.size → (∀ v loc, C.at_ b v = some loc → loc.blk ≠ k) → w'.heap[k]? = w.heap[k]?) (hs : w.heap.size ≤ w'.heap.size)
    (hnew : ∀ v loc, C'.at_ b v = some loc → (∃ v0 loc0, C.at_ b v0 = some loc0 ∧ loc0.blk = loc.blk) ∨ w.heap.size ≤ loc.blk ∨ ∀ b' v' l', C.at_ b' v' = some l' → l'.blk ≠ loc.blk) : Mem C' H' base w' := by
  have hblk : ∀ b' v loc, C.at_ b' v = some loc → loc.blk < w.heap.size := fun b' v loc hl => by
    obtain ⟨B, hB⟩ := h.known b' v loc hl
    exact ((h.blk b' B hB).2.ver v loc hl).2
  refine ⟨fun b' B hB => ?_, fun b' v loc hl => ?_, fun b1 v1 l1 b2 v2 l2 h1 h2 hne => ?_, Nat.le_trans h.base hs⟩
  · by_cases e : b' = b
    · subst e
      rw [hg] at hB; cases hB
      exact ⟨hlt, hL⟩
    · rw [hn b' e] at hB
      obtain ⟨h1, h2⟩ := h.blk b' B hB
      refine ⟨by omega, h2.keep hE (fun v => hC b' v e) (fun v loc hl => hw _ (hblk b' v loc hl) (fun v0 loc0 h0 => ?_)) hs⟩
      exact h.sep b v0 loc0 b' v loc h0 hl (fun x => e x.symm)
  · by_cases e : b' = b
    · subst e; exact ⟨B', hg⟩
    · rw [hC b' v e] at hl
      obtain ⟨B, hB⟩ := h.known b' v loc hl
      exact ⟨B, by rw [hn b' e]; exact hB⟩
  · by_cases e1 : b1 = b
    · subst e1
      have e2 : b2 ≠ b1 := fun x => hne x.symm
      rw [hC b2 v2 e2] at h2
      rcases hnew v1 l1 h1 with ⟨v0, l0, h0, hb0⟩ | hge | hap
      · rw [← hb0]; exact h.sep b1 v0 l0 b2 v2 l2 h0 h2 hne
      · have := hblk b2 v2 l2 h2; omega
      · exact fun e => hap b2 v2 l2 h2 e.symm
    · rw [hC b1 v1 e1] at h1
      by_cases e2 : b2 = b
      · subst e2
        rcases hnew v2 l2 h2 with ⟨v0, l0, h0, hb0⟩ | hge | hap
        · rw [← hb0]; exact h.sep b1 v1 l1 b2 v0 l0 h1 h0 hne
        · have := hblk b1 v1 l1 h1; omega
        · exact hap b1 v1 l1 h1
      · rw [hC b2 v2 e2] at h2
        exact h.sep b1 v1 l1 b2 v2 l2 h1 h2 hne
structure Step (C C' : Cx) (H H' : Heap) (base : Nat) (w w' : World) : Prop where
  ext : Ext C C'
  mem : Mem C' H' base w'
  below : Below base w w'
  keep : ∀ b B, H.get b = some B → ∃ B', H'.get b = some B' ∧ B.stamp ≤ B'.stamp ∧ (B'.stamp = B.stamp → ∀ v loc, C.at_ b v = some loc → w'.heap[loc.blk]? = w.heap[loc.blk]?)
  rest : ∀ k, k < w.heap.size → (∀ b v loc, C.at_ b v = some loc → loc.blk ≠ k) → w'.heap[k]? = w.heap[k]? ∧ ∀ b v loc, C'.at_ b v = some loc → loc.blk ≠ k
theorem Step.refl {C : Cx} {H : Heap} {base : Nat} {w : World} (h : Mem C H base w) : Step C C H H base w w :=
  ⟨.refl C, h, Below.refl _ _, fun b B hB => ⟨B, hB, Nat.le_refl _, fun _ _ _ _ => rfl⟩, fun k _ hn => ⟨rfl, hn⟩⟩
theorem Step.trans {A B C : Cx} {H I J : Heap} {base : Nat} {u v w : World} (h : Step A B H I base u v) (k : Step B C I J base v w) : Step A C H J base u w := by
  refine ⟨h.ext.trans k.ext, k.mem, h.below.trans k.below, fun b X hX => ?_, fun j hj hn => ?_⟩
  · obtain ⟨Y, hY, h1, h2⟩ := h.keep b X hX
    obtain ⟨Z, hZ, h3, h4⟩ := k.keep b Y hY
    refine ⟨Z, hZ, by omega, fun e x loc hl => ?_⟩
    rw [h4 (by omega) x loc (h.ext.at_ _ _ _ hl), h2 (by omega) x loc hl]
  · obtain ⟨h5, h6⟩ := h.rest j hj hn
    obtain ⟨h7, h8⟩ := k.rest j (by have := h.below.size; omega) h6
    exact ⟨h7.trans h5, h8⟩
theorem Step.same {C : Cx} {H : Heap} {base : Nat} {w w' : World} (h : Mem C H base w) (hb : Below w.heap.size w w') : Step C C H H base w w' := by
  have hblk : ∀ b v loc, C.at_ b v = some loc → w'.heap[loc.blk]? = w.heap[loc.blk]? := fun b v loc hl => by
    obtain ⟨B, hB⟩ := h.known b v loc hl
    exact hb.block _ ((h.blk b B hB).2.ver v loc hl).2
  refine ⟨.refl C, ⟨fun b B hB => ⟨(h.blk b B hB).1, (h.blk b B hB).2.keep (.refl C) (fun _ => rfl) (fun v loc hl => hblk b v loc hl) hb.size⟩, h.known, h.sep, Nat.le_trans h.base hb.size⟩, hb.mono h.base, fun b B hB => ⟨B, hB, Nat.le_refl _, fun _ v loc hl => hblk b v loc hl⟩, fun k hk hn => ⟨hb.block k hk, hn⟩⟩
end Go.EV
