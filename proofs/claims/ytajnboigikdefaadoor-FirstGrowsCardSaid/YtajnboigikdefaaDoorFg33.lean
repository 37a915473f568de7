/- Texts that the proof of a law rests on, put together: part 33. -/
import Derived.Test.YtajnboigikdefaaDoorFg32
namespace Go.EV
open Go Go.RowKit
set_option linter.unusedVariables false
set_option linter.unusedSimpArgs false
noncomputable def trOf {α : Type} : Nat → List α → Tr α
  | _, [] => .e
  | i, d :: r => Tr.set d FUEL (trOf (i + 1) r) i
theorem trOf_get {α : Type} : ∀ (l : List α) (i k : Nat), i + l.length < 2 ^ 40 - 1 → (trOf i l).get k = if i ≤ k then l[k - i]? else none
  | [], i, k, _ => by simp [trOf, Tr.get]
  | d :: r, i, k, h => by
    simp only [trOf]
    simp only [List.length_cons] at h
    by_cases e : k = i
    · subst e
      rw [Tr.get_set_same d FUEL _ k (by simp only [FUEL]; omega)]
      simp
    · rw [Tr.get_set_ne d FUEL _ i k e, trOf_get r (i + 1) k (by omega)]
      by_cases h1 : i ≤ k
      · rw [if_pos (show i + 1 ≤ k by omega), if_pos h1, show k - i = (k - (i + 1)) + 1 by omega, List.getElem?_cons_succ]
      · rw [if_neg h1, if_neg (by omega)]
noncomputable def ofL (l : List Blk) : Heap := ⟨trOf 0 l, l.length⟩
def small (n : Nat) : Bool := Nat.ble n 1000000
theorem small_lt {n : Nat} (h : small n = true) : n < 2 ^ 40 - 1 := by
  have := Nat.le_of_ble_eq_true h
  omega
theorem ofL_get {l : List Blk} (h : l.length < 2 ^ 40 - 1) (k : Nat) : (ofL l).get k = l[k]? := by
  show (trOf 0 l).get k = _
  rw [trOf_get l 0 k (by omega)]
  simp
def eqFn : Fn → Fn → Bool
  | .func a, .func b => Nat.beq a b
  | _, _ => false
theorem eqFn_spec {a b : Fn} (h : eqFn a b = true) : a = b := by
  cases a <;> cases b <;> simp only [eqFn, Bool.false_eq_true] at h
  rw [Nat.eq_of_beq_eq_true h]
def eqCap : Option Nat → Option Nat → Bool
  | none, none => true
  | some a, some b => Nat.beq a b
  | _, _ => false
theorem eqCap_spec {a b : Option Nat} (h : eqCap a b = true) : a = b := by
  cases a <;> cases b <;> simp only [eqCap, Bool.false_eq_true] at h
  · rfl
  · rw [Nat.eq_of_beq_eq_true h]
section
variable (R : Nat → Nat → Nat → Bool)
def eqLs (g : AV → AV → Bool) : List AV → List AV → Bool
  | [], [] => true
  | a :: r, b :: s => match g a b with
    | true => eqLs g r s
    | false => false
  | _, _ => false
def eqN : Nat → AV → AV → Bool
  | 0, _, _ => false
  | n + 1, a0, a => match a0 with
    | .sym _ => false
    | .hole => true
    | .lit u => match a with
      | .lit v => beqV u v
      | _ => false
    | .any k => match a with
      | .any l => Nat.beq (kindN k) (kindN l)
      | _ => false
    | .ptr b0 v0 o0 => match a with
      | .ptr b v o => R b0 v0 b && (Nat.beq v0 v && Nat.beq o0 o)
      | _ => false
    | .sl b0 v0 o0 l0 c0 e0 => match a with
      | .sl b v o l c e => R b0 v0 b && (Nat.beq v0 v && (Nat.beq o0 o && (Nat.beq l0 l && (eqCap c0 c && Nat.beq e0 e))))
      | _ => false
    | .empty => match a with
      | .empty => true
      | _ => false
    | .mp b0 => match a with
      | .mp b => R b0 0 b
      | _ => false
    | .agg l0 => match a with
      | .agg l => eqLs (eqN n) l0 l
      | _ => false
    | .tup l0 => match a with
      | .tup l => eqLs (eqN n) l0 l
      | _ => false
    | .iface t0 x0 => match a with
      | .iface t x => Nat.beq t0 t && eqN n x0 x
      | _ => false
    | .clo f0 l0 m0 => match a with
      | .clo f l m => eqFn f0 f && (eqLs (eqN n) l0 l && eqLs (eqN n) m0 m)
      | _ => false
variable {R} {C0 C : Cx}
theorem eqLs_dens {g : AV → AV → Bool} (hg : ∀ a0 a v, g a0 a = true → Den C a v → Den C0 a0 v) : ∀ {l0 l : List AV} {vs : List Value}, eqLs g l0 l = true → Dens C l vs → Dens C0 l0 vs
  | [], [], vs, _, hd => by rw [hd.nil_inv]; exact .nil _
  | [], _ :: _, vs, h, _ => by simp [eqLs] at h
  | _ :: _, [], vs, h, _ => by simp [eqLs] at h
  | a :: r, b :: s, vs, h, hd => by
    simp only [eqLs] at h
    split at h
    · obtain ⟨u, us, rfl, h1, h2⟩ := hd.cons_inv
      exact .cons (hg _ _ _ (by assumption) h1) (eqLs_dens hg h h2)
    · cases h
theorem eqN_den (hR : ∀ b0 ver b, R b0 ver b = true → ∀ loc, C.at_ b ver = some loc → C0.at_ b0 ver = some loc) : ∀ (n : Nat) (a0 a : AV) (v : Value), eqN R n a0 a = true → Den C a v → Den C0 a0 v
  | 0, _, _, _, h, _ => by simp [eqN] at h
  | n + 1, a0, a, v, h, hd => by
    have ih := eqN_den hR n
    cases a0 with
    | sym => simp [eqN] at h
    | hole => exact .hole v
    | lit u =>
      cases a <;> simp only [eqN, Bool.false_eq_true] at h
      rw [beqV_spec h]
      cases hd
      exact .lit _
    | any k =>
      cases a <;> simp only [eqN, Bool.false_eq_true] at h
      rw [kindN_inj h]
      cases hd with
      | any h => exact .any h
    | ptr b0 v0 o0 =>
      cases a <;> simp only [eqN, Bool.false_eq_true, Bool.and_eq_true] at h
      obtain ⟨h1, h2, h3⟩ := h
      rw [Nat.eq_of_beq_eq_true h2, Nat.eq_of_beq_eq_true h3]
      rw [Nat.eq_of_beq_eq_true h2] at h1
      cases hd with
      | ptr h4 h5 => exact .ptr (hR _ _ _ h1 _ h4) h5
    | sl b0 v0 o0 l0 c0 e0 =>
      cases a <;> simp only [eqN, Bool.false_eq_true, Bool.and_eq_true] at h
      obtain ⟨h1, h2, h3, h4, h5, h6⟩ := h
      rw [Nat.eq_of_beq_eq_true h2, Nat.eq_of_beq_eq_true h3, Nat.eq_of_beq_eq_true h4, eqCap_spec h5, Nat.eq_of_beq_eq_true h6]
      rw [Nat.eq_of_beq_eq_true h2] at h1
      cases hd with
      | sl g1 g2 g3 g4 g5 g6 => exact .sl (hR _ _ _ h1 _ g1) g2 g3 g4 g5 g6
    | empty =>
      cases a <;> simp only [eqN, Bool.false_eq_true] at h
      cases hd
      exact .empty _ _
    | mp b0 =>
      cases a <;> simp only [eqN, Bool.false_eq_true] at h
      cases hd with
      | mp h1 => exact .mp (hR _ _ _ h _ h1)
    | agg l0 =>
      cases a <;> simp only [eqN, Bool.false_eq_true] at h
      cases hd with
      | agg hl hh =>
        have := eqLs_dens ih h ⟨hl, hh⟩
        exact .agg this.1 this.2
    | tup l0 =>
      cases a <;> simp only [eqN, Bool.false_eq_true] at h
      cases hd with
      | tup hl hh =>
        have := eqLs_dens ih h ⟨hl, hh⟩
        exact .tup this.1 this.2
    | iface t0 x0 =>
      cases a <;> simp only [eqN, Bool.false_eq_true, Bool.and_eq_true] at h
      rw [Nat.eq_of_beq_eq_true h.1]
      cases hd with
      | iface h1 => exact .iface (ih _ _ _ h.2 h1)
    | clo f0 l0 m0 =>
      cases a <;> simp only [eqN, Bool.false_eq_true, Bool.and_eq_true] at h
      rw [eqFn_spec h.1]
      cases hd with
      | clo hl hm h1 h2 =>
        have e1 := eqLs_dens ih h.2.1 ⟨hl, h1⟩
        have e2 := eqLs_dens ih h.2.2 ⟨hm, h2⟩
        exact .clo e1.1 e2.1 e1.2 e2.2
def eqVs : List (Nat × Nat) → List (Nat × Nat) → Bool
  | [], [] => true
  | (a, b) :: r, (c, d) :: s => Nat.beq a c && (Nat.beq b d && eqVs r s)
  | _, _ => false
theorem eqVs_spec : ∀ {a b : List (Nat × Nat)}, eqVs a b = true → a = b
  | [], [], _ => rfl
  | [], _ :: _, h => by simp [eqVs] at h
  | _ :: _, [], h => by simp [eqVs] at h
  | (a, b) :: r, (c, d) :: s, h => by
    simp only [eqVs, Bool.and_eq_true] at h
    rw [Nat.eq_of_beq_eq_true h.1, Nat.eq_of_beq_eq_true h.2.1, eqVs_spec h.2.2]
def eqRo : Bool → Bool → Bool
  | true, true => true
  | false, false => true
  | _, _ => false
def eqEs (g : AV → AV → Bool) : List (AV × AV × Nat) → List (AV × AV × Nat) → Bool
  | [], [] => true
  | (k0, v0, b0) :: r, (k, v, b) :: s => match g k0 k with
    | true => match g v0 v with
      | true => match Nat.beq b0 b with
        | true => eqEs g r s
        | false => false
      | false => false
    | false => false
  | _, _ => false
theorem eqEs_spec {g : AV → AV → Bool} (hg : ∀ a0 a v, g a0 a = true → Den C a v → Den C0 a0 v) : ∀ {es0 es : List (AV × AV × Nat)}, eqEs g es0 es = true → es0.length = es.length ∧ ∀ (i : Nat) (x0 x : AV × AV × Nat), es0[i]? = some x0 → es[i]? = some x → (∀ v, Den C x.1 v → Den C0 x0.1 v) ∧ (∀ v, Den C x.2.1 v → Den C0 x0.2.1 v) ∧ x0.2.2 = x.2.2
  | [], [], _ => ⟨rfl, fun i x0 x h => by simp at h⟩
  | [], _ :: _, h => by simp [eqEs] at h
  | _ :: _, [], h => by simp [eqEs] at h
  | (k0, v0, b0) :: r, (k, v, b) :: s, h => by
    simp only [eqEs] at h
    split at h
    · rename_i h1
      split at h
      · rename_i h2
        split at h
        · rename_i h3
          obtain ⟨g1, g2⟩ := eqEs_spec hg h
          refine ⟨by simp [g1], fun i x0 x hx0 hx => ?_⟩
          cases i with
          | zero => simp at hx0 hx; subst hx0; subst hx; exact ⟨fun v => hg _ _ v h1, fun v => hg _ _ v h2, Nat.eq_of_beq_eq_true h3⟩
          | succ i => simp at hx0 hx; exact g2 i x0 x hx0 hx
        · cases h
      · cases h
    · cases h
variable (R) in
def eqObj : Option AObj → Option AObj → Bool
  | none, none => true
  | some (.map es0 c0), some (.map es c) => match Nat.beq c0 c with
    | true => eqEs (eqN R 12) es0 es
    | false => false
  | _, _ => false
variable (R) in
def eqBlk (B0 B : Blk) : Bool := Nat.beq B0.elem B.elem && (eqLs (eqN R 12) B0.cells B.cells && (eqVs B0.vers B.vers && (Nat.beq B0.next B.next && (Nat.beq B0.fz B.fz && (eqRo B0.ro B.ro && eqObj R B0.obj B.obj)))))
theorem eqLs_get {g : AV → AV → Bool} : ∀ {l0 l : List AV}, eqLs g l0 l = true → ∀ (i : Nat) (d : AV), l[i]? = some d → ∃ d0, l0[i]? = some d0 ∧ g d0 d = true
  | [], [], _, i, d, hd => by simp at hd
  | [], _ :: _, h, _, _, _ => by simp [eqLs] at h
  | _ :: _, [], h, _, _, _ => by simp [eqLs] at h
  | a :: r, b :: s, h, i, d, hd => by
    simp only [eqLs] at h
    split at h
    · cases i with
      | zero => simp at hd; subst hd; exact ⟨a, rfl, by assumption⟩
      | succ i => simp at hd; simpa using eqLs_get h i d hd
    · cases h
theorem local_view (hR : ∀ b0 ver b, R b0 ver b = true → ∀ loc, C.at_ b ver = some loc → C0.at_ b0 ver = some loc) {b0 b base : Nat} {B0 B : Blk} {w : World} (h : eqBlk R B0 B = true) (hat : ∀ v, C0.at_ b0 v = C.at_ b v)
    (hL : Local C b B base w) : Local C0 b0 B0 base w := by
  simp only [eqBlk, Bool.and_eq_true] at h
  obtain ⟨h1, h2, h3, h4, h5, h6, h7⟩ := h
  have e1 := Nat.eq_of_beq_eq_true h1
  have e3 := eqVs_spec h3
  have e4 := Nat.eq_of_beq_eq_true h4
  have e5 := Nat.eq_of_beq_eq_true h5
  have e6 : B0.ro = B.ro := by
    revert h6; cases B0.ro <;> cases B.ro <;> simp [eqRo]
  refine ⟨fun v n hv => ?_, fun v loc hl => ?_, fun v n loc hv hl => ?_, fun v n loc hv hl i g1 g2 => ?_, fun v n v' n' loc loc' hv hv' hl hl' hb => ?_, fun hr v loc hl => ?_, fun a ha => ?_, fun loc hl => by rw [hat] at hl; exact hL.at0 loc hl⟩
  · rw [hat]; rw [e3] at hv; exact hL.dom v n hv
  · rw [hat] at hl; rw [e4]; exact hL.ver v loc hl
  · rw [hat] at hl; rw [e3] at hv; rw [e1, e5]; exact hL.obj v n loc hv hl
  · rw [hat] at hl; rw [e3] at hv
    obtain ⟨d, u, k1, k2, k3⟩ := hL.cell v n loc hv hl i g1 g2
    obtain ⟨d0, k4, k5⟩ := eqLs_get h2 i d k1
    exact ⟨d0, u, k4, k2, eqN_den hR 12 d0 d u k5 k3⟩
  · rw [hat] at hl hl'; rw [e3] at hv hv'; exact hL.fam v n v' n' loc loc' hv hv' hl hl' hb
  · rw [hat] at hl; rw [e6] at hr; exact hL.own hr v loc hl
  · rw [ha] at h7
    cases hB : B.obj with
    | none => rw [hB] at h7; cases a <;> simp [eqObj] at h7
    | some b =>
      rw [hB] at h7
      cases a with
      | iter s p => cases b <;> simp [eqObj] at h7
      | map es0 c0 =>
        cases b with
        | iter s p => simp [eqObj] at h7
        | map es c =>
          simp only [eqObj] at h7
          split at h7
          · rename_i hc
            obtain ⟨g1, g2⟩ := eqEs_spec (C := C) (C0 := C0) (fun a0 a v => eqN_den hR 12 a0 a v) h7
            obtain ⟨loc, o, o1, o2, o3, o4⟩ := hL.objs _ hB
            refine ⟨loc, o, by rw [hat]; exact o1, o2, ?_, o4⟩
            cases o3 with
            | @map _ _ en hl hen =>
              rw [Nat.eq_of_beq_eq_true hc]
              refine .map (by omega) (fun i x y hx hy => ?_)
              have hi : i < es.length := by rw [← g1]; exact (List.getElem?_eq_some_iff.1 hx).1
              obtain ⟨q1, q2, q3⟩ := g2 i x _ hx (List.getElem?_eq_getElem hi)
              obtain ⟨p1, p2, p3⟩ := hen i _ y (List.getElem?_eq_getElem hi) hy
              exact ⟨q1 _ p1, q2 _ p2, by rw [q3]; exact p3⟩
          · cases h7
end
noncomputable def renN (ρ : Nat → Nat) : Nat → AV → AV
  | 0, _ => .hole
  | n + 1, a => match a with
    | .ptr b v o => .ptr (ρ b) v o
    | .sl b v o l c e => .sl (ρ b) v o l c e
    | .mp b => .mp (ρ b)
    | .agg l => .agg (l.map (renN ρ n))
    | .tup l => .tup (l.map (renN ρ n))
    | .iface t d => .iface t (renN ρ n d)
    | .clo f l m => .clo f (l.map (renN ρ n)) (m.map (renN ρ n))
    | .lit v => .lit v
    | .any k => .any k
    | .empty => .empty
    | .hole => .hole
    | .sym _ => .hole
section
variable {C1 C' : Cx} {ρ : Nat → Nat}
theorem map_dens {g : AV → AV} (hg : ∀ d v, Den C1 d v → Den C' (g d) v) {l : List AV} {vs : List Value} (h : Dens C1 l vs) : Dens C' (l.map g) vs :=
  ⟨by simpa using h.1, fun i d u hd hu => by
    simp only [List.getElem?_map, Option.map_eq_some_iff] at hd
    obtain ⟨d0, hd0, rfl⟩ := hd
    exact hg _ _ (h.2 i d0 u hd0 hu)⟩
theorem renN_den (hρ : ∀ b ver loc, C1.at_ b ver = some loc → C'.at_ (ρ b) ver = some loc) : ∀ (n : Nat) (d : AV) (v : Value), Den C1 d v → Den C' (renN ρ n d) v
  | 0, d, v, _ => .hole v
  | n + 1, d, v, h => by
    have ih := renN_den hρ n
    cases h with
    | lit v => exact .lit v
    | any h => exact .any h
    | sym h => exact .hole _
    | ptr h h1 => exact .ptr (hρ _ _ _ h) h1
    | sl h h1 h3 h4 h5 h6 => exact .sl (hρ _ _ _ h) h1 h3 h4 h5 h6
    | empty a c => exact .empty a c
    | mp h => exact .mp (hρ _ _ _ h)
    | hole v => exact .hole v
    | agg hl hh =>
      have := map_dens ih ⟨hl, hh⟩
      exact .agg this.1 this.2
    | tup hl hh =>
      have := map_dens ih ⟨hl, hh⟩
      exact .tup this.1 this.2
    | iface h => exact .iface (ih _ _ h)
    | clo hl hm h1 h2 =>
      have e1 := map_dens ih ⟨hl, h1⟩
      have e2 := map_dens ih ⟨hm, h2⟩
      exact .clo e1.1 e2.1 e1.2 e2.2
end
noncomputable def renObj (ρ : Nat → Nat) : Option AObj → Option AObj
  | some (.map es c) => some (.map (es.map fun x => (renN ρ 12 x.1, renN ρ 12 x.2.1, x.2.2)) c)
  | _ => none
noncomputable def renB (ρ : Nat → Nat) (B : Blk) : Blk := ⟨B.cells.map (renN ρ 12), B.elem, B.vers, B.next, B.fz, B.ro, B.stamp, renObj ρ B.obj⟩
theorem local_ren {C1 C' : Cx} {ρ : Nat → Nat} (hρ : ∀ b ver loc, C1.at_ b ver = some loc → C'.at_ (ρ b) ver = some loc) {b b' base : Nat} {B : Blk} {w : World} (hat : ∀ v, C'.at_ b' v = C1.at_ b v) (hL : Local C1 b B base w) : Local C' b' (renB ρ B) base w := by
  refine ⟨fun v n hv => ?_, fun v loc hl => ?_, fun v n loc hv hl => ?_, fun v n loc hv hl i g1 g2 => ?_, fun v n v' n' loc loc' hv hv' hl hl' hb => ?_, fun hr v loc hl => ?_, fun a ha => ?_, fun loc hl => by rw [hat] at hl; exact hL.at0 loc hl⟩
  · rw [hat]; exact hL.dom v n hv
  · rw [hat] at hl; exact hL.ver v loc hl
  · rw [hat] at hl; exact hL.obj v n loc hv hl
  · rw [hat] at hl
    obtain ⟨d, u, k1, k2, k3⟩ := hL.cell v n loc hv hl i g1 g2
    exact ⟨renN ρ 12 d, u, by simp [renB, k1], k2, renN_den hρ 12 d u k3⟩
  · rw [hat] at hl hl'; exact hL.fam v n v' n' loc loc' hv hv' hl hl' hb
  · rw [hat] at hl; exact hL.own hr v loc hl
  · cases hB : B.obj with
    | none => simp [renB, renObj, hB] at ha
    | some b =>
      cases b with
      | iter s p => simp [renB, renObj, hB] at ha
      | map es c =>
        simp only [renB, renObj, hB, Option.some.injEq] at ha
        subst ha
        obtain ⟨loc, o, o1, o2, o3, o4⟩ := hL.objs _ hB
        refine ⟨loc, o, by rw [hat]; exact o1, o2, ?_, o4⟩
        cases o3 with
        | @map _ _ en hl hen =>
          refine .map (by simpa using hl) (fun i x y hx hy => ?_)
          simp only [List.getElem?_map, Option.map_eq_some_iff] at hx
          obtain ⟨x0, hx0, rfl⟩ := hx
          obtain ⟨p1, p2, p3⟩ := hen i x0 y hx0 hy
          exact ⟨renN_den hρ 12 _ _ p1, renN_den hρ 12 _ _ p2, p3⟩
def memB (b : Nat) : List Nat → Bool
  | [] => false
  | c :: r => match Nat.beq b c with
    | true => true
    | false => memB b r
theorem memB_spec {b : Nat} : ∀ {l : List Nat}, memB b l = false → b ∉ l
  | [], _, h => by simp at h
  | c :: r, h, hm => by
    simp only [memB] at h
    split at h
    · cases h
    · rename_i h1
      rcases List.mem_cons.1 hm with e | hm
      · subst e; rw [Nat.beq_refl] at h1; cases h1
      · exact memB_spec h hm
def nodupB : List Nat → Bool
  | [] => true
  | b :: r => match memB b r with
    | true => false
    | false => nodupB r
theorem nodupB_spec : ∀ {l : List Nat}, nodupB l = true → ∀ (i j b : Nat), l[i]? = some b → l[j]? = some b → i = j
  | [], _, i, j, b, h, _ => by simp at h
  | c :: r, h, i, j, b, hi, hj => by
    simp only [nodupB] at h
    split at h
    · cases h
    · rename_i h1
      have hn := memB_spec h1
      cases i with
      | zero =>
        cases j with
        | zero => rfl
        | succ j =>
          simp at hi hj; subst hi
          exact absurd (List.mem_of_getElem? hj) hn
      | succ i =>
        cases j with
        | zero =>
          simp at hi hj; subst hj
          exact absurd (List.mem_of_getElem? hi) hn
        | succ j =>
          simp at hi hj
          rw [nodupB_spec h i j b hi hj]
def entAs : List (AV × AV × Nat) → List AV → List AV
  | [], l => l
  | (k, v, _) :: r, l => k :: v :: entAs r l
def objAs : Option AObj → List AV → List AV
  | some (.map es _), l => entAs es l
  | _, l => l
noncomputable def stepB (H : Heap) (m : Nat) (go : List AV → List Nat → Tr Nat → List Nat) (b : Nat) (r : List AV) (ids : List Nat) (T : Tr Nat) : List Nat := match Nat.blt b m with
  | true => go r ids T
  | false => match T.get b with
    | some _ => go r ids T
    | none => match H.get b with
      | some B => go (objAs B.obj (B.cells ++ r)) (b :: ids) (Tr.set 0 FUEL T b)
      | none => go r (b :: ids) (Tr.set 0 FUEL T b)
def turnL : List Nat → List Nat → List Nat
  | [], a => a
  | x :: r, a => turnL r (x :: a)
noncomputable def reachS (H : Heap) (m : Nat) (go : List AV → List Nat → Tr Nat → List Nat) (todo : List AV) (ids : List Nat) (T : Tr Nat) : List Nat := match todo with
  | [] => turnL ids []
  | a :: r => match a with
    | .ptr b _ _ => stepB H m go b r ids T
    | .sl b _ _ _ _ _ => stepB H m go b r ids T
    | .mp b => stepB H m go b r ids T
    | .agg l => go (l ++ r) ids T
    | .tup l => go (l ++ r) ids T
    | .iface _ d => go (d :: r) ids T
    | .clo _ l k => go (l ++ (k ++ r)) ids T
    | .lit _ => go r ids T
    | .any _ => go r ids T
    | .empty => go r ids T
    | .hole => go r ids T
    | .sym _ => go r ids T
noncomputable def reachN (H : Heap) (m : Nat) (n : Nat) (todo : List AV) (_ : List Nat) : List Nat := Nat.rec (motive := fun _ => List AV → List Nat → Tr Nat → List Nat) (fun _ ids _ => turnL ids []) (fun _ go => reachS H m go) n todo [] .e
noncomputable def chkBs (R : Nat → Nat → Nat → Bool) (H : Heap) : List Blk → List Nat → Bool
  | [], [] => true
  | B0 :: r, b :: s => match H.get b with
    | some B => match eqBlk R B0 B with
      | true => chkBs R H r s
      | false => false
    | none => false
  | _, _ => false
theorem chkBs_spec {R : Nat → Nat → Nat → Bool} {H : Heap} : ∀ {bs : List Blk} {ids : List Nat}, chkBs R H bs ids = true → ids.length = bs.length ∧ ∀ (i b : Nat), ids[i]? = some b → ∃ B0 B, bs[i]? = some B0 ∧ H.get b = some B ∧ eqBlk R B0 B = true
  | [], [], _ => ⟨rfl, fun i b h => by simp at h⟩
  | [], _ :: _, h => by simp [chkBs] at h
  | _ :: _, [], h => by simp [chkBs] at h
  | B0 :: r, b :: s, h => by
    simp only [chkBs] at h
    split at h
    · rename_i B hB
      split at h
      · rename_i he
        obtain ⟨h1, h2⟩ := chkBs_spec h
        refine ⟨by simp [h1], fun i c hc => ?_⟩
        cases i with
        | zero => simp at hc; subst hc; exact ⟨B0, B, rfl, hB, he⟩
        | succ i => simp at hc; simpa using h2 i c hc
      · cases h
    · cases h
end Go.EV
