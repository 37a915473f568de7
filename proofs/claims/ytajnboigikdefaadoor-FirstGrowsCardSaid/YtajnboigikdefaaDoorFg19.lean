/- Texts that the proof of a law rests on, put together: part 19. -/
import Derived.Test.YtajnboigikdefaaDoorFg18
namespace Go.EV
open Go Go.RowKit
open Go.XW (Imm Fits DD RepV SL LeafOk leafB Own Apart addI All2)
set_option linter.unusedVariables false
set_option linter.unusedSimpArgs false
def Ty.av : (t : Ty) → t.den → List AV
  | .int k, x => [.sym (.int k x)]
  | .bool, x => [.sym (.bool x)]
  | .str, x => [.sym (.str x)]
  | .flt k, x => [.sym (.flt k x)]
  | .sl t, l => [.sym (.dsl t l)]
  | .pr a b, x => a.av x.1 ++ b.av x.2
  | .tree, x => [.sym (.int .i64 x.sym), .sym (.int .i64 x.prod), .sym (.dsl .tree x.kids)]
theorem All2.append {I : Imm} : ∀ {l m : List DD} {us vs : List Value}, All2 I l us → All2 I m vs → All2 I (l ++ m) (us ++ vs)
  | [], m, us, vs, h, k => by rw [XW.All2.nil_inv h]; exact k
  | d :: l, m, us, vs, h, k => by
    obtain ⟨v, r, rfl, h1, h2⟩ := XW.All2.cons_inv h
    exact ⟨h1, All2.append h2 k⟩
theorem All2.split {I : Imm} : ∀ {l m : List DD} {us : List Value}, All2 I (l ++ m) us → ∃ a b, us = a ++ b ∧ All2 I l a ∧ All2 I m b
  | [], m, us, h => ⟨[], us, rfl, trivial, h⟩
  | d :: l, m, us, h => by
    obtain ⟨v, r, rfl, h1, h2⟩ := XW.All2.cons_inv h
    obtain ⟨a, b, rfl, h3, h4⟩ := All2.split h2
    exact ⟨v :: a, b, rfl, ⟨h1, h3⟩, h4⟩
theorem All2.one {I : Imm} {d : DD} {us : List Value} (h : All2 I [d] us) : ∃ v, us = [v] ∧ RepV I d v := by
  obtain ⟨v, r, rfl, h1, h2⟩ := XW.All2.cons_inv h
  rw [XW.All2.nil_inv h2]
  exact ⟨v, rfl, h1⟩
section
variable {C : Cx}
theorem av_of : ∀ (t : Ty) (x : t.den) {us : List Value}, All2 C.unk.imm (t.dd x) us → Dens C (t.av x) us
  | .int k, x, us, h => by obtain ⟨v, rfl, h1⟩ := All2.one h; rw [h1.val_inv]; exact .cons (.sym (.int k x)) (.nil C)
  | .bool, x, us, h => by obtain ⟨v, rfl, h1⟩ := All2.one h; rw [h1.val_inv]; exact .cons (.sym (.bool x)) (.nil C)
  | .str, x, us, h => by obtain ⟨v, rfl, h1⟩ := All2.one h; rw [h1.val_inv]; exact .cons (.sym (.str x)) (.nil C)
  | .flt k, x, us, h => by obtain ⟨v, rfl, h1⟩ := All2.one h; rw [h1.val_inv]; exact .cons (.sym (.flt k x)) (.nil C)
  | .sl t, x, us, h => by obtain ⟨v, rfl, h1⟩ := All2.one h; exact .cons (.sym (.dsl h1)) (.nil C)
  | .pr a b, x, us, h => by
    obtain ⟨p, q, rfl, h1, h2⟩ := All2.split (show All2 C.unk.imm (a.dd x.1 ++ b.dd x.2) us from h)
    exact (av_of a x.1 h1).append (av_of b x.2 h2)
  | .tree, x, us, h => by
    have h : All2 C.unk.imm x.dd us := h
    rw [Tree.dd_eq] at h
    obtain ⟨v1, r1, rfl, h1, h2⟩ := XW.All2.cons_inv h
    obtain ⟨v2, r2, rfl, h3, h4⟩ := XW.All2.cons_inv h2
    obtain ⟨v3, rfl, h5⟩ := All2.one h4
    rw [h1.val_inv, h3.val_inv]
    exact .cons (.sym (.int .i64 _)) (.cons (.sym (.int .i64 _)) (.cons (.sym (.dsl (t := .tree) h5)) (.nil C)))
theorem sym_inv {s : SA} {u : Value} (h : Den C (.sym s) u) : DenS C.unk s u := by cases h with | sym h => exact h
theorem one_inv {d : AV} {us : List Value} (h : Dens C [d] us) : ∃ u, us = [u] ∧ Den C d u := by
  obtain ⟨u, r, rfl, h1, h2⟩ := h.cons_inv
  rw [h2.nil_inv]
  exact ⟨u, rfl, h1⟩
theorem Dens.split : ∀ {l m : List AV} {us : List Value}, Dens C (l ++ m) us → ∃ a b, us = a ++ b ∧ Dens C l a ∧ Dens C m b
  | [], m, us, h => ⟨[], us, rfl, .nil C, h⟩
  | d :: l, m, us, h => by
    obtain ⟨v, r, rfl, h1, h2⟩ := Dens.cons_inv (show Dens C (d :: (l ++ m)) us from h)
    obtain ⟨a, b, rfl, h3, h4⟩ := Dens.split h2
    exact ⟨v :: a, b, rfl, .cons h1 h3, h4⟩
theorem av_to : ∀ (t : Ty) (x : t.den) {us : List Value}, Dens C (t.av x) us → All2 C.unk.imm (t.dd x) us
  | .int k, x, us, h => by obtain ⟨v, rfl, h1⟩ := one_inv h; cases sym_inv h1; exact ⟨.val _, trivial⟩
  | .bool, x, us, h => by obtain ⟨v, rfl, h1⟩ := one_inv h; cases sym_inv h1; exact ⟨.val _, trivial⟩
  | .str, x, us, h => by obtain ⟨v, rfl, h1⟩ := one_inv h; cases sym_inv h1; exact ⟨.val _, trivial⟩
  | .flt k, x, us, h => by obtain ⟨v, rfl, h1⟩ := one_inv h; cases sym_inv h1; exact ⟨.val _, trivial⟩
  | .sl t, x, us, h => by
    obtain ⟨v, rfl, h1⟩ := one_inv h
    cases sym_inv h1 with
    | dsl h2 => exact ⟨h2, trivial⟩
  | .pr a b, x, us, h => by
    obtain ⟨p, q, rfl, h1, h2⟩ := Dens.split (show Dens C (a.av x.1 ++ b.av x.2) us from h)
    exact All2.append (av_to a x.1 h1) (av_to b x.2 h2)
  | .tree, x, us, h => by
    obtain ⟨v1, r1, rfl, h1, h2⟩ := h.cons_inv
    obtain ⟨v2, r2, rfl, h3, h4⟩ := h2.cons_inv
    obtain ⟨v3, rfl, h5⟩ := one_inv h4
    show All2 C.unk.imm x.dd _
    rw [Tree.dd_eq]
    cases sym_inv h1; cases sym_inv h3
    cases sym_inv h5 with
    | dsl h6 => exact ⟨.val _, .val _, h6, trivial⟩
end
theorem Ty.av_length : ∀ (t : Ty) (x : t.den), (t.av x).length = t.cells
  | .int k, x => rfl
  | .bool, x => rfl
  | .str, x => rfl
  | .flt k, x => rfl
  | .sl t, x => rfl
  | .pr a b, x => by
    show (a.av x.1 ++ b.av x.2).length = a.cells + b.cells
    rw [List.length_append, a.av_length, b.av_length]
  | .tree, x => rfl
def asI : AV → Option (IntKind × Int)
  | .lit (.int k n) => some (k, n)
  | .sym (.int k n) => some (k, n)
  | _ => none
def asB : AV → Option Bool
  | .lit (.bool b) => some b
  | .sym (.bool b) => some b
  | _ => none
def asS : AV → Option ByteArray
  | .lit (.string s) => some s
  | .sym (.str s) => some s
  | _ => none
def isLit : AV → Bool
  | .lit _ => true
  | _ => false
section
variable {C : Cx} {d : AV} {u : Value}
theorem asI_spec {k : IntKind} {n : Int} (h : asI d = some (k, n)) (hd : Den C d u) : u = .int k n := by
  unfold asI at h
  split at h
  · cases h; cases hd; rfl
  · cases h; cases sym_inv hd; rfl
  · cases h
theorem asB_spec {b : Bool} (h : asB d = some b) (hd : Den C d u) : u = .bool b := by
  unfold asB at h
  split at h
  · cases h; cases hd; rfl
  · cases h; cases sym_inv hd; rfl
  · cases h
theorem asS_spec {s : ByteArray} (h : asS d = some s) (hd : Den C d u) : u = .string s := by
  unfold asS at h
  split at h
  · cases h; cases hd; rfl
  · cases h; cases sym_inv hd; rfl
  · cases h
end
def sameKind (k l : IntKind) : Bool := Nat.beq k.ctorIdx l.ctorIdx
theorem sameKind_eq {k l : IntKind} (h : sameKind k l = true) : k = l := by
  have := Nat.eq_of_beq_eq_true h
  cases k <;> cases l <;> first | rfl | (simp [IntKind.ctorIdx] at this)
def condL (y : AV) (b : Bool) (p : Prop) : Option Prop := match isLit y with
  | true => match b with
    | true => none
    | false => some p
  | false => some p
def holds : Option Prop → Prop
  | none => True
  | some p => p
theorem condL_spec {y : AV} {b : Bool} {p : Prop} (hb : b = true → p) (h : holds (condL y b p)) : p := by
  unfold condL at h
  split at h
  · split at h
    · exact hb rfl
    · exact h
  · exact h
def sArith (op : BinOp) (k l : IntKind) (a b : Int) (y : AV) : Option (AV × Option Prop) := match op with
  | .shl => some (.sym (.int k (k.wrap (a * 2 ^ (min b.toNat k.bits)))), condL y (!(ltI b 0)) (0 ≤ b))
  | .shr => some (.sym (.int k (a.fdiv (2 ^ (min b.toNat k.bits)))), condL y (!(ltI b 0)) (0 ≤ b))
  | op => match sameKind k l with
    | false => none
    | true => match op with
      | .add => some (.sym (.int k (k.wrap (a + b))), none)
      | .sub => some (.sym (.int k (k.wrap (a - b))), none)
      | .mul => some (.sym (.int k (k.wrap (a * b))), none)
      | .quo => some (.sym (.int k (k.wrap (a.tdiv b))), condL y (!(eqI b 0)) (b ≠ 0))
      | .rem => some (.sym (.int k (a.tmod b)), condL y (!(eqI b 0)) (b ≠ 0))
      | .and => some (.sym (.int k (Go.bits .and k a b)), none)
      | .or => some (.sym (.int k (Go.bits .or k a b)), none)
      | .xor => some (.sym (.int k (Go.bits .xor k a b)), none)
      | .andNot => some (.sym (.int k (Go.bits .andNot k a b)), none)
      | .eql => some (.sym (.bool (a == b)), none)
      | .neq => some (.sym (.bool (a != b)), none)
      | .lss => some (.sym (.bool (decide (a < b))), none)
      | .leq => some (.sym (.bool (decide (a ≤ b))), none)
      | .gtr => some (.sym (.bool (decide (a > b))), none)
      | .geq => some (.sym (.bool (decide (a ≥ b))), none)
      | _ => none
def sText (op : BinOp) (a b : ByteArray) : Option (AV × Option Prop) := match op with
  | .add => some (.sym (.str (a ++ b)), some (a.size + b.size ≤ 9223372036854775807))
  | .eql => some (.sym (.bool (a.toList == b.toList)), none)
  | .neq => some (.sym (.bool (!(a.toList == b.toList))), none)
  | .lss => some (.sym (.bool (Op.bytesLess a.toList b.toList)), none)
  | .leq => some (.sym (.bool (Op.bytesLess a.toList b.toList || a.toList == b.toList)), none)
  | .gtr => some (.sym (.bool (!(Op.bytesLess a.toList b.toList || a.toList == b.toList))), none)
  | .geq => some (.sym (.bool (!(Op.bytesLess a.toList b.toList))), none)
  | _ => none
def eqF (P : Program) (f : Field) (i : Nat) (x y : AV) : Option Bool := match runQ P (isAgg f.type) with
  | some false => match Nat.beq f.offset i && !(f.name == "_") with
    | true => match runQ P (underlying f.type) with
      | some (.int _) => match asI x, asI y with
        | some (k, a), some (l, b) => match sameKind k l with
          | true => some (a == b)
          | false => none
        | _, _ => none
      | some .string => match asS x, asS y with
        | some a, some b => some (a == b)
        | _, _ => none
      | _ => none
    | false => none
  | _ => none
def eqS4 (P : Program) (t : TypeId) (x y : AV) : Option Bool := match x, y with
  | .agg [x1, x2, x3, x4], .agg [y1, y2, y3, y4] => match runQ P (underlying t) with
    | some (.struct fs) => match fs.toList with
      | [f1, f2, f3, f4] => match !(P.stoodInHeld t) && !(P.eqGuardType P.depth t) with
        | true => match eqF P f1 0 x1 y1, eqF P f2 1 x2 y2, eqF P f3 2 x3 y3, eqF P f4 3 x4 y4 with
          | some a, some b, some c, some d => some (a && (b && (c && d)))
          | _, _, _, _ => none
        | false => none
      | _ => none
    | _ => none
  | _, _ => none
section
variable {P : Program} {C : Cx}
theorem eqF_spec {f : Field} {i : Nat} {x y : AV} {b : Bool} {u v : Value} (h : eqF P f i x y = some b) (hx : Den C x u) (hy : Den C y v) :
    (∀ n w, (Op.equalIn (n + 1) f.type u v).run P w = .ok b w) ∧ (∀ w, (isAgg f.type).run P w = .ok false w) ∧ f.offset = i ∧ f.name ≠ "_" := by
  unfold eqF at h
  split at h
  · rename_i ha
    split at h
    · rename_i ho
      simp only [Bool.and_eq_true, Bool.not_eq_true'] at ho
      have hn : f.name ≠ "_" := by simpa using ho.2
      have hof := Nat.eq_of_beq_eq_true ho.1
      have ha' := runQ_spec P _ _ ha
      split at h
      · rename_i hu
        have hu' := runQ_spec P _ _ hu
        split at h
        · rename_i k a l c h1 h2
          split at h
          · rename_i hk
            obtain rfl := sameKind_eq hk
            cases h
            have e1 := asI_spec h1 hx
            have e2 := asI_spec h2 hy
            subst e1; subst e2
            exact ⟨fun n w => by simp [Op.equalIn, Sem.run_bind, hu', Result.andThen_ok], ha', hof, hn⟩
          · cases h
        · cases h
      · rename_i hu
        have hu' := runQ_spec P _ _ hu
        split at h
        · rename_i a c h1 h2
          cases h
          have e1 := asS_spec h1 hx
          have e2 := asS_spec h2 hy
          subst e1; subst e2
          exact ⟨fun n w => by simp [Op.equalIn, Sem.run_bind, hu', Result.andThen_ok], ha', hof, hn⟩
        · cases h
      · cases h
    · cases h
  · cases h
theorem run_partS {t : TypeId} (ha : ∀ w, (isAgg t).run P w = .ok false w) (cs : Array Value) (i : Nat) (v : Value) (h : cs[i]? = some v) (w : World) : (part t cs i).run P w = .ok v w := by
  simp only [part, Sem.run_bind, ha, Result.andThen_ok, h]
  rfl
theorem eqS4_spec {t : TypeId} {x y : AV} {b : Bool} {u v : Value} (h : eqS4 P t x y = some b) (hx : Den C x u) (hy : Den C y v) :
    (∃ us vs, u = .agg us ∧ v = .agg vs) ∧ P.eqGuardType P.depth t = false ∧ ∀ w, (Op.equal t u v).run P w = .ok b w := by
  unfold eqS4 at h
  split at h
  · rename_i x1 x2 x3 x4 y1 y2 y3 y4
    split at h
    · rename_i fs hu
      split at h
      · rename_i f1 f2 f3 f4 hl
        split at h
        · rename_i hst
          split at h
          · rename_i a1 a2 a3 a4 q1 q2 q3 q4
            cases h
            simp only [Bool.and_eq_true, Bool.not_eq_true'] at hst
            have hfs : fs = #[f1, f2, f3, f4] := by apply Array.ext'; simpa using hl
            subst hfs
            have hu' := runQ_spec P _ _ hu
            cases hx with
            | @agg _ us hl1 hh1 =>
            cases hy with
            | @agg _ vs hl2 hh2 =>
            have D1 : Dens C [x1, x2, x3, x4] us := ⟨hl1, hh1⟩
            have D2 : Dens C [y1, y2, y3, y4] vs := ⟨hl2, hh2⟩
            obtain ⟨u1, _, rfl, g1, D1⟩ := D1.cons_inv
            obtain ⟨u2, _, rfl, g2, D1⟩ := D1.cons_inv
            obtain ⟨u3, _, rfl, g3, D1⟩ := D1.cons_inv
            obtain ⟨u4, _, rfl, g4, D1⟩ := D1.cons_inv
            obtain rfl := D1.nil_inv
            obtain ⟨v1, _, rfl, k1, D2⟩ := D2.cons_inv
            obtain ⟨v2, _, rfl, k2, D2⟩ := D2.cons_inv
            obtain ⟨v3, _, rfl, k3, D2⟩ := D2.cons_inv
            obtain ⟨v4, _, rfl, k4, D2⟩ := D2.cons_inv
            obtain rfl := D2.nil_inv
            obtain ⟨r1, s1, o1, n1⟩ := eqF_spec q1 g1 k1
            obtain ⟨r2, s2, o2, n2⟩ := eqF_spec q2 g2 k2
            obtain ⟨r3, s3, o3, n3⟩ := eqF_spec q3 g3 k3
            obtain ⟨r4, s4, o4, n4⟩ := eqF_spec q4 g4 k4
            refine ⟨⟨_, _, rfl, rfl⟩, hst.2, fun w => ?_⟩
            have p1 := fun (z1 z2 z3 z4 : Value) => run_partS s1 #[z1, z2, z3, z4] 0 z1 rfl
            have p2 := fun (z1 z2 z3 z4 : Value) => run_partS s2 #[z1, z2, z3, z4] 1 z2 rfl
            have p3 := fun (z1 z2 z3 z4 : Value) => run_partS s3 #[z1, z2, z3, z4] 2 z3 rfl
            have p4 := fun (z1 z2 z3 z4 : Value) => run_partS s4 #[z1, z2, z3, z4] 3 z4 rfl
            show (Op.equalIn (9998 + 1 + 1) t _ _).run P w = _
            generalize 9998 = n
            have r1 := r1 n; have r2 := r2 n; have r3 := r3 n; have r4 := r4 n
            unfold Op.equalIn
            simp only [Sem.run_bind, hu', Result.andThen_ok]
            have hs := hst.1
            cases a1 with
            | false => simp [hs, n1, o1, p1, r1]
            | true =>
            cases a2 with
            | false => simp [hs, n1, o1, p1, r1, n2, o2, p2, r2]
            | true =>
            cases a3 with
            | false => simp [hs, n1, o1, p1, r1, n2, o2, p2, r2, n3, o3, p3, r3]
            | true => cases a4 <;> simp [hs, n1, o1, p1, r1, n2, o2, p2, r2, n3, o3, p3, r3, n4, o4, p4, r4]
          · cases h
        · cases h
      · cases h
    · cases h
  · cases h
end
def sBin (P : Program) (t : TypeId) (op : BinOp) (x y : AV) : Option (AV × Option Prop) := match asI x with
  | some (k, a) => match asI y with
    | some (l, b) => sArith op k l a b y
    | none => none
  | none => match asS x with
    | some a => match asS y with
      | some b => sText op a b
      | none => none
    | none => match asB x, asB y, runQ P (underlying t) with
      | some a, some b, some .bool => match op with
        | .eql => some (.sym (.bool (a == b)), none)
        | .neq => some (.sym (.bool (a != b)), none)
        | _ => none
      | _, _, _ => match eqS4 P t x y, op with
        | some b, .eql => some (.sym (.bool b), none)
        | some b, .neq => some (.sym (.bool (!b)), none)
        | _, _ => none
def GivesI (P : Program) (C : Cx) (e : Operand → Value) (o : Oper) (d : AV) : Prop := ∃ v, Den C d v ∧ ∀ w, Fits C.unk.imm w → (execOp e o).run P w = .ok (.value v) w
theorem Gives.gi {P : Program} {C : Cx} {e : Operand → Value} {o : Oper} {d : AV} (h : Gives P C e o d) : GivesI P C e o d := ⟨h.choose, h.choose_spec.1, fun w _ => h.choose_spec.2 w⟩
section
variable {P : Program} {C : Cx} {ρ : Operand → Option AV} {e : Operand → Value} {o : Oper} {d : AV} {c : Option Prop}
theorem nlt_of {b : Int} (h : (!(ltI b 0)) = true) : 0 ≤ b := by
  rw [ltI_eq] at h
  simp at h
  exact h
theorem ne_of {b : Int} (h : (!(eqI b 0)) = true) : b ≠ 0 := by
  rw [eqI_eq] at h
  simpa using h
theorem run_shift {k kk : IntKind} {a b : Int} (hb : 0 ≤ b) (w : World) :
    (Op.shift .shl k a kk b).run P w = .ok (.int k (k.wrap (a * 2 ^ (min b.toNat k.bits)))) w ∧ (Op.shift .shr k a kk b).run P w = .ok (.int k (a.fdiv (2 ^ (min b.toNat k.bits)))) w := by
  have hn : ¬ b < 0 := by omega
  constructor <;> simp [Op.shift, hn]
theorem run_bits {k : IntKind} {a b : Int} (w : World) :
    (Op.intBits .and k a b).run P w = .ok (.int k (Go.bits .and k a b)) w ∧ (Op.intBits .or k a b).run P w = .ok (.int k (Go.bits .or k a b)) w ∧ (Op.intBits .xor k a b).run P w = .ok (.int k (Go.bits .xor k a b)) w ∧ (Op.intBits .andNot k a b).run P w = .ok (.int k (Go.bits .andNot k a b)) w := ⟨rfl, rfl, rfl, rfl⟩
theorem und_of {t : TypeId} {d : TypeDesc} (h : runQ P (underlying t) = some d) : P.underlying t = some d := by
  have h1 := runQ_spec P _ _ h { (default : World) with heap := #[] }
  cases hu : P.underlying t with
  | none => simp [underlying, hu] at h1
  | some d' => simp [underlying, hu] at h1; rw [h1]
theorem g_sbin (hf : Fine C ρ e) {op : BinOp} {t t' : TypeId} {x y : Operand} (ho : o.op = .binOp op t x y t') {dx dy : AV} (hx : ρ x = some dx) (hy : ρ y = some dy) (h : sBin P t op dx dy = some (d, c)) (hc : holds c) : Gives P C e o d := by
  have h1 := hf x _ hx
  have h2 := hf y _ hy
  unfold sBin at h
  split at h
  · rename_i k a hka
    have e1 := asI_spec hka h1
    split at h
    · rename_i l b hlb
      have e2 := asI_spec hlb h2
      unfold sArith at h
      split at h
      · cases h
        have hb := condL_spec (fun h => nlt_of h) hc
        exact ⟨_, .sym (.int _ _), fun w => by simp [execOp, ho, e1, e2, eqGuard, binOp, (run_shift (P := P) hb w).1]⟩
      · cases h
        have hb := condL_spec (fun h => nlt_of h) hc
        exact ⟨_, .sym (.int _ _), fun w => by simp [execOp, ho, e1, e2, eqGuard, binOp, (run_shift (P := P) hb w).2]⟩
      · split at h
        · cases h
        · rename_i hk
          obtain rfl := sameKind_eq hk
          split at h
          · cases h; exact ⟨_, .sym (.int _ _), fun w => by simp [execOp, ho, e1, e2, eqGuard, binOp, Op.intArith]⟩
          · cases h; exact ⟨_, .sym (.int _ _), fun w => by simp [execOp, ho, e1, e2, eqGuard, binOp, Op.intArith]⟩
          · cases h; exact ⟨_, .sym (.int _ _), fun w => by simp [execOp, ho, e1, e2, eqGuard, binOp, Op.intArith]⟩
          · cases h
            have hb : b ≠ 0 := condL_spec (fun h => ne_of h) hc
            exact ⟨_, .sym (.int _ _), fun w => by simp [execOp, ho, e1, e2, eqGuard, binOp, Op.intDiv, hb]⟩
          · cases h
            have hb : b ≠ 0 := condL_spec (fun h => ne_of h) hc
            exact ⟨_, .sym (.int _ _), fun w => by simp [execOp, ho, e1, e2, eqGuard, binOp, Op.intDiv, hb]⟩
          · cases h; exact ⟨_, .sym (.int _ _), fun w => by simp [execOp, ho, e1, e2, eqGuard, binOp, run_bits]⟩
          · cases h; exact ⟨_, .sym (.int _ _), fun w => by simp [execOp, ho, e1, e2, eqGuard, binOp, run_bits]⟩
          · cases h; exact ⟨_, .sym (.int _ _), fun w => by simp [execOp, ho, e1, e2, eqGuard, binOp, run_bits]⟩
          · cases h; exact ⟨_, .sym (.int _ _), fun w => by simp [execOp, ho, e1, e2, eqGuard, binOp, run_bits]⟩
          · cases h; exact ⟨_, .sym (.bool _), fun w => by simp [execOp, ho, e1, e2, eqGuard, binOp, Op.intCmp]⟩
          · cases h; exact ⟨_, .sym (.bool _), fun w => by simp [execOp, ho, e1, e2, eqGuard, binOp, Op.intCmp]⟩
          · cases h; exact ⟨_, .sym (.bool _), fun w => by simp [execOp, ho, e1, e2, eqGuard, binOp, Op.intCmp]⟩
          · cases h; exact ⟨_, .sym (.bool _), fun w => by simp [execOp, ho, e1, e2, eqGuard, binOp, Op.intCmp]⟩
          · cases h; exact ⟨_, .sym (.bool _), fun w => by simp [execOp, ho, e1, e2, eqGuard, binOp, Op.intCmp]⟩
          · cases h; exact ⟨_, .sym (.bool _), fun w => by simp [execOp, ho, e1, e2, eqGuard, binOp, Op.intCmp]⟩
          · cases h
    · cases h
  · split at h
    · rename_i a hsa
      have e1 := asS_spec hsa h1
      split at h
      · rename_i b hsb
        have e2 := asS_spec hsb h2
        unfold sText at h
        split at h
        · cases h
          have hm : IntKind.i64.max = 9223372036854775807 := by decide
          have hn : ¬ (((a.size + b.size : Nat) : Int) > IntKind.i64.max) := by rw [hm]; have : a.size + b.size ≤ 9223372036854775807 := hc; omega
          refine ⟨_, .sym (.str _), fun w => ?_⟩
          simp only [execOp, ho, e1, e2]
          simp [eqGuard, binOp, Op.stringOp] at hn ⊢
          exact hn
        · cases h; exact ⟨_, .sym (.bool _), fun w => by simp [execOp, ho, e1, e2, eqGuard, binOp, Op.stringOp]⟩
        · cases h; exact ⟨_, .sym (.bool _), fun w => by simp [execOp, ho, e1, e2, eqGuard, binOp, Op.stringOp]⟩
        · cases h; exact ⟨_, .sym (.bool _), fun w => by simp [execOp, ho, e1, e2, eqGuard, binOp, Op.stringOp]⟩
        · cases h; exact ⟨_, .sym (.bool _), fun w => by simp [execOp, ho, e1, e2, eqGuard, binOp, Op.stringOp]⟩
        · cases h; exact ⟨_, .sym (.bool _), fun w => by simp [execOp, ho, e1, e2, eqGuard, binOp, Op.stringOp]⟩
        · cases h; exact ⟨_, .sym (.bool _), fun w => by simp [execOp, ho, e1, e2, eqGuard, binOp, Op.stringOp]⟩
        · cases h
      · cases h
    · split at h
      · rename_i a b ha hb hu
        have e1 := asB_spec ha h1
        have e2 := asB_spec hb h2
        have heq : ∀ w, (Op.equal t (.bool a) (.bool b)).run P w = .ok (a == b) w := fun w => run_equal_bool w t a b (und_of hu)
        split at h
        · cases h; exact ⟨_, .sym (.bool _), fun w => by simp [execOp, ho, e1, e2, eqGuard, binOp, heq]⟩
        · cases h; exact ⟨_, .sym (.bool _), fun w => by simp [execOp, ho, e1, e2, eqGuard, binOp, heq, bne]⟩
        · cases h
      · split at h
        · rename_i b hb
          cases h
          obtain ⟨⟨us, vs, e1, e2⟩, hg, hr⟩ := eqS4_spec hb h1 h2
          rw [e1, e2] at hr
          exact ⟨_, .sym (.bool _), fun w => by simp [execOp, ho, e1, e2, eqGuard, hg, binOp, hr]⟩
        · rename_i b hb
          cases h
          obtain ⟨⟨us, vs, e1, e2⟩, hg, hr⟩ := eqS4_spec hb h1 h2
          rw [e1, e2] at hr
          exact ⟨_, .sym (.bool _), fun w => by simp [execOp, ho, e1, e2, eqGuard, hg, binOp, hr]⟩
        · cases h
end
end Go.EV
