/- Texts that the proof of a law rests on, put together: part 12. -/
import Derived.Test.YtajnboigikdefaaDoorFg11
namespace Go.EV
open Go Go.RowKit
set_option linter.unusedVariables false
set_option linter.unusedSimpArgs false
def forceN {α : Type} (n : Nat) (f : Nat → α) : α := match n with
  | 0 => f 0
  | k + 1 => f (Nat.succ k)
theorem forceN_eq {α : Type} (n : Nat) (f : Nat → α) : forceN n f = f n := by cases n <;> rfl
def fI (r : Int) : AV := match r with
  | .ofNat m => forceN m fun m => match Nat.blt m 9223372036854775808 with
    | true => .lit (.int .i64 (.ofNat m))
    | false => .lit (.int .i64 (IntKind.i64.wrap (.ofNat m)))
  | .negSucc m => forceN m fun m => match Nat.blt m 9223372036854775808 with
    | true => .lit (.int .i64 (.negSucc m))
    | false => .lit (.int .i64 (IntKind.i64.wrap (.negSucc m)))
theorem fI_eq (r : Int) : fI r = .lit (.int .i64 (IntKind.i64.wrap r)) := by
  unfold fI
  cases r with
  | ofNat m =>
    simp only [forceN_eq]
    cases h : Nat.blt m 9223372036854775808 with
    | true =>
      have : m < 9223372036854775808 := by simpa [Nat.blt_eq] using h
      have e : IntKind.i64.wrap (Int.ofNat m) = Int.ofNat m := by rw [IntKind.wrap_i64]; simp only [Int.ofNat_eq_natCast]; omega
      simp only [e]
    | false => rfl
  | negSucc m =>
    simp only [forceN_eq]
    cases h : Nat.blt m 9223372036854775808 with
    | true =>
      have : m < 9223372036854775808 := by simpa [Nat.blt_eq] using h
      have e : IntKind.i64.wrap (Int.negSucc m) = Int.negSucc m := by rw [IntKind.wrap_i64]; omega
      simp only [e]
    | false => rfl
def ltI : Int → Int → Bool
  | .ofNat a, .ofNat b => Nat.blt a b
  | .ofNat _, .negSucc _ => false
  | .negSucc _, .ofNat _ => true
  | .negSucc a, .negSucc b => Nat.blt b a
theorem ltI_eq (a b : Int) : ltI a b = decide (a < b) := by
  cases a <;> cases b <;> simp only [ltI] <;> rw [Bool.eq_iff_iff] <;> simp [Nat.blt_eq] <;> omega
def eqI : Int → Int → Bool
  | .ofNat a, .ofNat b => Nat.beq a b
  | .negSucc a, .negSucc b => Nat.beq a b
  | _, _ => false
theorem eqI_eq (a b : Int) : eqI a b = (a == b) := by
  cases a <;> cases b <;> simp only [eqI] <;> rw [Bool.eq_iff_iff] <;> simp <;> omega
theorem leI (a b : Int) : decide (a ≤ b) = !decide (b < a) := by
  by_cases h : a ≤ b
  · have h2 : ¬ b < a := by omega
    simp [h, h2]
  · have h2 : b < a := by omega
    simp [h, h2]
def bA (b : Bool) : AV := match b with
  | true => .lit (.bool true)
  | false => .lit (.bool false)
theorem bA_eq (b : Bool) : bA b = .lit (.bool b) := by cases b <;> rfl
def cmpI (op : BinOp) (a b : Int) : Option AV := match op with
  | .eql => some (bA (eqI a b))
  | .neq => some (bA (!(eqI a b)))
  | .lss => some (bA (ltI a b))
  | .leq => some (bA (!(ltI b a)))
  | .gtr => some (bA (ltI b a))
  | .geq => some (bA (!(ltI a b)))
  | _ => none
def sameK : IntKind → IntKind → Bool
  | .i64, .i64 => true
  | .u8, .u8 => true
  | .i32, .i32 => true
  | .u64, .u64 => true
  | .u32, .u32 => true
  | _, _ => false
theorem sameK_eq {k l : IntKind} (h : sameK k l = true) : k = l := by cases k <;> cases l <;> first | rfl | cases h
def isI64 : IntKind → Bool
  | .i64 => true
  | _ => false
def arI (op : BinOp) (k : IntKind) (a b : Int) : Option AV := match isI64 k with
  | true => match op with
    | .add => some (fI (Int.add a b))
    | .sub => some (fI (Int.sub a b))
    | _ => none
  | false => none
def binF (op : BinOp) (k l : IntKind) (a b : Int) : Option AV := match sameK k l with
  | true => match cmpI op a b with
    | some d => some d
    | none => arI op k a b
  | false => none
section
variable {P : Program} {C : Cx} {ρ : Operand → Option AV} {e : Operand → Value} {o : Oper} {d : AV}
def binA (ρ : Operand → Option AV) (op : BinOp) (x y : Operand) : Option AV := match ρ x with
  | some (.lit (.int k a)) => match ρ y with
    | some (.lit (.int l b)) => binF op k l a b
    | _ => none
  | _ => none
theorem g_bin (hf : Fine C ρ e) {op : BinOp} {t t' : TypeId} {x y : Operand} (ho : o.op = .binOp op t x y t') (h : binA ρ op x y = some d) : Gives P C e o d := by
  unfold binA at h
  split at h
  · rename_i k a hx
    split at h
    · rename_i l b hy
      have h1 := hf x _ hx
      have h2 := hf y _ hy
      generalize hbx : e x = vx at h1
      generalize hby : e y = vy at h2
      cases h1; cases h2
      unfold binF at h
      split at h
      · rename_i hk
        obtain rfl := sameK_eq hk
        split at h
        · rename_i d' hd
          cases h
          cases op <;> simp only [cmpI, reduceCtorEq, Option.some.injEq] at hd <;> subst hd <;> rw [bA_eq] <;> refine ⟨_, .lit _, fun w => ?_⟩ <;>
            simp [execOp, ho, hbx, hby, eqGuard, binOp, Op.intCmp, eqI_eq, ltI_eq, leI, bne]
        · unfold arI at h
          split at h
          · rename_i hi
            have hk64 : k = .i64 := by cases k <;> first | rfl | cases hi
            subst hk64
            split at h
            · cases h
              rw [fI_eq]
              exact ⟨_, .lit _, fun w => by simp [execOp, ho, hbx, hby, eqGuard, binOp, Op.intArith] <;> rfl⟩
            · cases h
              rw [fI_eq]
              exact ⟨_, .lit _, fun w => by simp [execOp, ho, hbx, hby, eqGuard, binOp, Op.intArith] <;> rfl⟩
            · cases h
          · cases h
      · cases h
    · cases h
  · cases h
def fastOp (ρ : Operand → Option AV) (op : Op) : Option AV := match op with
  | .move x => ρ x
  | .assign x => ρ x
  | .binOp op _ x y _ => binA ρ op x y
  | .pick c a b => pickA ρ c a b
  | .extract t i => extractA ρ t i
  | _ => none
theorem fast_spec (hf : Fine C ρ e) (h : fastOp ρ o.op = some d) : Gives P C e o d := by
  unfold fastOp at h
  split at h
  · exact g_move hf (.inl (by assumption)) h
  · exact g_move hf (.inr (by assumption)) h
  · exact g_bin hf (by assumption) h
  · exact g_pick hf (by assumption) h
  · exact g_extract hf (by assumption) h
  · cases h
end
end Go.EV
