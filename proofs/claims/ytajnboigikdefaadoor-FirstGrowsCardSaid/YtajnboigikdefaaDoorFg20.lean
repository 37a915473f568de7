/- Texts that the proof of a law rests on, put together: part 20. -/
import Derived.Test.YtajnboigikdefaaDoorFg19
namespace Go.EV
open Go Go.RowKit
open Go.XW (Imm Fits DD RepV SL LeafOk leafB Own Apart addI All2)
set_option linter.unusedVariables false
set_option linter.unusedSimpArgs false
structure Lst where
  t : Ty
  l : List t.den
def asD (M : SH) : AV → Option Lst
  | .sym (.dsl t l) => some ⟨t, l⟩
  | .sym (.rs r) => match rowGet M.rows r with
    | some R => match R.fr with
      | true => some ⟨R.t, R.xs⟩
      | false => none
    | none => none
  | _ => none
def asR (M : SH) : AV → Option (Nat × Row)
  | .sym (.rs r) => match rowGet M.rows r with
    | some R => match R.fr with
      | true => none
      | false => some (r, R)
    | none => none
  | _ => none
section
variable {P : Program} {C : Cx} {M : SH} {base : Nat} {w : World} {d : AV} {u : Value}
theorem asD_spec (hM : SMem C M base w) {L : Lst} (h : asD M d = some L) (hd : Den C d u) : RepV C.unk.imm (SL L.t.cells L.t.dd L.l) u := by
  unfold asD at h
  split at h
  · cases h
    cases sym_inv hd with
    | dsl h => exact h
  · rename_i r
    split at h
    · rename_i R hR
      split at h
      · rename_i hf
        cases h
        obtain ⟨v, h1, h2⟩ := hM.row r R hR
        cases sym_inv hd with
        | rs h3 => rw [h1] at h3; cases h3; exact h2.rep hf
      · cases h
    · cases h
  · cases h
theorem asR_spec (hM : SMem C M base w) {r : Nat} {R : Row} (h : asR M d = some (r, R)) (hd : Den C d u) : d = .sym (.rs r) ∧ rowGet M.rows r = some R ∧ R.fr = false ∧ C.unk.row r = some u ∧ Own base C.unk.imm w R.T R.t.cells R.t.dd R.xs u ∧ ∀ n, R.cl = some n → R.xs.length = n := by
  unfold asR at h
  split at h
  · rename_i r0
    split at h
    · rename_i R0 hR
      split at h
      · cases h
      · rename_i hf
        cases h
        obtain ⟨v, h1, h2⟩ := hM.row r R hR
        cases sym_inv hd with
        | rs h3 =>
          rw [h1] at h3; cases h3
          exact ⟨rfl, hR, hf, h1, h2.own hf, h2.cl⟩
    · cases h
  · cases h
end
def sUn (op : UnOp) (x : AV) : Option (AV × Option Prop) := match op with
  | .not => match asB x with
    | some b => some (.sym (.bool (!b)), none)
    | none => none
  | .neg => match asI x with
    | some (k, n) => some (.sym (.int k (k.wrap (0 - n))), none)
    | none => none
  | _ => none
def sConv (P : Program) (src dst : TypeId) (x : AV) : Option (AV × Option Prop) := match runQ P (underlying src), runQ P (underlying dst) with
  | some (.int _), some (.int k) => match asI x with
    | some (_, n) => some (.sym (.int k (k.wrap n)), none)
    | none => none
  | some .string, some .string => match asS x with
    | some s => some (.sym (.str s), none)
    | none => none
  | _, _ => none
def lenI (n : Nat) : AV := .sym (.int .i64 (n : Int))
def lenL (R : Row) : AV := match R.cl with
  | some n => .lit (.int .i64 (Int.ofNat n))
  | none => lenI R.xs.length
def sLenOf (M : SH) (td : Option TypeDesc) (x : AV) : Option AV := match td with
  | some .string => match asS x with
    | some s => some (lenI s.size)
    | none => none
  | some (.slice _) => match asD M x with
    | some L => some (lenI L.l.length)
    | none => match asR M x with
      | some (_, R) => some (lenL R)
      | none => none
  | _ => none
def sCall (P : Program) (M : SH) (ρ : Operand → Option AV) (c : Call) : Option (AV × Option Prop) := match c.callee, c.args.toList with
  | .builtin .len, [x] => match c.argTypes.toList with
    | t :: _ => match ρ x with
      | some dx => match sLenOf M (runQ P (underlying t)) dx with
        | some d => some (d, none)
        | none => none
      | none => none
    | [] => none
  | .builtin .min, [x, y] => match ρ x, ρ y with
    | some dx, some dy => match asI dx, asI dy with
      | some (k, a), some (_, b) => some (.sym (.int k (if b < a then b else a)), none)
      | _, _ => none
    | _, _ => none
  | .builtin .max, [x, y] => match ρ x, ρ y with
    | some dx, some dy => match asI dx, asI dy with
      | some (k, a), some (_, b) => some (.sym (.int k (if b > a then b else a)), none)
      | _, _ => none
    | _, _ => none
  | _, _ => none
def inB (i : Int) (n : Nat) : Prop := 0 ≤ i ∧ i < (n : Int)
def sIdxAddr (P : Program) (M : SH) (t : TypeId) (x i : AV) : Option (AV × Option Prop) := match asI i, runQ P (underlying t) with
  | some (_, n), some (.slice el) => match asD M x with
    | some L => match sizeA P el with
      | some s => match Nat.beq s L.t.cells with
        | true => some (.sym (.dp L.t (L.l.getD n.toNat L.t.dflt) 0), some (inB n L.l.length))
        | false => none
      | none => none
    | none => match asR M x with
      | some (r, R) => match sizeA P el with
        | some s => match Nat.beq s R.t.cells with
          | true => some (.sym (.ep r R.t.cells n.toNat 0), some (inB n R.xs.length))
          | false => none
        | none => none
      | none => none
  | _, _ => none
def sIndex (P : Program) (t : TypeId) (x i : AV) : Option (AV × Option Prop) := match asS x, asI i, runQ P (underlying t) with
  | some s, some (_, n), some .string => some (.sym (.int .u8 (XW.bt s n)), some (inB n s.size))
  | _, _, _ => none
def sFieldAddr (P : Program) (s : TypeId) (x : AV) (f : Nat) : Option (AV × Option Prop) := match fieldOf P s f with
  | some fd => match sizeA P fd.type with
    | some (_ + 1) => match x with
      | .sym (.dp t y off) => some (.sym (.dp t y (off + fd.offset)), none)
      | .sym (.ep r e i j) => some (.sym (.ep r e i (j + fd.offset)), none)
      | _ => none
    | _ => none
  | none => none
def sNil (x : AV) : Option (AV × Option Prop) := match x with
  | .sym (.dp t y off) => some (.sym (.dp t y off), none)
  | .sym (.ep r e i j) => some (.sym (.ep r e i j), none)
  | _ => none
def cutAv (P : Program) (t : TypeId) (l : List AV) (off : Nat) : Option AV := match runQ P (isAgg t) with
  | some true => match sizeA P t with
    | some n => match Nat.ble (off + n) l.length with
      | true => some (.agg ((l.drop off).take n))
      | false => none
    | none => none
  | some false => l[off]?
  | none => none
def sLoadD (P : Program) (t : TypeId) (x : AV) : Option (AV × Option Prop) := match x with
  | .sym (.dp ty y off) => match cutAv P t (ty.av y) off with
    | some d => some (d, none)
    | none => none
  | _ => none
def bndS (ρ : Operand → Option AV) (o : Option Operand) (df : Int) : Option Int := match o with
  | none => some df
  | some x => match ρ x with
    | some d => match asI d with
      | some (_, n) => some n
      | none => none
    | none => none
def inC (lo hi : Int) (n : Nat) : Prop := 0 ≤ lo ∧ lo ≤ hi ∧ hi ≤ (n : Int)
def sSlice (P : Program) (M : SH) (ρ : Operand → Option AV) (t : TypeId) (x : AV) (lo hi mx : Option Operand) : Option (AV × Option Prop) := match mx with
  | some _ => none
  | none => match runQ P (underlying t) with
    | some .string => match asS x with
      | some s => match bndS ρ lo 0, bndS ρ hi (s.size : Int) with
        | some l, some h => some (.sym (.str (s.extract l.toNat h.toNat)), some (inC l h s.size))
        | _, _ => none
      | none => none
    | some (.slice el) => match asD M x with
      | some L => match sizeA P el with
        | some s => match Nat.beq s L.t.cells with
          | true => match bndS ρ lo 0, bndS ρ hi (L.l.length : Int) with
            | some l, some h => some (.sym (.dsl L.t ((L.l.take h.toNat).drop l.toNat)), some (inC l h L.l.length))
            | _, _ => none
          | false => none
        | none => none
      | none => none
    | _ => none
def sPlain (P : Program) (M : SH) (ρ : Operand → Option AV) (o : Oper) : Option (AV × Option Prop) := match o.op with
  | .binOp op t x y _ => match ρ x, ρ y with
    | some dx, some dy => sBin P t op dx dy
    | _, _ => none
  | .unOp op _ x => match ρ x with
    | some dx => sUn op dx
    | none => none
  | .convert src dst x => match ρ x with
    | some dx => sConv P src dst dx
    | none => none
  | .call c => sCall P M ρ c
  | .indexAddr t x i => match ρ x, ρ i with
    | some dx, some di => sIdxAddr P M t dx di
    | _, _ => none
  | .index t x i => match ρ x, ρ i with
    | some dx, some di => sIndex P t dx di
    | _, _ => none
  | .fieldAddr s x f => match ρ x with
    | some dx => sFieldAddr P s dx f
    | none => none
  | .nilCheck x => match ρ x with
    | some dx => sNil dx
    | none => none
  | .load t p => match ρ p with
    | some dp => sLoadD P t dp
    | none => none
  | .slice t x lo hi mx => match ρ x with
    | some dx => sSlice P M ρ t dx lo hi mx
    | none => none
  | _ => none
section
variable {P : Program} {C : Cx} {M : SH} {base : Nat} {w : World} {ρ : Operand → Option AV} {e : Operand → Value} {o : Oper} {d : AV} {c : Option Prop}
theorem ctor_arr {c : Call} {cal : Callee} {l : List Operand} (h1 : c.callee = cal) (h2 : c.args.toList = l) : c = ⟨cal, l.toArray, c.argTypes⟩ := by
  cases c
  simp only at h1 h2
  rw [h1, list_arr h2]
theorem sLen_spec (hM : SMem C M base w) {t : TypeId} {ts : List TypeId} {ty : TypeId} {x d : AV} {u : Value} (h : sLenOf M (runQ P (underlying t)) x = some d) (hx : Den C x u) : ∃ v, Den C d v ∧ ∀ w, (Builtin.len_ (t :: ts).toArray ty #[u]).run P w = .ok v w := by
  unfold sLenOf at h
  split at h
  · rename_i hu
    have r1 := runQ_spec P _ _ hu
    split at h
    · rename_i s hs
      cases h
      rw [asS_spec hs hx]
      exact ⟨_, .sym (.int .i64 _), fun w => by simp [Builtin.len_, r1, goInt]⟩
    · cases h
  · rename_i el hu
    have r1 := runQ_spec P _ _ hu
    split at h
    · rename_i L hL
      cases h
      obtain ⟨A, c, rfl, _⟩ := XW.SL_len (asD_spec hM hL hx)
      exact ⟨_, .sym (.int .i64 _), fun w => by simp [Builtin.len_, r1, goInt]⟩
    · split at h
      · rename_i r R hR
        cases h
        obtain ⟨_, _, _, _, h1, h2⟩ := asR_spec hM hR hx
        obtain ⟨A, c, rfl, _⟩ := h1.form
        refine ⟨.int .i64 (R.xs.length : Int), ?_, fun w => by simp [Builtin.len_, r1, goInt]⟩
        unfold lenL
        split
        · rename_i n hn
          rw [h2 n hn]; exact .lit _
        · exact .sym (.int .i64 _)
      · cases h
  · cases h
theorem g_scall (hM : SMem C M base w) (hf : Fine C ρ e) {cl : Call} (ho : o.op = .call cl) (h : sCall P M ρ cl = some (d, c)) (hc : holds c) : Gives P C e o d := by
  unfold sCall at h
  split at h
  · rename_i x h1 h2
    split at h
    · rename_i t ts ht
      split at h
      · rename_i dx hx
        split at h
        · rename_i d' hd
          cases h
          obtain ⟨v, hn, hr⟩ := sLen_spec (P := P) (ts := ts) (ty := o.type) hM hd (hf x _ hx)
          refine ⟨_, hn, fun w => ?_⟩
          rw [ctor_arr h1 h2, list_arr ht] at ho
          have hr := hr w
          simp only [execOp, ho, resolve, invoke, builtin, Sem.run_bind, Sem.run_pure, Result.andThen_ok, List.map_toArray, List.map_cons, List.map_nil, hr]
        · cases h
      · cases h
    · cases h
  · rename_i x y h1 h2
    split at h
    · rename_i dx dy hx hy
      split at h
      · rename_i k a l b ha hb
        cases h
        have e1 := asI_spec ha (hf x _ hx)
        have e2 := asI_spec hb (hf y _ hy)
        rw [ctor_arr h1 h2] at ho
        exact ⟨_, .sym (.int _ _), fun w => by simp [execOp, ho, resolve, invoke, builtin, Builtin.min_, Builtin.min2, e1, e2]⟩
      · cases h
    · cases h
  · rename_i x y h1 h2
    split at h
    · rename_i dx dy hx hy
      split at h
      · rename_i k a l b ha hb
        cases h
        have e1 := asI_spec ha (hf x _ hx)
        have e2 := asI_spec hb (hf y _ hy)
        rw [ctor_arr h1 h2] at ho
        exact ⟨_, .sym (.int _ _), fun w => by simp [execOp, ho, resolve, invoke, builtin, Builtin.max_, Builtin.max2, e1, e2]⟩
      · cases h
    · cases h
  · cases h
theorem g_sun (hf : Fine C ρ e) {op : UnOp} {t : TypeId} {x : Operand} (ho : o.op = .unOp op t x) {dx : AV} (hx : ρ x = some dx) (h : sUn op dx = some (d, c)) (hc : holds c) : Gives P C e o d := by
  have h1 := hf x _ hx
  unfold sUn at h
  split at h
  · split at h
    · rename_i b hb
      cases h
      have e1 := asB_spec hb h1
      exact ⟨_, .sym (.bool _), fun w => by simp [execOp, ho, e1, Op.unary]⟩
    · cases h
  · split at h
    · rename_i k n hn
      cases h
      have e1 := asI_spec hn h1
      exact ⟨_, .sym (.int _ _), fun w => by simp [execOp, ho, e1, Op.unary, Op.intArith]⟩
    · cases h
  · cases h
theorem g_sconv (hf : Fine C ρ e) {src dst : TypeId} {x : Operand} (ho : o.op = .convert src dst x) {dx : AV} (hx : ρ x = some dx) (h : sConv P src dst dx = some (d, c)) (hc : holds c) : Gives P C e o d := by
  have h1 := hf x _ hx
  unfold sConv at h
  split at h
  · rename_i k0 k hs ht
    split at h
    · rename_i k1 n hn
      cases h
      have e1 := asI_spec hn h1
      have r1 := runQ_spec P _ _ hs
      have r2 := runQ_spec P _ _ ht
      exact ⟨_, .sym (.int _ _), fun w => by simp [execOp, ho, e1, convert, r1, r2, Conv.intToInt]⟩
    · cases h
  · rename_i hs ht
    split at h
    · rename_i s hn
      cases h
      have e1 := asS_spec hn h1
      have r1 := runQ_spec P _ _ hs
      have r2 := runQ_spec P _ _ ht
      exact ⟨_, .sym (.str _), fun w => by simp [execOp, ho, e1, convert, r1, r2]⟩
    · cases h
  · cases h
theorem dp_out {t : Ty} {x : t.den} {off : Nat} {u : Value} (h : Den C (.sym (.dp t x off)) u) : ∃ ad : Addr, u = .pointer (some (ad.add off)) ∧ ∀ (j : Nat) (q : DD), (t.dd x)[j]? = some q → ∃ v, C.unk.imm (ad.add j) = some v ∧ RepV C.unk.imm q v := by
  cases sym_inv h with
  | dp h2 => exact ⟨_, rfl, h2⟩
theorem g_sidx (hM : SMem C M base w) (hf : Fine C ρ e) {t : TypeId} {x i : Operand} (ho : o.op = .indexAddr t x i) {dx di : AV} (hx : ρ x = some dx) (hi : ρ i = some di) (h : sIdxAddr P M t dx di = some (d, c)) (hc : holds c) : Gives P C e o d := by
  have h1 := hf x _ hx
  have h2 := hf i _ hi
  unfold sIdxAddr at h
  split at h
  · rename_i k n el hn hu
    have e2 := asI_spec hn h2
    have r1 := runQ_spec P _ _ hu
    split at h
    · rename_i L hL
      split at h
      · rename_i s hs
        split at h
        · rename_i hb
          cases h
          obtain ⟨g1, g2⟩ := hc
          have r2 := runQ_spec P _ _ (show runQ P (sizeOf el) = some s from hs)
          have es := Nat.eq_of_beq_eq_true hb
          have hR := asD_spec hM hL h1
          obtain ⟨A, cp, e1, _⟩ := XW.SL_len hR
          rw [e1] at hR
          obtain ⟨ad, rfl, hcell⟩ := XW.SL_at hR L.t.dflt n g1 g2
          refine ⟨.pointer (some ((ad.add (n.toNat * L.t.cells)).add 0)), .sym (.dp fun j q hq => ?_), fun w => ?_⟩
          · obtain ⟨v, h3, h4⟩ := hcell j q hq
            exact ⟨v, h3, h4⟩
          · simp only [execOp, ho, e1, e2, Instr.indexAt, asIntOf]
            simp [r1, r2, g1, g2, es, XW.addr_add_add]
        · cases h
      · cases h
    · split at h
      · rename_i r R hR
        split at h
        · rename_i s hs
          split at h
          · rename_i hb
            cases h
            obtain ⟨g1, g2⟩ := hc
            have r2 := runQ_spec P _ _ (show runQ P (sizeOf el) = some s from hs)
            have es := Nat.eq_of_beq_eq_true hb
            obtain ⟨_, _, _, hrow, hown, _⟩ := asR_spec hM hR h1
            obtain ⟨A, cp, e1, _⟩ := hown.form
            have hown' := hown
            rw [e1] at hown'
            obtain ⟨ad, rfl⟩ := hown'.addr n g1 g2
            refine ⟨.pointer (some (ad.add (n.toNat * R.t.cells + 0))), .sym (.ep (by rw [hrow, e1])), fun w => ?_⟩
            simp only [execOp, ho, e1, e2, Instr.indexAt, asIntOf]
            simp [r1, r2, g1, g2, es]
          · cases h
        · cases h
      · cases h
  · cases h
theorem g_sindex (hf : Fine C ρ e) {t : TypeId} {x i : Operand} (ho : o.op = .index t x i) {dx di : AV} (hx : ρ x = some dx) (hi : ρ i = some di) (h : sIndex P t dx di = some (d, c)) (hc : holds c) : Gives P C e o d := by
  unfold sIndex at h
  split at h
  · rename_i s k n hs hn hu
    cases h
    obtain ⟨g1, g2⟩ := hc
    have e1 := asS_spec hs (hf x _ hx)
    have e2 := asI_spec hn (hf i _ hi)
    have r1 := runQ_spec P _ _ hu
    have hlt : n.toNat < s.size := by omega
    have hg : s[n.toNat]? = some (s[n.toNat]'hlt) := getElem?_pos s _ hlt
    refine ⟨_, .sym (.int _ _), fun w => ?_⟩
    simp only [execOp, ho, e1, e2, Instr.index, asIntOf]
    simp [r1, g1, hg, ← XW.bt_at s n hlt]
  · cases h
theorem g_sfield (hf : Fine C ρ e) {s : TypeId} {x : Operand} {f : Nat} (ho : o.op = .fieldAddr s x f) {dx : AV} (hx : ρ x = some dx) (h : sFieldAddr P s dx f = some (d, c)) (hc : holds c) : Gives P C e o d := by
  have h1 := hf x _ hx
  unfold sFieldAddr at h
  split at h
  · rename_i fd hfd
    split at h
    · rename_i m hs
      unfold fieldOf at hfd
      split at hfd
      · rename_i fields hu
        have r1 := runQ_spec P _ _ hu
        have r2 := runQ_spec P _ _ (show runQ P (sizeOf fd.type) = some (m + 1) from hs)
        split at h
        · rename_i t y off
          cases h
          obtain ⟨ad, e1, h2⟩ := dp_out h1
          refine ⟨.pointer (some (ad.add (off + fd.offset))), .sym (.dp h2), fun w => ?_⟩
          simp [execOp, ho, Instr.fieldAt, r1, hfd, e1, Instr.sureAddr, fieldPlace, r2, XW.addr_add_add]
        · rename_i r e' i j
          cases h
          cases hh : e x with
          | pointer a =>
            rw [hh] at h1
            generalize hv : Value.pointer a = v at h1
            cases sym_inv h1 with
            | @ep _ _ _ _ n c ad h2 =>
              refine ⟨.pointer (some (ad.add (i * e' + (j + fd.offset)))), .sym (.ep h2), fun w => ?_⟩
              rw [hv] at hh
              simp [execOp, ho, Instr.fieldAt, r1, hfd, hh, Instr.sureAddr, fieldPlace, r2, XW.addr_add_add, Nat.add_assoc]
          | _ =>
            rw [hh] at h1
            generalize hv : e x = v at hh
            subst hh
            cases sym_inv h1
        · cases h
      · cases hfd
    · cases h
  · cases h
theorem g_snil (hf : Fine C ρ e) {x : Operand} (ho : o.op = .nilCheck x) {dx : AV} (hx : ρ x = some dx) (h : sNil dx = some (d, c)) (hc : holds c) : Gives P C e o d := by
  have h1 := hf x _ hx
  unfold sNil at h
  split at h
  · cases h
    obtain ⟨ad, e1, h2⟩ := dp_out h1
    exact ⟨_, .sym (.dp h2), fun w => by simp [execOp, ho, e1]⟩
  · cases h
    generalize hv : e x = v at h1
    cases sym_inv h1 with
    | ep h2 => exact ⟨_, .sym (.ep h2), fun w => by simp [execOp, ho, hv]⟩
  · cases h
theorem dp_read {t : Ty} {x : t.den} {I : Imm} {ad : Addr} (h : ∀ (j : Nat) (q : DD), (t.dd x)[j]? = some q → ∃ u, I (ad.add j) = some u ∧ RepV I q u) : ∃ us : List Value, All2 I (t.dd x) us ∧ ∀ (j : Nat) (u : Value), us[j]? = some u → I (ad.add j) = some u := by
  have hg : ∀ j, j < (t.dd x).length → ∃ u, I (ad.add j) = some u := fun j hj => by
    obtain ⟨u, hu, _⟩ := h j _ (List.getElem?_eq_getElem hj)
    exact ⟨u, hu⟩
  have key : ∀ (j : Nat) (u : Value), ((List.range (t.dd x).length).map fun j => (I (ad.add j)).getD undef)[j]? = some u → j < (t.dd x).length ∧ I (ad.add j) = some u := by
    intro j u hu
    rw [List.getElem?_map, Option.map_eq_some_iff] at hu
    obtain ⟨j', hj', rfl⟩ := hu
    have hlt : j < (t.dd x).length := by have := (List.getElem?_eq_some_iff.1 hj').1; simpa using this
    rw [List.getElem?_range hlt] at hj'
    cases hj'
    obtain ⟨v, hv⟩ := hg j hlt
    refine ⟨hlt, ?_⟩
    rw [hv]; rfl
  refine ⟨(List.range (t.dd x).length).map fun j => (I (ad.add j)).getD undef, XW.All2.of (by simp) (fun i q u hq hu => ?_), fun j u hu => (key j u hu).2⟩
  obtain ⟨_, h1⟩ := key i u hu
  obtain ⟨v, h2, h3⟩ := h i q hq
  rw [h1] at h2; cases h2; exact h3
theorem cut_run {t : TypeId} {l : List AV} {off : Nat} {us : List Value} (h : cutAv P t l off = some d) (hd : Dens C l us) (ad : Addr) : ∃ v, Den C d v ∧ ∀ w : World, (∀ (j : Nat) (u : Value), us[j]? = some u → w.cell? (ad.add j) = some u) → (loadVar t (ad.add off)).run P w = .ok v w := by
  unfold cutAv at h
  split at h
  · rename_i ha
    split at h
    · rename_i n hn
      split at h
      · rename_i hb
        cases h
        have hle := Nat.le_of_ble_eq_true hb
        have r1 := runQ_spec P _ _ ha
        have r2 := runQ_spec P _ _ (show runQ P (sizeOf t) = some n from hn)
        have hD := (hd.drop off).take n
        refine ⟨.agg ((us.drop off).take n).toArray, .agg hD.1 hD.2, fun w hw => ?_⟩
        have hl : ((us.drop off).take n).length = n := by rw [List.length_take, List.length_drop, hd.1]; omega
        have r3 := run_loadCells_list (P := P) w (ad.add off) ((us.drop off).take n) (fun j u hu => by
          rw [XW.addr_add_add]
          rw [List.getElem?_take] at hu
          split at hu
          · rw [List.getElem?_drop] at hu; exact hw _ u hu
          · cases hu)
        rw [hl] at r3
        simp [loadVar, r1, r2, r3]
      · cases h
    · cases h
  · rename_i ha
    have r1 := runQ_spec P _ _ ha
    obtain ⟨u, hu, hD⟩ := hd.at h
    refine ⟨u, hD, fun w hw => ?_⟩
    have := hw _ u hu
    simp [loadVar, r1, load, Sem.run, this]
  · cases h
theorem g_sload (hf : Fine C ρ e) {t : TypeId} {p : Operand} (ho : o.op = .load t p) {dp : AV} (hp : ρ p = some dp) (h : sLoadD P t dp = some (d, c)) (hc : holds c) : GivesI P C e o d := by
  have h1 := hf p _ hp
  unfold sLoadD at h
  split at h
  · rename_i ty y off
    split at h
    · rename_i d' hd
      cases h
      obtain ⟨ad, e1, h2⟩ := dp_out h1
      obtain ⟨us, h3, h4⟩ := dp_read h2
      obtain ⟨v, h5, h6⟩ := cut_run (P := P) (C := C) hd (av_of ty y h3) ad
      refine ⟨v, h5, fun w hw => ?_⟩
      have := h6 w (fun j u hu => hw _ _ (h4 j u hu))
      simp [execOp, ho, e1, Instr.loadAt, Instr.sureAddr, this]
    · cases h
  · cases h
theorem bndS_spec (hf : Fine C ρ e) {x : Option Operand} {df n : Int} (h : bndS ρ x df = some n) : (x.map e = none ∧ n = df) ∨ ∃ k, x.map e = some (.int k n) := by
  unfold bndS at h
  split at h
  · cases h; exact .inl ⟨rfl, rfl⟩
  · rename_i y
    split at h
    · rename_i d hd
      split at h
      · rename_i k m hm
        cases h
        exact .inr ⟨k, by simp [asI_spec hm (hf y _ hd)]⟩
      · cases h
    · cases h
theorem g_sslice (hM : SMem C M base w) (hf : Fine C ρ e) {t : TypeId} {x : Operand} {lo hi mx : Option Operand} (ho : o.op = .slice t x lo hi mx) {dx : AV} (hx : ρ x = some dx) (h : sSlice P M ρ t dx lo hi mx = some (d, c)) (hc : holds c) : Gives P C e o d := by
  have h1 := hf x _ hx
  unfold sSlice at h
  split at h
  · cases h
  · split at h
    · rename_i hu
      have r1 := runQ_spec P _ _ hu
      split at h
      · rename_i s hs
        have e1 := asS_spec hs h1
        split at h
        · rename_i l h' hl hh
          cases h
          obtain ⟨g0, g1, g2⟩ := hc
          refine ⟨_, .sym (.str _), fun w => ?_⟩
          have hb := XW.run_sliceBounds' (P := P) w false s.size s.size _ _ l h' (bndS_spec hf hl) (bndS_spec hf hh) g0 g1 g2
          simp only [execOp, ho, e1, Instr.sliceAt]
          simp [r1, Instr.slice, hb]
        · cases h
      · cases h
    · rename_i el hu
      have r1 := runQ_spec P _ _ hu
      split at h
      · rename_i L hL
        split at h
        · rename_i s hs
          split at h
          · rename_i hb
            have es := Nat.eq_of_beq_eq_true hb
            have r2 := runQ_spec P _ _ (show runQ P (sizeOf el) = some s from hs)
            split at h
            · rename_i l h' hl hh
              cases h
              obtain ⟨g0, g1, g2⟩ := hc
              have hR := asD_spec hM hL h1
              obtain ⟨A, cp, e1, hcp, _⟩ := XW.SL_len hR
              rw [e1] at hR
              have hcut := XW.SL_cut hR (lo := l.toNat) (hi := h'.toNat) (by omega) (by omega)
              refine ⟨_, .sym (.dsl hcut), fun w => ?_⟩
              have hlen : ((L.l.take h'.toNat).drop l.toNat).length = h'.toNat - l.toNat := by rw [List.length_drop, List.length_take]; omega
              rw [hlen]
              have hbb := XW.run_sliceBounds' (P := P) w true L.l.length cp _ _ l h' (bndS_spec hf hl) (bndS_spec hf hh) g0 g1 (by omega)
              simp only [execOp, ho, e1, Instr.sliceAt]
              simp [r1, Instr.slice, hbb, r2, XW.cutA, es]
            · cases h
          · cases h
        · cases h
      · cases h
    · cases h
theorem splain_spec (hM : SMem C M base w) (hf : Fine C ρ e) (h : sPlain P M ρ o = some (d, c)) (hc : holds c) : GivesI P C e o d := by
  unfold sPlain at h
  split at h
  · split at h
    · exact (g_sbin hf (by assumption) (by assumption) (by assumption) h hc).gi
    · cases h
  · split at h
    · exact (g_sun hf (by assumption) (by assumption) h hc).gi
    · cases h
  · split at h
    · exact (g_sconv hf (by assumption) (by assumption) h hc).gi
    · cases h
  · exact (g_scall hM hf (by assumption) h hc).gi
  · split at h
    · exact (g_sidx hM hf (by assumption) (by assumption) (by assumption) h hc).gi
    · cases h
  · split at h
    · exact (g_sindex hf (by assumption) (by assumption) (by assumption) h hc).gi
    · cases h
  · split at h
    · exact (g_sfield hf (by assumption) (by assumption) h hc).gi
    · cases h
  · split at h
    · exact (g_snil hf (by assumption) (by assumption) h hc).gi
    · cases h
  · split at h
    · exact g_sload hf (by assumption) (by assumption) h hc
    · cases h
  · split at h
    · exact (g_sslice hM hf (by assumption) (by assumption) h hc).gi
    · cases h
  · cases h
def factP (M : SH) (ρ : Operand → Option AV) (o : Oper) : Option Prop := match o.op with
  | .call c => match c.callee, c.args.toList with
    | .builtin .len, [x] => match ρ x with
      | some dx => match asD M dx with
        | some L => some (L.l.length ≤ 9223372036854775807)
        | none => match asR M dx with
          | some (_, R) => match R.cl with
            | some _ => none
            | none => some (R.xs.length ≤ 9223372036854775807)
          | none => none
      | none => none
    | _, _ => none
  | _ => none
theorem factP_spec {q : Prop} (hM : SMem C M base w) (hf : Fine C ρ e) (h : factP M ρ o = some q) : q := by
  unfold factP at h
  split at h
  · split at h
    · split at h
      · rename_i dx hx
        split at h
        · rename_i L hL
          cases h
          obtain ⟨A, c, _, _, h3⟩ := XW.SL_len (asD_spec hM hL (hf _ _ hx))
          exact h3
        · split at h
          · rename_i r R hR
            split at h
            · cases h
            · cases h
              obtain ⟨_, _, _, _, h1, _⟩ := asR_spec hM hR (hf _ _ hx)
              obtain ⟨A, c, _, _, h3⟩ := h1.form
              exact h3
          · cases h
      · cases h
    · cases h
  · cases h
def withF (M : SH) : Option Prop → SH
  | none => M
  | some q => { M with pc := M.pc ∧ q }
theorem withF_step (hM : SMem C M base w) {q : Option Prop} (hq : ∀ p, q = some p → p) : SStep C C M (withF M q) base w w := by
  cases q with
  | none => exact SStep.refl hM
  | some p => exact hM.cond (p := M.pc ∧ p) ⟨hM.pc, hq p rfl⟩
end
end Go.EV
