/- Texts that the proof of a law rests on, put together: part 21. -/
import Derived.Test.YtajnboigikdefaaDoorFg20
namespace Go.EV
open Go Go.RowKit
open Go.XW (Imm Fits DD RepV SL LeafOk leafB Own Apart addI All2 Src Cells)
set_option linter.unusedVariables false
set_option linter.unusedSimpArgs false
def shutR (M : SH) (r : Nat) : SH := match rowGet M.rows r with
  | some R => match R.fr with
    | true => M
    | false => { M with rows := rowSet r { R with fr := true } M.rows }
  | none => M
def shutA (M : SH) : AV → SH
  | .sym (.rs r) => shutR M r
  | _ => M
def shutL (M : SH) : List AV → SH
  | [] => M
  | d :: r => shutL (shutA M d) r
def shutD (M : SH) : AV → SH
  | .agg l => shutL M l
  | d => shutA M d
section
variable {C : Cx} {M : SH} {base : Nat} {w : World}
def Told (C : Cx) (M M' : SH) (base : Nat) (w : World) : Prop := ∃ C', SStep C C' M M' base w w
theorem Told.refl (h : SMem C M base w) : Told C M M base w := ⟨C, SStep.refl h⟩
theorem shutR_spec (h : SMem C M base w) (r : Nat) : Told C M (shutR M r) base w := by
  unfold shutR
  split
  · rename_i R hR
    split
    · exact .refl h
    · rename_i hf
      obtain ⟨v, h1, _⟩ := h.row r R hR
      exact ⟨_, h.shut hR hf h1⟩
  · exact .refl h
theorem shutA_spec (h : SMem C M base w) (d : AV) : Told C M (shutA M d) base w := by
  unfold shutA
  split
  · exact shutR_spec h _
  · exact .refl h
theorem shutL_spec : ∀ (l : List AV) {C : Cx} {M : SH}, SMem C M base w → Told C M (shutL M l) base w
  | [], C, M, h => .refl h
  | d :: r, C, M, h => by
    obtain ⟨C1, h1⟩ := shutA_spec h d
    obtain ⟨C2, h2⟩ := shutL_spec r h1.mem
    exact ⟨C2, h1.trans h2⟩
theorem shutD_spec (h : SMem C M base w) (d : AV) : Told C M (shutD M d) base w := by
  unfold shutD
  split
  · exact shutL_spec _ h
  · exact shutA_spec h _
end
def asF : AV → Option (FloatKind × Nat)
  | .lit (.float k n) => some (k, n)
  | .sym (.flt k n) => some (k, n)
  | _ => none
def sameF : FloatKind → FloatKind → Bool
  | .f32, .f32 => true
  | .f64, .f64 => true
  | _, _ => false
theorem sameF_eq {k l : FloatKind} (h : sameF k l = true) : k = l := by cases k <;> cases l <;> first | rfl | cases h
theorem asF_spec {C : Cx} {d : AV} {u : Value} {k : FloatKind} {n : Nat} (h : asF d = some (k, n)) (hd : Den C d u) : u = .float k n := by
  unfold asF at h
  split at h
  · cases h; cases hd; rfl
  · cases h; cases sym_inv hd; rfl
  · cases h
def castL {a b : Ty} (h : a = b) (l : List a.den) : List b.den := h ▸ l
def isNilA : AV → Bool
  | .lit (.slice none 0 0) => true
  | _ => false
def toL (M : SH) (t : Ty) (d : AV) : Option (List t.den) := match isNilA d with
  | true => some []
  | false => match asD M d with
    | some L => if h : L.t = t then some (castL h L.l) else none
    | none => none
def ofAv (M : SH) : (t : Ty) → List AV → Option (t.den × List AV)
  | .int k, d :: r => match asI d with
    | some (l, n) => match sameKind l k with
      | true => some (n, r)
      | false => none
    | none => none
  | .bool, d :: r => match asB d with
    | some b => some (b, r)
    | none => none
  | .str, d :: r => match asS d with
    | some s => some (s, r)
    | none => none
  | .flt k, d :: r => match asF d with
    | some (l, n) => match sameF l k with
      | true => some (n, r)
      | false => none
    | none => none
  | .sl t, d :: r => match toL M t d with
    | some l => some (l, r)
    | none => none
  | .pr a b, l => match ofAv M a l with
    | some (x, m) => match ofAv M b m with
      | some (y, r) => some ((x, y), r)
      | none => none
    | none => none
  | .tree, d1 :: d2 :: d3 :: r => match asI d1, asI d2, toL M .tree d3 with
    | some (k1, s), some (k2, p), some l => match sameKind k1 .i64, sameKind k2 .i64 with
      | true, true => some (.mk s p l, r)
      | _, _ => none
    | _, _, _ => none
  | _, _ => none
def ofAvs (M : SH) (t : Ty) : Nat → List AV → Option (List t.den)
  | 0, [] => some []
  | n + 1, l => match ofAv M t l with
    | some (x, r) => match ofAvs M t n r with
      | some xs => some (x :: xs)
      | none => none
    | none => none
  | _, _ => none
section
variable {C : Cx} {M : SH} {base : Nat} {w : World}
theorem toL_spec (hM : SMem C M base w) {t : Ty} {d : AV} {l : List t.den} {u : Value} (h : toL M t d = some l) (hd : Den C d u) : RepV C.unk.imm (SL t.cells t.dd l) u := by
  unfold toL at h
  split at h
  · rename_i hn
    cases h
    unfold isNilA at hn
    split at hn
    · cases hd; exact .nil _ _
    · cases hn
  · split at h
    · rename_i L hL
      split at h
      · rename_i ht
        cases h
        have := asD_spec hM hL hd
        obtain ⟨t', l'⟩ := L
        simp only at ht this ⊢
        subst ht
        exact this
      · cases h
    · cases h
theorem ofAv_spec (hM : SMem C M base w) : ∀ (t : Ty) (l : List AV) (x : t.den) (r : List AV) (us : List Value), ofAv M t l = some (x, r) → Dens C l us → ∃ a b, us = a ++ b ∧ All2 C.unk.imm (t.dd x) a ∧ Dens C r b
  | .int k, [], x, r, us, h, hd => by simp [ofAv] at h
  | .int k, d :: m, x, r, us, h, hd => by
    obtain ⟨u, vs, rfl, h1, h2⟩ := hd.cons_inv
    simp only [ofAv] at h
    split at h
    · rename_i l n hn
      split at h
      · rename_i hk
        cases h
        obtain rfl := sameKind_eq hk
        refine ⟨[u], vs, rfl, ⟨?_, trivial⟩, h2⟩
        rw [asI_spec hn h1]; exact .val _
      · cases h
    · cases h
  | .bool, [], x, r, us, h, hd => by simp [ofAv] at h
  | .bool, d :: m, x, r, us, h, hd => by
    obtain ⟨u, vs, rfl, h1, h2⟩ := hd.cons_inv
    simp only [ofAv] at h
    split at h
    · rename_i b hb
      cases h
      refine ⟨[u], vs, rfl, ⟨?_, trivial⟩, h2⟩
      rw [asB_spec hb h1]; exact .val _
    · cases h
  | .str, [], x, r, us, h, hd => by simp [ofAv] at h
  | .str, d :: m, x, r, us, h, hd => by
    obtain ⟨u, vs, rfl, h1, h2⟩ := hd.cons_inv
    simp only [ofAv] at h
    split at h
    · rename_i b hb
      cases h
      refine ⟨[u], vs, rfl, ⟨?_, trivial⟩, h2⟩
      rw [asS_spec hb h1]; exact .val _
    · cases h
  | .flt k, [], x, r, us, h, hd => by simp [ofAv] at h
  | .flt k, d :: m, x, r, us, h, hd => by
    obtain ⟨u, vs, rfl, h1, h2⟩ := hd.cons_inv
    simp only [ofAv] at h
    split at h
    · rename_i l n hn
      split at h
      · rename_i hk
        cases h
        obtain rfl := sameF_eq hk
        refine ⟨[u], vs, rfl, ⟨?_, trivial⟩, h2⟩
        rw [asF_spec hn h1]; exact .val _
      · cases h
    · cases h
  | .sl t, [], x, r, us, h, hd => by simp [ofAv] at h
  | .sl t, d :: m, x, r, us, h, hd => by
    obtain ⟨u, vs, rfl, h1, h2⟩ := hd.cons_inv
    simp only [ofAv] at h
    split at h
    · rename_i l hl
      cases h
      exact ⟨[u], vs, rfl, ⟨toL_spec hM hl h1, trivial⟩, h2⟩
    · cases h
  | .pr a b, l, x, r, us, h, hd => by
    simp only [ofAv] at h
    split at h
    · rename_i x1 m1 h1
      split at h
      · rename_i x2 r2 h2
        cases h
        obtain ⟨p, q, rfl, h3, h4⟩ := ofAv_spec hM a l x1 m1 us h1 hd
        obtain ⟨p2, q2, rfl, h5, h6⟩ := ofAv_spec hM b m1 x2 r q h2 h4
        exact ⟨p ++ p2, q2, by rw [List.append_assoc], All2.append h3 h5, h6⟩
      · cases h
    · cases h
  | .tree, [], x, r, us, h, hd => by simp [ofAv] at h
  | .tree, [_], x, r, us, h, hd => by simp [ofAv] at h
  | .tree, [_, _], x, r, us, h, hd => by simp [ofAv] at h
  | .tree, d1 :: d2 :: d3 :: m, x, r, us, h, hd => by
    obtain ⟨u1, vs1, rfl, h1, k1⟩ := hd.cons_inv
    obtain ⟨u2, vs2, rfl, h2, k2⟩ := k1.cons_inv
    obtain ⟨u3, vs3, rfl, h3, k3⟩ := k2.cons_inv
    simp only [ofAv] at h
    split at h
    · rename_i q1 s q2 p l hs hp hl
      split at h
      · rename_i hk1 hk2
        cases h
        obtain rfl := sameKind_eq hk1
        obtain rfl := sameKind_eq hk2
        refine ⟨[u1, u2, u3], vs3, rfl, ?_, k3⟩
        show All2 C.unk.imm (Tree.mk s p l).dd _
        rw [Tree.dd_eq]
        refine ⟨?_, ?_, toL_spec hM hl h3, trivial⟩
        · rw [asI_spec hs h1]; exact .val _
        · rw [asI_spec hp h2]; exact .val _
      · cases h
    · cases h
theorem ofAvs_spec (hM : SMem C M base w) (t : Ty) : ∀ (n : Nat) (l : List AV) (xs : List t.den) (us : List Value), ofAvs M t n l = some xs → Dens C l us → xs.length = n ∧ All2 C.unk.imm (xs.flatMap t.dd) us
  | 0, [], xs, us, h, hd => by
    simp only [ofAvs, Option.some.injEq] at h
    subst h
    rw [hd.nil_inv]
    exact ⟨rfl, trivial⟩
  | 0, _ :: _, xs, us, h, hd => by simp [ofAvs] at h
  | n + 1, l, xs, us, h, hd => by
    simp only [ofAvs] at h
    split at h
    · rename_i x r h1
      split at h
      · rename_i ys h2
        cases h
        obtain ⟨a, b, rfl, h3, h4⟩ := ofAv_spec hM t l x r us h1 hd
        obtain ⟨h5, h6⟩ := ofAvs_spec hM t n r ys b h2 h4
        refine ⟨by simp [h5], ?_⟩
        rw [List.flatMap_cons]
        exact All2.append h3 h6
      · cases h
    · cases h
end
def prs : List Ty → Option Ty
  | [] => none
  | [t] => some t
  | t :: r => match prs r with
    | some u => some (.pr t u)
    | none => none
def mapO {α β : Type} (f : α → Option β) : List α → Option (List β)
  | [] => some []
  | a :: r => match f a, mapO f r with
    | some b, some l => some (b :: l)
    | _, _ => none
def isTree (P : Program) (t : TypeId) : List Field → Bool
  | [a, b, c] => match runQ P (underlying a.type), runQ P (underlying b.type), runQ P (underlying c.type) with
    | some (.int .i64), some (.int .i64), some (.slice e) => Nat.beq e t
    | _, _, _ => false
  | _ => false
def tyOf (P : Program) : Nat → TypeId → Option Ty
  | 0, _ => none
  | n + 1, t => match runQ P (underlying t) with
    | some (.int k) => some (.int k)
    | some .bool => some .bool
    | some .string => some .str
    | some (.float k) => some (.flt k)
    | some (.slice e) => match tyOf P n e with
      | some u => some (.sl u)
      | none => none
    | some (.struct fs) => match isTree P t fs.toList with
      | true => some .tree
      | false => match mapO (fun f => tyOf P n f.type) fs.toList with
        | some l => prs l
        | none => none
    | _ => none
def DoesS (P : Program) (C : Cx) (M M' : SH) (base : Nat) (w : World) (e : Operand → Value) (o : Oper) (r : Option AV) : Prop :=
  ∃ C' w', SStep C C' M M' base w w' ∧ match r with
    | some d => ∃ v, Den C' d v ∧ (execOp e o).run P w = .ok (.value v) w'
    | none => (execOp e o).run P w = .ok .skip w'
section
variable {P : Program} {C : Cx} {M M' : SH} {base : Nat} {w : World} {ρ : Operand → Option AV} {e : Operand → Value} {o : Oper} {d : AV} {c : Prop}
def newR (M : SH) (t : Ty) (T : TypeId) (xs : List t.den) (cl : Option Nat) : AV × SH := (.sym (.rs M.nr), { M with rows := (M.nr, ⟨t, T, xs, cl, false⟩) :: M.rows, nr := M.nr + 1 })
def nextR (M : SH) (r : Nat) (t : Ty) (T : TypeId) (xs : List t.den) (cl : Option Nat) : AV × SH := (.sym (.rs M.nr), { M with rows := (M.nr, ⟨t, T, xs, cl, false⟩) :: rowDel r M.rows, nr := M.nr + 1 })
def sMake (P : Program) (M : SH) (ρ : Operand → Option AV) (o : Oper) : Option (AV × SH) := match floatA P ρ o with
  | some (.sl len cap size, cs, el) => match Nat.beq len cap, tyOf P 6 el with
    | true, some t => match Nat.beq size t.cells, ofAvs (shutL M cs) t len cs, Nat.beq cs.length (len * size) with
      | true, some xs, true => some (newR (shutL M cs) t el xs (some len))
      | _, _, _ => none
    | _, _ => none
  | _ => none
theorem newRow_of {M1 : SH} {w' : World} {t : Ty} {T : TypeId} {xs : List t.den} {cl : Option Nat} {v : Value} (hM : SMem C M1 base w) (hown : Own base C.unk.imm w' T t.cells t.dd xs v) (hcl : ∀ n, cl = some n → xs.length = n) (hg : w.grownBy w' none) (hb : ∀ g, v.ownBlock = some g → g = w.heap.size) :
    ∃ C', SStep C C' M1 (newR M1 t T xs cl).2 base w w' ∧ Den C' (newR M1 t T xs cl).1 v := by
  have hlt : ∀ g, v.ownBlock = some g → g < w'.heap.size := fun g hg => (hown.lt g hg).2
  refine ⟨_, hM.newRow ⟨t, T, xs, cl, false⟩ v M1.rows (fun j Q h => h) none ⟨fun _ => hown, (fun h => by cases h), hcl⟩ hg (fun g hg => .inr (hb g hg)) hlt rfl (fun g h => by cases h), ?_⟩
  obtain ⟨A, c', rfl, _⟩ := hown.form
  exact .sym (.rs (Cx.withRow_same _ _ _))
theorem d_smake (hM : SMem C M base w) (hf : Fine C ρ e) (h : sMake P M ρ o = some (d, M')) : DoesS P C M M' base w e o (some d) := by
  unfold sMake at h
  split at h
  · rename_i len cap size cs el hfl
    split at h
    · rename_i t hlc ht
      split at h
      · rename_i xs hs hxs hcl
        cases h
        have elc := Nat.eq_of_beq_eq_true hlc
        subst elc
        have es := Nat.eq_of_beq_eq_true hs
        have ecl := Nat.eq_of_beq_eq_true hcl
        obtain ⟨arr, h1, ⟨_, hm, _⟩, h3⟩ := float_run (P := P) (o := o) hf hfl
        obtain ⟨C1, hS1⟩ := shutL_spec cs hM
        obtain ⟨h5, h6⟩ := ofAvs_spec hS1.mem t len cs xs arr.toList hxs (h1.smono hS1.ext)
        have hown := Own.made (T := el) t.leafOk hS1.mem.fits hS1.mem.mem.base xs arr h6 (by rw [h5]; exact hm)
        rw [h5] at hown
        obtain ⟨C2, hS2, hD⟩ := newRow_of (cl := some len) hS1.mem hown (fun n hn => by cases hn; exact h5) (World.grownBy_alloc w _ none) (fun g hg => by simp [Value.ownBlock] at hg; exact hg.symm)
        exact ⟨C2, _, hS1.trans hS2, _, hD, h3 w⟩
      · cases h
    · cases h
  · cases h
end
end Go.EV
