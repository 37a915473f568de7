/- Texts that the proof of a law rests on, put together: part 42. -/
import Derived.Test.YtajnboigikdefaaDoorFg41
namespace Go.EV
open Go Go.RowKit
open Go.XW (Imm Fits DD RepV SL LeafOk leafB Own Apart addI All2 Cells)
set_option linter.unusedVariables false
set_option linter.unusedSimpArgs false
section
variable {α : Type}
def decN (f : List AV → Option (α × List AV)) : Nat → List AV → Option (List α)
  | 0, _ => some []
  | n + 1, l => match f l with
    | some (x, r) => match decN f n r with
      | some xs => some (x :: xs)
      | none => none
    | none => none
def decS (bs : List Blk) (f : List AV → Option (α × List AV)) (c : Nat) : AV → Option (List α)
  | .lit (.slice none 0 0) => some []
  | .empty => some []
  | .sl b ver off len _ es => match len with
    | 0 => some []
    | k + 1 => match bs[b]? with
      | some B => match verN B.vers ver with
        | some n => match Nat.beq es c, Nat.ble (off + (k + 1) * c) n with
          | true, true => decN f (k + 1) ((B.cells.drop off).take ((k + 1) * c))
          | _, _ => none
        | none => none
      | none => none
  | _ => none
end
def decT (bs : List Blk) (ih : (t : Ty) → List AV → Option (t.den × List AV)) : (t : Ty) → List AV → Option (t.den × List AV)
  | .int k, d :: r => match asI d with
    | some (l, n) => match sameKind l k with
      | true => some (n, r)
      | false => none
    | none => none
  | .bool, d :: r => match asB d with
    | some b => some (b, r)
    | none => none
  | .str, d :: r => match asS d with
    | some s => some (s, r)
    | none => none
  | .flt k, d :: r => match asF d with
    | some (l, n) => match sameF l k with
      | true => some (n, r)
      | false => none
    | none => none
  | .sl t, d :: r => match decS bs (ih t) t.cells d with
    | some l => some (l, r)
    | none => none
  | .pr a b, l => match decT bs ih a l with
    | some (x, m) => match decT bs ih b m with
      | some (y, r) => some ((x, y), r)
      | none => none
    | none => none
  | .tree, d1 :: d2 :: d3 :: r => match asI d1, asI d2, decS bs (ih .tree) 3 d3 with
    | some (k1, s), some (k2, p), some l => match sameKind k1 .i64, sameKind k2 .i64 with
      | true, true => some (.mk s p l, r)
      | _, _ => none
    | _, _, _ => none
  | _, _ => none
def decC (bs : List Blk) : Nat → (t : Ty) → List AV → Option (t.den × List AV)
  | 0, _, _ => none
  | n + 1, t, l => decT bs (decC bs n) t l
def decArg (bs : List Blk) (t : Ty) (d : AV) : Option t.den := match t.isAgg with
  | true => match d with
    | .agg l => match decC bs 20 t l with
      | some (x, []) => some x
      | _ => none
    | _ => none
  | false => match decC bs 20 t [d] with
    | some (x, []) => some x
    | _ => none
structure Lies (C : Cx) (bs : List Blk) (base : Nat) (w : World) (I : Imm) : Prop where
  mem : Mem C (ofL bs) base w
  sm : bs.length < 2 ^ 40 - 1
  imm : ∀ b v loc, C.at_ b v = some loc → ∀ (a : Addr) u, a.block = loc.blk → w.cell? a = some u → I a = some u
section
variable {C : Cx} {bs : List Blk} {base : Nat} {w : World} {I : Imm} {α : Type}
def FSpec (C : Cx) (I : Imm) (f : List AV → Option (α × List AV)) (dd : α → List DD) : Prop := ∀ (l : List AV) (x : α) (r : List AV) (us : List Value), f l = some (x, r) → Dens C l us → ∃ a b, us = a ++ b ∧ All2 I (dd x) a ∧ Dens C r b
theorem decN_spec {f : List AV → Option (α × List AV)} {dd : α → List DD} (hf : FSpec C I f dd) : ∀ (n : Nat) (l : List AV) (xs : List α) (us : List Value), decN f n l = some xs → Dens C l us → xs.length = n ∧ ∃ a b, us = a ++ b ∧ All2 I (xs.flatMap dd) a
  | 0, l, xs, us, h, hd => by
    simp only [decN, Option.some.injEq] at h
    subst h
    exact ⟨rfl, [], us, rfl, trivial⟩
  | n + 1, l, xs, us, h, hd => by
    simp only [decN] at h
    split at h
    · rename_i x r h1
      split at h
      · rename_i ys h2
        cases h
        obtain ⟨a, b, rfl, h3, h4⟩ := hf l x r us h1 hd
        obtain ⟨h5, a2, b2, rfl, h6⟩ := decN_spec hf n r ys b h2 h4
        refine ⟨by simp [h5], a ++ a2, b2, by rw [List.append_assoc], ?_⟩
        rw [List.flatMap_cons]
        exact All2.append h3 h6
      · cases h
    · cases h
theorem decS_spec (hL : Lies C bs base w I) {f : List AV → Option (α × List AV)} {dd : α → List DD} (hf : FSpec C I f dd) {c : Nat} (hlf : LeafOk c dd) {d : AV} {xs : List α} {u : Value} (h : decS bs f c d = some xs) (hd : Den C d u) : RepV I (SL c dd xs) u := by
  unfold decS at h
  split at h
  · cases h; cases hd; exact .nil _ _
  · cases h; cases hd; exact .nil _ _
  · rename_i b ver off len cap es
    cases hd with
    | @sl _ _ _ _ _ _ loc k hl h1 h3 h4 h5 h6 =>
    cases len with
    | zero => simp only at h; cases h; exact .nil _ _
    | succ m =>
    simp only at h
    split at h
    · rename_i B hB
      split at h
      · rename_i n hv
        split at h
        · rename_i hes hle
          have hes := Nat.eq_of_beq_eq_true hes
          have hle := Nat.le_of_ble_eq_true hle
          subst hes
          have hget : (ofL bs).get b = some B := by rw [ofL_get hL.sm]; exact hB
          have hloc := (hL.mem.blk b B hget).2
          have hcell : ∀ i, off ≤ i → i < n → ∃ d u, B.cells[i]? = some d ∧ w.cell? (loc.ad i) = some u ∧ Den C d u := fun i hi hin => hloc.cell ver n loc (verN_mem hv) hl i (by omega) hin
          -- the values that lie there
          have hex : ∀ k, k ≤ (m + 1) * es → ∃ vs : List Value, vs.length = k ∧ ∀ j u, vs[j]? = some u → w.cell? (loc.ad (off + j)) = some u ∧ ∃ d, B.cells[off + j]? = some d ∧ Den C d u := by
            intro k
            induction k with
            | zero => intro _; exact ⟨[], rfl, fun j u hj => by simp at hj⟩
            | succ k ih =>
              intro hk
              obtain ⟨vs, h7, h8⟩ := ih (by omega)
              obtain ⟨d, u, g1, g2, g3⟩ := hcell (off + k) (by omega) (by omega)
              refine ⟨vs ++ [u], by simp [h7], fun j v hj => ?_⟩
              by_cases hjk : j < vs.length
              · rw [List.getElem?_append_left hjk] at hj; exact h8 j v hj
              · rw [List.getElem?_append_right (by omega)] at hj
                have : j = k := by
                  have := (List.getElem?_eq_some_iff.1 hj).1
                  simp at this; omega
                subst this
                rw [h7, Nat.sub_self] at hj
                simp at hj; subst hj
                exact ⟨g2, d, g1, g3⟩
          obtain ⟨vs, hvl, hvs⟩ := hex _ (Nat.le_refl _)
          have hD : Dens C ((B.cells.drop off).take ((m + 1) * es)) vs := by
            refine ⟨?_, fun i d u hd' hu => ?_⟩
            · rw [hvl, List.length_take, List.length_drop]
              by_cases hz : (m + 1) * es = 0
              · rw [hz]; simp
              · obtain ⟨d, _, g1, _⟩ := hcell (off + ((m + 1) * es - 1)) (by omega) (by omega)
                have := (List.getElem?_eq_some_iff.1 g1).1
                omega
            · rw [List.getElem?_take] at hd'
              split at hd'
              · rw [List.getElem?_drop] at hd'
                obtain ⟨_, d', g1, g2⟩ := hvs i u hu
                rw [hd'] at g1; cases g1; exact g2
              · cases hd'
          obtain ⟨hxl, a, b', hab, hall⟩ := decN_spec hf _ _ _ _ h hD
          obtain ⟨hC, hCl⟩ := XW.cells_flat hlf xs a hall
          have hla : a.length = vs.length := by rw [hCl, hvl, hxl]
          have hb' : b' = [] := List.eq_nil_of_length_eq_zero (by have := congrArg List.length hab; simp at this; omega)
          subst hb'
          rw [List.append_nil] at hab
          subst hab
          have key : ∀ (i j : Nat) (r : List DD) (q : DD), (xs.map dd)[i]? = some r → r[j]? = some q → ∃ u, vs[i * es + j]? = some u ∧ RepV I q u := by
            intro i j r q hr hq
            rw [List.getElem?_map, Option.map_eq_some_iff] at hr
            obtain ⟨x, hx, rfl⟩ := hr
            exact hC i j x q hx hq
          have hR := RepV.sl (I := I) (e := es) (rows := xs.map dd) (ad := loc.ad off) (c := k) (by rw [List.length_map, hxl]; exact h3) h4 (fun i j => vs.getD (i * es + j) undef)
            (fun i j r q hr hq => by
              obtain ⟨u, hu, _⟩ := key i j r q hr hq
              obtain ⟨g1, _⟩ := hvs _ u hu
              rw [loc.add off _ h1]
              rw [hL.imm b ver loc hl _ u rfl g1]
              simp [List.getD, hu])
            (fun i j r q hr hq => by
              obtain ⟨u, hu, hrep⟩ := key i j r q hr hq
              simp only [List.getD, hu, Option.getD_some]
              exact hrep)
          rw [List.length_map, hxl] at hR
          exact hR
        · cases h
      · cases h
    · cases h
  · cases h
theorem decT_spec (hL : Lies C bs base w I) {ih : (t : Ty) → List AV → Option (t.den × List AV)} (hih : ∀ t, FSpec C I (ih t) t.dd) : ∀ (t : Ty), FSpec C I (decT bs ih t) t.dd
  | .int k, [], x, r, us, h, hd => by simp [decT] at h
  | .int k, d :: m, x, r, us, h, hd => by
    obtain ⟨u, vs, rfl, h1, h2⟩ := hd.cons_inv
    simp only [decT] at h
    split at h
    · rename_i l n hn
      split at h
      · rename_i hk
        cases h
        obtain rfl := sameKind_eq hk
        refine ⟨[u], vs, rfl, ⟨?_, trivial⟩, h2⟩
        rw [asI_spec hn h1]; exact .val _
      · cases h
    · cases h
  | .bool, [], x, r, us, h, hd => by simp [decT] at h
  | .bool, d :: m, x, r, us, h, hd => by
    obtain ⟨u, vs, rfl, h1, h2⟩ := hd.cons_inv
    simp only [decT] at h
    split at h
    · rename_i b hb
      cases h
      refine ⟨[u], vs, rfl, ⟨?_, trivial⟩, h2⟩
      rw [asB_spec hb h1]; exact .val _
    · cases h
  | .str, [], x, r, us, h, hd => by simp [decT] at h
  | .str, d :: m, x, r, us, h, hd => by
    obtain ⟨u, vs, rfl, h1, h2⟩ := hd.cons_inv
    simp only [decT] at h
    split at h
    · rename_i b hb
      cases h
      refine ⟨[u], vs, rfl, ⟨?_, trivial⟩, h2⟩
      rw [asS_spec hb h1]; exact .val _
    · cases h
  | .flt k, [], x, r, us, h, hd => by simp [decT] at h
  | .flt k, d :: m, x, r, us, h, hd => by
    obtain ⟨u, vs, rfl, h1, h2⟩ := hd.cons_inv
    simp only [decT] at h
    split at h
    · rename_i l n hn
      split at h
      · rename_i hk
        cases h
        obtain rfl := sameF_eq hk
        refine ⟨[u], vs, rfl, ⟨?_, trivial⟩, h2⟩
        rw [asF_spec hn h1]; exact .val _
      · cases h
    · cases h
  | .sl t, [], x, r, us, h, hd => by simp [decT] at h
  | .sl t, d :: m, x, r, us, h, hd => by
    obtain ⟨u, vs, rfl, h1, h2⟩ := hd.cons_inv
    simp only [decT] at h
    split at h
    · rename_i l hl
      cases h
      exact ⟨[u], vs, rfl, ⟨decS_spec hL (hih t) t.leafOk hl h1, trivial⟩, h2⟩
    · cases h
  | .pr a b, l, x, r, us, h, hd => by
    simp only [decT] at h
    split at h
    · rename_i x1 m1 h1
      split at h
      · rename_i x2 r2 h2
        cases h
        obtain ⟨p, q, rfl, h3, h4⟩ := decT_spec hL hih a l x1 m1 us h1 hd
        obtain ⟨p2, q2, rfl, h5, h6⟩ := decT_spec hL hih b m1 x2 r q h2 h4
        exact ⟨p ++ p2, q2, by rw [List.append_assoc], All2.append h3 h5, h6⟩
      · cases h
    · cases h
  | .tree, [], x, r, us, h, hd => by simp [decT] at h
  | .tree, [_], x, r, us, h, hd => by simp [decT] at h
  | .tree, [_, _], x, r, us, h, hd => by simp [decT] at h
  | .tree, d1 :: d2 :: d3 :: m, x, r, us, h, hd => by
    obtain ⟨u1, vs1, rfl, h1, k1⟩ := hd.cons_inv
    obtain ⟨u2, vs2, rfl, h2, k2⟩ := k1.cons_inv
    obtain ⟨u3, vs3, rfl, h3, k3⟩ := k2.cons_inv
    simp only [decT] at h
    split at h
    · rename_i q1 s q2 p l hs hp hl
      split at h
      · rename_i hk1 hk2
        cases h
        obtain rfl := sameKind_eq hk1
        obtain rfl := sameKind_eq hk2
        refine ⟨[u1, u2, u3], vs3, rfl, ?_, k3⟩
        show All2 I (Tree.mk s p l).dd _
        rw [Tree.dd_eq]
        refine ⟨?_, ?_, decS_spec hL (hih .tree) Ty.tree.leafOk hl h3, trivial⟩
        · rw [asI_spec hs h1]; exact .val _
        · rw [asI_spec hp h2]; exact .val _
      · cases h
    · cases h
theorem decC_spec (hL : Lies C bs base w I) : ∀ (n : Nat) (t : Ty), FSpec C I (decC bs n t) t.dd
  | 0, t, l, x, r, us, h, hd => by simp [decC] at h
  | n + 1, t, l, x, r, us, h, hd => by
    simp only [decC] at h
    exact decT_spec hL (decC_spec hL n) t l x r us h hd
theorem decArg_spec (hL : Lies C bs base w I) {t : Ty} {d : AV} {x : t.den} {u : Value} {C' : Cx} (hC : C'.unk.imm = I) (h : decArg bs t d = some x) (hd : Den C d u) : Den C' (t.arg x) u := by
  refine arg_den ?_
  rw [hC]
  unfold decArg at h
  cases ha : t.isAgg with
  | true =>
    rw [ha] at h
    simp only at h ⊢
    split at h
    · rename_i l
      split at h
      · rename_i y h1
        cases h
        cases hd with
        | agg hl hh =>
        obtain ⟨a, b, hab, h3, h4⟩ := decC_spec hL 20 t l x [] _ h1 ⟨hl, hh⟩
        have := h4.nil_inv
        subst this
        rw [List.append_nil] at hab
        exact ⟨_, rfl, by rw [hab]; exact h3⟩
      · cases h
    · cases h
  | false =>
    rw [ha] at h
    simp only at h ⊢
    split at h
    · rename_i y h1
      cases h
      obtain ⟨a, b, hab, h3, h4⟩ := decC_spec hL 20 t [d] x [] [u] h1 (.cons hd (.nil C))
      have := h4.nil_inv
      subst this
      rw [List.append_nil] at hab
      rw [hab]; exact h3
    · cases h
end
def litA : AV → AV
  | .sym (.int k n) => .lit (.int k n)
  | .sym (.bool b) => .lit (.bool b)
  | .sym (.str s) => .lit (.string s)
  | .sym (.flt k n) => .lit (.float k n)
  | d => d
theorem litA_den {C : Cx} {d : AV} {u : Value} (h : Den C d u) : Den C (litA d) u := by
  unfold litA
  split
  · cases sym_inv h; exact .lit _
  · cases sym_inv h; exact .lit _
  · cases sym_inv h; exact .lit _
  · cases sym_inv h; exact .lit _
  · exact h
theorem litAs_den {C : Cx} : ∀ {l : List AV} {us : List Value}, Dens C l us → Dens C (l.map litA) us
  | [], us, h => by rw [h.nil_inv]; exact .nil C
  | d :: r, us, h => by
    obtain ⟨u, vs, rfl, h1, h2⟩ := h.cons_inv
    exact .cons (litA_den h1) (litAs_den h2)
structure PT where
  t : Ty
  x : t.den
def PT.arg (p : PT) : AV := p.t.arg p.x
def decAll (bs : List Blk) : List PT → List AV → Prop
  | [], [] => True
  | p :: r, d :: q => decArg bs p.t d = some p.x ∧ decAll bs r q
  | _, _ => False
theorem decAll_spec {C C' : Cx} {bs : List Blk} {base : Nat} {w : World} {I : Imm} (hL : Lies C bs base w I) (hC : C'.unk.imm = I) : ∀ {L : List PT} {ds : List AV} {us : List Value}, decAll bs L ds → Dens C ds us → Dens C' (L.map PT.arg) us
  | [], [], us, _, hd => by rw [hd.nil_inv]; exact .nil C'
  | p :: r, d :: q, us, h, hd => by
    obtain ⟨u, vs, rfl, h1, h2⟩ := hd.cons_inv
    exact .cons (decArg_spec hL hC h.1 h1) (decAll_spec hL hC h.2 h2)
def FnAt (P : Program) (S : Face) (x : dens S.ps) : Prop := ∀ (base : Nat) (C : Cx) (w : World) (vs : List Value), SMem C (bookM (rws S.ps x) (bxs 0 S.ps x) True) base w → (∀ b v loc, C.at_ b v = some loc → v = 0 ∧ b < nbx S.ps) → Dens C (avs 0 (bns S.ps) S.ps x) vs →
  Calls P S.f vs.toArray w (fun e w' => ∃ X ∈ S.ex, holds (X.c x) ∧ ∃ C' us, LStep C C' (bookM (rws X.sh (X.f x)) (bxs 0 X.sh (X.f x)) True) base w w' ∧ Dens C' (avs 0 (bns X.sh) X.sh (X.f x)) us ∧ EndOk X.pan (oneV (dropA (nbx S.ps) us)) e)
theorem fn_at {P : Program} {S : Face} (h : ∀ x, holds (S.pre x) → FnAt P S x) : FnOk P S := fun base C w vs x hM hat hD hp => h x hp base C w vs hM hat hD
def outsOf : AV → List AV
  | .tup [d] => [.tup [d]]
  | .tup l => l
  | d => [d]
def OutIs (x : HE) (L : List PT) : Prop := match x.rs with
  | [(.val d, [], bs)] => decAll bs L (outsOf d)
  | _ => False
theorem outIs_of {x : HE} {L : List PT} {d : AV} {bs : List Blk} {ds : List AV} (h : x.rs = [(.val d, [], bs)]) (hds : outsOf d = ds) (hd : decAll bs L ds) : OutIs x L := by
  unfold OutIs; rw [h]; rw [← hds] at hd; exact hd
theorem dec_nil (bs : List Blk) : decAll bs [] [] := trivial
theorem dec_cons {bs : List Blk} {p : PT} {r : List PT} {d : AV} {q : List AV} (h : decArg bs p.t d = some p.x) (hr : decAll bs r q) : decAll bs (p :: r) (d :: q) := ⟨h, hr⟩
theorem hok_at {P : Program} {x : HE} (hx : HOk P x) (S : Face) (y : dens S.ps) (X : FO (dens S.ps)) (L : List PT) (hX : X ∈ S.ex) (hc : X.c y = none) (hpan : X.pan = false) (hf : S.f = x.f) (hbs : x.bs = [])
    (hbk : bookM (rws S.ps y) (bxs 0 S.ps y) True = bookM [] [] True) (hn : nbx S.ps = 0) (hbk' : bookM (rws X.sh (X.f y)) (bxs 0 X.sh (X.f y)) True = bookM [] [] True)
    (hargs : (avs 0 (bns S.ps) S.ps y).map litA = x.args) (hout : OutIs x L) (hL : L.map PT.arg = avs 0 (bns X.sh) X.sh (X.f y)) : FnAt P S y := by
  intro base C w vs hM hat hD
  rw [hbk] at hM
  have hat0 : ∀ b v loc, C.at_ b v ≠ some loc := fun b v loc hl => by have := (hat b v loc hl).2; omega
  have hD' := litAs_den hD
  rw [hargs] at hD'
  have hmem : Mem C (ofL x.bs) base w := by rw [hbs]; exact hM.mem
  rw [hf]
  refine (hx.1.2 C base w vs hmem hD').mono fun e w' he => ?_
  obtain ⟨r, hr, C1, hup, hS, hv⟩ := he
  unfold OutIs at hout
  split at hout
  · rename_i d bs hrs
    rw [hrs] at hr
    simp only [List.mem_singleton] at hr
    subst hr
    simp only [hbs, upd, List.nil_append] at hS
    obtain ⟨v, rfl, hDv⟩ := hv
    have hsz := hS.below.size
    have hnew : ∀ b v loc, C1.at_ b v = some loc → w.heap.size ≤ loc.blk := fun b v loc hl => by
      rcases Nat.lt_or_ge loc.blk w.heap.size with h1 | h1
      · exact absurd rfl ((hS.rest loc.blk h1 (fun b v l hl' => absurd hl' (hat0 b v l))).2 b v loc hl)
      · exact h1
    let I' : Imm := fun a => match decide (a.block < w.heap.size) with
      | true => C.unk.imm a
      | false => w'.cell? a
    have hI1 : ∀ a : Addr, a.block < w.heap.size → I' a = C.unk.imm a := fun a ha => by simp only [I', decide_eq_true ha]
    have hI2 : ∀ a : Addr, ¬ a.block < w.heap.size → I' a = w'.cell? a := fun a ha => by simp only [I', decide_eq_false ha]
    have hold : ∀ k, k < w.heap.size → w'.heap[k]? = w.heap[k]? := fun k hk => (hS.rest k hk (fun b v l hl' => absurd hl' (hat0 b v l))).1
    have hfit : Fits I' w' := fun a u ha => by
      by_cases hk : a.block < w.heap.size
      · rw [hI1 a hk] at ha
        rw [cell_of_heap (hold _ hk)]
        exact hM.fits a u ha
      · rw [hI2 a hk] at ha; exact ha
    have hLies : Lies C1 bs base w' I' := ⟨hS.mem, by have := hx.1.1.2 _ (by rw [hrs]; exact List.mem_singleton_self _); simp only [hbs, List.length_nil] at this; omega, fun b v loc hl a u ha hu => by
      rw [hI2 a (by have := hnew b v loc hl; omega)]; exact hu⟩
    let C' : Cx := C00 I'
    have hous : ∃ us, v = oneV us ∧ Dens C1 (outsOf d) us := by
      unfold outsOf
      split
      · exact ⟨[v], rfl, .cons hDv (.nil _)⟩
      · rename_i l hne
        cases hDv with
        | @tup _ us hl hh =>
        refine ⟨us, ?_, hl, hh⟩
        cases us with
        | nil => rfl
        | cons a r => cases r with
          | nil => cases l with
            | nil => simp at hl
            | cons q t => cases t with
              | nil => exact absurd rfl (hne q)
              | cons => simp at hl
          | cons => rfl
      · exact ⟨[v], rfl, .cons hDv (.nil _)⟩
    obtain ⟨us, hov, hDus⟩ := hous
    have hfin := decAll_spec (C' := C') hLies rfl hout hDus
    rw [hL] at hfin
    refine ⟨X, hX, by rw [hc]; trivial, C', us, ?_, hfin, ?_⟩
    · rw [hbk']
      refine ⟨fun b v loc hl => absurd hl (hat0 b v loc), C00_mem hfit (Nat.le_trans hM.mem.base hsz) trivial, fun a u ha => ?_, hS.below, fun k hk _ => ⟨hold k hk, ⟨fun b v loc hl => (by simp [C0, C00, C'] at hl), fun r v hv => (by simp [C00, C'] at hv)⟩, fun a ha => hI1 a (by omega)⟩⟩
      show I' a = some u
      rw [hI1 a (hM.fits.lt ha)]; exact ha
    · rw [hpan, hn, hov]; rfl
  · exact hout.elim
end Go.EV
