/- Texts that the proof of a law rests on, put together: part 22. -/
import Derived.Test.YtajnboigikdefaaDoorFg21
namespace Go.EV
open Go Go.RowKit
open Go.XW (Imm Fits DD RepV SL LeafOk leafB Own Apart addI All2 Src Cells)
set_option linter.unusedVariables false
set_option linter.unusedSimpArgs false
section
variable {P : Program} {C : Cx} {M M' : SH} {base : Nat} {w : World} {ρ : Operand → Option AV} {e : Operand → Value} {o : Oper} {d : AV}
theorem run_app {α : Type} {I : Imm} {T e bytes : Nat} {f : α → List DD} {l ys : List α} {v v2 : Value} (t ty : TypeId) (z : Value) (i : TypeInfo) (ht : P.underlying t = some (.slice T)) (hi : P.info? T = some i) (hz : i.zero = some z) (hie : i.size = e) (hib : i.bytes = bytes)
    (hzs : z.cells.size = e) (he : 0 < e) (hown : Own base I w T e f l v) (hsrc : Src I w e f ys v2) (hI : Fits I w) (hlim : (l.length + ys.length) * bytes ≤ 140737488355328) (h63 : l.length + ys.length ≤ 9223372036854775807) (hbase : base ≤ w.heap.size) :
    ∃ v' w', (Builtin.append_ #[t, t] ty #[v, v2]).run P w = .ok v' w' ∧ Own base I w' T e f (l ++ ys) v' ∧ w.grownBy w' v.ownBlock ∧ (v'.ownBlock = v.ownBlock ∨ v'.ownBlock = some w.heap.size) := by
  subst hie; subst hib
  obtain ⟨A, c, rfl, hnone, hsome⟩ := hsrc
  cases A with
  | none =>
    have := hnone rfl
    subst this
    obtain ⟨A, c', rfl, hc, _⟩ := hown.form
    refine ⟨_, w, ?_, by rw [List.append_nil]; exact hown, ⟨rfl, rfl, rfl, Nat.le_refl _, fun _ _ _ => rfl⟩, .inl rfl⟩
    cases A <;> simp [Builtin.append_, run_underlying ht, sizeOf, typeInfo, hi, Builtin.lenOf, Builtin.firstCells, hc, storeCells]
  | some ad =>
    obtain ⟨cs, hl, hcs, hnews, h1⟩ := hsome ad rfl
    obtain ⟨xs, hrow, hcells⟩ := hown.row
    obtain ⟨v', w', hr, h2, h3, h4⟩ := run_append_own (P := P) w base t ty T i z i.size i.bytes ht hi hz rfl rfl hzs he v l.length xs hrow ad ys.length c cs hl hnews h1 (by simpa [maxLen] using h63) hlim hbase
    have hblk := XW.append_block (P := P) w t ty i z ht hi hz xs l.length hrow ad ys.length c cs hl hnews h1 h63 hlim hr
    have hlen := hrow.1
    refine ⟨v', w', hr, ⟨⟨xs ++ cs, by rw [List.length_append]; exact h2, ?_⟩, ?_⟩, h3, hblk⟩
    · intro p q y d hy hd
      by_cases hp : p < l.length
      · rw [List.getElem?_append_left hp] at hy
        obtain ⟨u, hu, hrep⟩ := hcells p q y d hy hd
        exact ⟨u, by rw [List.getElem?_append_left (List.getElem?_eq_some_iff.1 hu).1]; exact hu, hrep⟩
      · rw [List.getElem?_append_right (by omega)] at hy
        obtain ⟨u, hu, hrep⟩ := hcs _ q y d hy hd
        refine ⟨u, ?_, hrep⟩
        have hge : l.length * i.size ≤ p * i.size := Nat.mul_le_mul_right _ (by omega)
        rw [List.getElem?_append_right (by rw [hlen]; omega), hlen]
        have : p * i.size + q - l.length * i.size = (p - l.length) * i.size + q := by rw [Nat.sub_mul]; omega
        rw [this]; exact hu
    · intro g hg a ha
      rcases hblk with hb | hb
      · exact hown.away g (hb ▸ hg) a ha
      · rw [hb] at hg
        cases hI' : I a with
        | none => rfl
        | some u => have := hI.lt hI'; simp only [Option.some.injEq] at hg; omega
def srcS (M : SH) (t : Ty) (d : AV) : Option (List t.den × Option Nat) := match isNilA d with
  | true => some ([], some 0)
  | false => match asD M d with
    | some L => if h : L.t = t then some (castL h L.l, none) else none
    | none => match asR M d with
      | some (_, R) => if h : R.t = t then some (castL h R.xs, R.cl) else none
      | none => none
theorem srcS_spec (hM : SMem C M base w) {t : Ty} {d : AV} {ys : List t.den} {cl : Option Nat} {u : Value} (h : srcS M t d = some (ys, cl)) (hd : Den C d u) : Src C.unk.imm w t.cells t.dd ys u ∧ ∀ n, cl = some n → ys.length = n := by
  unfold srcS at h
  split at h
  · rename_i hn
    cases h
    unfold isNilA at hn
    split at hn
    · cases hd
      exact ⟨⟨none, _, rfl, (fun _ => rfl), (fun ad h => by cases h)⟩, fun n h => by cases h; rfl⟩
    · cases hn
  · split at h
    · rename_i L hL
      split at h
      · rename_i ht
        cases h
        have := asD_spec hM hL hd
        obtain ⟨t', l'⟩ := L
        simp only at ht this ⊢
        subst ht
        exact ⟨Src.rep (Ty.leafOk _) hM.fits this, fun n h => by cases h⟩
      · cases h
    · split at h
      · rename_i r R hR
        split at h
        · rename_i ht
          cases h
          obtain ⟨_, _, _, _, h1, h2⟩ := asR_spec hM hR hd
          obtain ⟨t', T', xs', cl', fr'⟩ := R
          simp only at ht h1 h2 ⊢
          subst ht
          exact ⟨Src.own (Ty.leafOk _) h1, h2⟩
        · cases h
      · cases h
def addCl : Option Nat → Option Nat → Option Nat
  | some a, some b => some (a + b)
  | _, _ => none
def apEl (P : Program) (t : TypeId) : Option (TypeId × Nat × Nat) := match runQ P (underlying t) with
  | some (.slice el) => match runQ P (typeInfo el), zerosA P el with
    | some i, some z => match Nat.beq z.length i.size, Nat.blt 0 i.bytes with
      | true, true => some (el, i.size, i.bytes)
      | _, _ => none
    | _, _ => none
  | _ => none
theorem info_of {t : TypeId} {i : TypeInfo} (h : runQ P (typeInfo t) = some i) : P.info? t = some i := by
  have h1 := runQ_spec P _ _ h { (default : World) with heap := #[] }
  cases hu : P.info? t with
  | none => simp [typeInfo, hu] at h1
  | some d' => simp [typeInfo, hu] at h1; rw [h1]
theorem apEl_spec {t el : TypeId} {s b : Nat} (h : apEl P t = some (el, s, b)) : ∃ i z, P.underlying t = some (.slice el) ∧ P.info? el = some i ∧ i.zero = some z ∧ i.size = s ∧ i.bytes = b ∧ z.cells.size = s ∧ 0 < b ∧ ∀ w, (zeroValue el).run P w = .ok z w := by
  unfold apEl at h
  split at h
  · rename_i el' hu
    split at h
    · rename_i i z hi hz
      split at h
      · rename_i hb1 hb2
        cases h
        have e1 := Nat.eq_of_beq_eq_true hb1
        have e2 : 0 < i.bytes := by simpa [Nat.blt_eq] using hb2
        have hin := info_of hi
        obtain ⟨z', h1, h2⟩ := zerosA_spec (C := ⟨fun _ _ => none, ⟨fun _ => none, fun _ => none⟩⟩) hz
        have h3 := h1 { (default : World) with heap := #[] }
        have hz' : i.zero = some z' := by
          cases hzz : i.zero with
          | none => simp [zeroValue, typeInfo, hin, hzz] at h3
          | some z2 => simp [zeroValue, typeInfo, hin, hzz] at h3; rw [h3]
        exact ⟨i, z', und_of hu, hin, hz', rfl, rfl, by have := h2.1; rw [← e1, ← this]; simp, e2, h1⟩
      · cases h
    · cases h
  · cases h
def sAppend (P : Program) (M : SH) (ρ : Operand → Option AV) (c : Call) : Option (AV × SH × Option Prop) := match c.callee, c.args.toList, c.argTypes.toList with
  | .builtin .append, [s, x], [t, t2] => match Nat.beq t t2, apEl P t, ρ s, ρ x with
    | true, some (el, size, bytes), some ds, some dx => match asR M ds with
      | some (r, R) => match Nat.beq R.T el, Nat.beq size R.t.cells, srcS M R.t dx with
        | true, true, some (ys, cl) => let p := nextR M r R.t el (R.xs ++ ys) (addCl R.cl cl)
          some (p.1, p.2, some ((R.xs.length + ys.length) * bytes ≤ 140737488355328))
        | _, _, _ => none
      | none => match isNilA ds, tyOf P 6 el with
        | true, some ty => match Nat.beq size ty.cells, srcS M ty dx with
          | true, some (ys, cl) => let p := newR M ty el ys cl
            some (p.1, p.2, some (ys.length * bytes ≤ 140737488355328))
          | _, _ => none
        | _, _ => none
    | _, _, _, _ => none
  | _, _, _ => none
theorem d_sappend (hM : SMem C M base w) (hf : Fine C ρ e) {c : Call} (ho : o.op = .call c) {p : Option Prop} (h : sAppend P M ρ c = some (d, M', p)) (hp : holds p) : DoesS P C M M' base w e o (some d) := by
  unfold sAppend at h
  split at h
  · rename_i s x t t2 h1 h2 h3
    obtain ⟨callee, args, argTypes⟩ := c
    have e1 := list_arr h2
    have e2 := list_arr h3
    simp only at h1 e1 e2
    subst h1; subst e1; subst e2
    split at h
    · rename_i el size bytes ds dx hb hap hs hx
      obtain rfl := Nat.eq_of_beq_eq_true hb
      obtain ⟨i, z, g1, g2, g3, g4, g5, g6, g7, _⟩ := apEl_spec hap
      have hds := hf s _ hs
      have hdx := hf x _ hx
      have fin : ∀ {v' : Value} {w' : World}, (Builtin.append_ #[t, t] o.type #[e s, e x]).run P w = .ok v' w' → (execOp e o).run P w = .ok (.value v') w' := fun hr => by
        simp only [execOp, ho, resolve, invoke, builtin, Sem.run_bind, Sem.run_pure, Result.andThen_ok, List.map_toArray, List.map_cons, List.map_nil, hr]
      have h63 : ∀ n : Nat, n * bytes ≤ 140737488355328 → n ≤ 9223372036854775807 := fun n hn => by
        have : n * 1 ≤ n * bytes := Nat.mul_le_mul_left _ g7
        omega
      split at h
      · rename_i r R hR
        split at h
        · rename_i ys cl hT hsz hsrc
          cases h
          obtain rfl := Nat.eq_of_beq_eq_true hT
          have esz := Nat.eq_of_beq_eq_true hsz
          obtain ⟨q1, q2, q3, q4, q5, q6⟩ := asR_spec hM hR hds
          obtain ⟨hS, hcl⟩ := srcS_spec hM hsrc hdx
          have hlim : (R.xs.length + ys.length) * bytes ≤ 140737488355328 := hp
          obtain ⟨v', w', hr, hown, hg, hblk⟩ := run_app (P := P) t o.type z i g1 g2 g3 (g4.trans esz) g5 (g6.trans esz) R.t.cells_pos q5 hS hM.fits hlim (h63 _ hlim) hM.mem.base
          have hlt : ∀ g, v'.ownBlock = some g → g < w'.heap.size := fun g hg => (hown.lt g hg).2
          refine ⟨_, w', hM.newRow ⟨R.t, R.T, R.xs ++ ys, addCl R.cl cl, false⟩ v' (rowDel r M.rows) (fun j Q h => (rowGet_del h).1) (e s).ownBlock ⟨fun _ => hown, (fun h => by cases h), fun n hn => ?_⟩ hg (fun g hg => ?_) hlt rfl (fun g hg => ⟨r, R, _, q2, q3, q4, hg, fun Q hQ => (rowGet_del hQ).2 rfl⟩), v', ?_, fin hr⟩
          · have hn : addCl R.cl cl = some n := hn
            cases ha : R.cl with
            | none => rw [ha] at hn; cases hn
            | some a =>
              cases hb : cl with
              | none => rw [ha, hb] at hn; cases hn
              | some b =>
                rw [ha, hb] at hn
                cases hn
                show (R.xs ++ ys).length = a + b
                rw [List.length_append, q6 a ha, hcl b hb]
          · rcases hblk with hb | hb
            · exact .inl (hb ▸ hg)
            · rw [hb] at hg; cases hg; exact .inr rfl
          · obtain ⟨A, c', rfl, _⟩ := hown.form
            exact .sym (.rs (Cx.withRow_same _ _ _))
        · cases h
      · split at h
        · rename_i ty hn hty
          split at h
          · rename_i ys cl hsz hsrc
            cases h
            have esz := Nat.eq_of_beq_eq_true hsz
            obtain ⟨hS, hcl⟩ := srcS_spec hM hsrc hdx
            have hlim : (([] : List ty.den).length + ys.length) * bytes ≤ 140737488355328 := by
              have : ys.length * bytes ≤ 140737488355328 := hp
              simpa using this
            unfold isNilA at hn
            split at hn
            · generalize hv : e s = vs at hds
              cases hds
              obtain ⟨v', w', hr, hown, hg, hblk⟩ := run_app (P := P) t o.type z i g1 g2 g3 (g4.trans esz) g5 (g6.trans esz) ty.cells_pos (Own.nil base C.unk.imm w el ty.cells ty.dd) hS hM.fits hlim (h63 _ hlim) hM.mem.base
              rw [List.nil_append] at hown
              have hb2 : ∀ g, v'.ownBlock = some g → g = w.heap.size := fun g hg => by
                rcases hblk with hb | hb
                · rw [hb] at hg; simp [Value.ownBlock] at hg
                · rw [hb] at hg; cases hg; rfl
              obtain ⟨C2, hS2, hD⟩ := newRow_of (cl := cl) hM hown hcl hg hb2
              rw [hv] at fin
              exact ⟨C2, w', hS2, v', hD, fin hr⟩
            · cases hn
          · cases h
        · cases h
    · cases h
  · cases h
def sLoadR (P : Program) (M : SH) (t : TypeId) (x : AV) : Option (AV × Option Prop) := match x with
  | .sym (.ep r e i j) => match rowGet M.rows r with
    | some R => match Nat.beq e R.t.cells, cutAv P t (R.t.av (R.xs.getD i R.t.dflt)) j with
      | true, some d => some (d, some (i < R.xs.length))
      | _, _ => none
    | none => none
  | _ => none
theorem own_elem {α : Type} {I : Imm} {T n : Nat} {f : α → List DD} {l : List α} {v : Value} (hlf : LeafOk n f) (h : Own base I w T n f l v) {ad : Addr} {m c : Nat} (hv : v = .slice (some ad) m c) (i : Nat) (df : α) (hi : i < l.length) :
    ∃ us : List Value, All2 I (f (l.getD i df)) us ∧ ∀ (j : Nat) (u : Value), us[j]? = some u → w.cell? ((ad.add (i * n)).add j) = some u := by
  obtain ⟨xs, hrow, hc⟩ := h.row
  have hx : l[i]? = some (l.getD i df) := by simp [List.getD, List.getElem?_eq_getElem hi]
  have hcells : ∀ k u, xs[k]? = some u → w.cell? (ad.add k) = some u := by
    rcases hrow.2 with ⟨rfl, hn⟩ | ⟨g, cap, cur, rfl, _⟩
    · cases hv
    · cases hv
      exact hrow.cells (g := g) rfl
  have key : ∀ j q, (f (l.getD i df))[j]? = some q → ∃ u, w.cell? (ad.add (i * n + j)) = some u ∧ RepV I q u := fun j q hq => by
    obtain ⟨u, hu, hr⟩ := hc i j _ q hx hq
    exact ⟨u, hcells _ u hu, hr⟩
  have kk : ∀ (j : Nat) (u : Value), ((List.range (f (l.getD i df)).length).map fun j => (w.cell? (ad.add (i * n + j))).getD undef)[j]? = some u → j < (f (l.getD i df)).length ∧ w.cell? (ad.add (i * n + j)) = some u := by
    intro j u hu
    rw [List.getElem?_map, Option.map_eq_some_iff] at hu
    obtain ⟨j', hj', rfl⟩ := hu
    have hlt : j < (f (l.getD i df)).length := by have := (List.getElem?_eq_some_iff.1 hj').1; simpa using this
    rw [List.getElem?_range hlt] at hj'
    cases hj'
    obtain ⟨v, hv, _⟩ := key j _ (List.getElem?_eq_getElem hlt)
    refine ⟨hlt, ?_⟩
    rw [hv]; rfl
  refine ⟨(List.range (f (l.getD i df)).length).map fun j => (w.cell? (ad.add (i * n + j))).getD undef, XW.All2.of (by simp) (fun j q u hq hu => ?_), fun j u hu => by rw [XW.addr_add_add]; exact (kk j u hu).2⟩
  obtain ⟨_, h1⟩ := kk j u hu
  obtain ⟨u', h2, h3⟩ := key j q hq
  rw [h1] at h2; cases h2; exact h3
theorem g_sloadr (hM : SMem C M base w) (hf : Fine C ρ e) {t : TypeId} {p : Operand} (ho : o.op = .load t p) {dp : AV} (hp : ρ p = some dp) {c : Option Prop} (h : sLoadR P M t dp = some (d, c)) (hc : holds c) : ∃ v, Den C d v ∧ (execOp e o).run P w = .ok (.value v) w := by
  have h1 := hf p _ hp
  unfold sLoadR at h
  split at h
  · rename_i r n i j
    split at h
    · rename_i R hR
      split at h
      · rename_i d' hb hcut
        cases h
        have hi : i < R.xs.length := hc
        have en := Nat.eq_of_beq_eq_true hb
        obtain ⟨v, h2, h3⟩ := hM.row r R hR
        generalize hv : e p = u at h1
        cases sym_inv h1 with
        | @ep _ _ _ _ m cc ad h4 =>
          rw [h2] at h4; cases h4
          have hget : ∃ us : List Value, All2 C.unk.imm (R.t.dd (R.xs.getD i R.t.dflt)) us ∧ ∀ (j : Nat) (u : Value), us[j]? = some u → w.cell? ((ad.add (i * n)).add j) = some u := by
            subst en
            cases hfr : R.fr with
            | false => exact own_elem R.t.leafOk (h3.own hfr) rfl i R.t.dflt hi
            | true =>
              have hrep := h3.rep hfr
              obtain ⟨A, c', e1, _⟩ := XW.SL_len hrep
              rw [e1] at hrep
              obtain ⟨ad', e2, hcell⟩ := XW.SL_at hrep R.t.dflt (i : Int) (Int.natCast_nonneg _) (Int.ofNat_lt.2 hi)
              subst e2
              cases e1
              obtain ⟨us, k1, k2⟩ := dp_read (t := R.t) (x := R.xs.getD i R.t.dflt) (I := C.unk.imm) (ad := ad.add (i * R.t.cells)) (fun j q hq => by
                obtain ⟨u, hu, hr⟩ := hcell j q (by simpa using hq)
                refine ⟨u, ?_, hr⟩
                simpa [XW.addr_add_add] using hu)
              exact ⟨us, k1, fun j u hu => hM.fits _ _ (k2 j u hu)⟩
          obtain ⟨us, k1, k2⟩ := hget
          obtain ⟨v', k3, k4⟩ := cut_run (P := P) (C := C) hcut (av_of R.t _ k1) (ad.add (i * n))
          refine ⟨v', k3, ?_⟩
          have := k4 w k2
          rw [XW.addr_add_add] at this
          simp [execOp, ho, hv, Instr.loadAt, Instr.sureAddr, this]
      · cases h
    · cases h
  · cases h
theorem run_storeRow {α : Type} {I : Imm} {T n : Nat} {f : α → List DD} {l : List α} {ad : Addr} {m c : Nat} (hlf : LeafOk n f) (hown : Own base I w T n f l (.slice (some ad) m c)) {i : Nat} (hi : i < l.length) (df : α) {TT : TypeId} {v : Value} (us : List Value) (hus : v.cells = us.toArray)
    (hs : ∀ w, (sizeOf TT).run P w = .ok us.length w) (j : Nat) (hj : j + us.length ≤ n) (h1 : ∀ u ∈ us, u.oneCell' = true) (y : α)
    (hall : ∀ olds : List Value, All2 I (f (l.getD i df)) olds → All2 I (f y) (olds.take j ++ us ++ olds.drop (j + us.length))) :
    ∃ w', (storeVar TT (ad.add (i * n + j)) v).run P w = .ok () w' ∧ Own base I w' T n f (l.set i y) (.slice (some ad) m c) ∧ w.grownBy w' (Value.slice (some ad) m c).ownBlock := by
  obtain rfl : m = l.length := by obtain ⟨A', c', hv, _⟩ := hown.form; cases hv; rfl
  obtain ⟨olds, hol, holc⟩ := own_elem hlf hown rfl i df hi
  obtain ⟨xs, hrow, hcells⟩ := hown.row
  obtain ⟨hlen, h2⟩ := hrow
  rcases h2 with ⟨hv, _⟩ | ⟨g, cap, cur, hv, hbg, hheap, hnc, hcm, hcs, htake⟩
  · cases hv
  · cases hv
    have hmul : (i + 1) * n ≤ l.length * n := Nat.mul_le_mul_right _ hi
    rw [Nat.add_mul, Nat.one_mul] at hmul
    have hle : l.length * n ≤ c * n := Nat.mul_le_mul_right _ hnc
    have hcl0 : cur.toList.length = c * n := by rw [Array.length_toList]; exact hcs
    have hh : w.heap[g]? = some (.cells cur.toList.toArray T (0, 0)) := by rw [Array.toArray_toList]; exact hheap
    have hadd : (⟨g, 0, none⟩ : Addr).add (i * n + j) = ⟨g, i * n + j, none⟩ := XW.add_lit0 _ _
    have hst := run_storeCells_at P g (i * n + j) T us 0 cur w hheap (by simp only [Nat.add_zero]; rw [hcs]; omega) h1
    simp only [Nat.add_zero] at hst
    have hr : (storeVar TT (⟨g, i * n + j, none⟩ : Addr) v).run P w = .ok () (w.setRow g (cur.toList.take (i * n + j) ++ us ++ cur.toList.drop (i * n + j + us.length)).toArray) := by
      simp [storeVar, hus, hs, hst]
    rw [hadd]
    refine ⟨_, hr, ?_, XW.setRow_grownBy _ _ _⟩
    have hsl : (l.set i y).length = l.length := List.length_set
    have hxs : ∀ k, k < l.length * n → cur.toList[k]? = xs[k]? := fun k hk => by rw [← htake, List.getElem?_take, if_pos hk]
    have hgetN := patch_get cur.toList us (i * n + j)
    have holl : olds.length = n := by rw [hol.back.1, (hlf _).1]
    have hold : ∀ q, q < n → olds[q]? = cur.toList[i * n + q]? := fun q hq => by
      have hq' : olds[q]? = some (olds[q]'(by omega)) := List.getElem?_eq_getElem (by omega)
      have := holc q _ hq'
      rw [XW.addr_add_add, XW.add_lit0, cell_of_row w g (i * n + q) cur T (0, 0) hheap] at this
      rw [hq', ← this, Array.getElem?_toList]
    have hnew := hall olds hol
    refine ⟨⟨(cur.toList.take (i * n + j) ++ us ++ cur.toList.drop (i * n + j + us.length)).take (l.length * n), ⟨?_, .inr ⟨g, c, _, by rw [hsl], hbg, setRow_heap w g cur _ T (0, 0) hheap, by rw [hsl]; exact hnc, hcm, ?_, by rw [hsl]⟩⟩, ?_⟩, ?_⟩
    · rw [List.length_take, hsl]
      simp only [List.length_append, List.length_take, List.length_drop, Array.length_toList]
      omega
    · simp only [List.size_toArray, List.length_append, List.length_take, List.length_drop, Array.length_toList]
      omega
    · intro p q z d hz hd
      have hp : p < l.length := by have := (List.getElem?_eq_some_iff.1 hz).1; rwa [hsl] at this
      have hpm : (p + 1) * n ≤ l.length * n := Nat.mul_le_mul_right _ hp
      rw [Nat.add_mul, Nat.one_mul] at hpm
      have hqe : q < n := by
        have := (List.getElem?_eq_some_iff.1 hd).1
        rwa [(hlf z).1] at this
      rw [List.getElem?_take, if_pos (by omega), hgetN _ (by omega)]
      by_cases hpi : p = i
      · subst hpi
        rw [List.getElem?_set_self hi] at hz
        cases hz
        have hlen2 : (olds.take j ++ us ++ olds.drop (j + us.length)).length = n := by rw [hnew.back.1, (hlf y).1]
        have hq' : (olds.take j ++ us ++ olds.drop (j + us.length))[q]? = some ((olds.take j ++ us ++ olds.drop (j + us.length))[q]'(by omega)) := List.getElem?_eq_getElem (by omega)
        refine ⟨_, ?_, hnew.back.2 q d _ hd hq'⟩
        rw [← hq', patch_get olds us j q (by omega)]
        by_cases c1 : q < j
        · rw [if_pos c1, if_pos (by omega), hold q hqe]
        · rw [if_neg c1, if_neg (by omega)]
          by_cases c2 : q < j + us.length
          · rw [if_pos c2, if_pos (by omega)]
            congr 1; omega
          · rw [if_neg c2, if_neg (by omega), hold q hqe]
      · rw [List.getElem?_set_ne (by omega)] at hz
        obtain ⟨u, hu, hrep⟩ := hcells p q z d hz hd
        refine ⟨u, ?_, hrep⟩
        rw [hxs _ (by omega)]
        rcases Nat.lt_or_ge p i with hlt | hge
        · have : (p + 1) * n ≤ i * n := Nat.mul_le_mul_right _ hlt
          rw [Nat.add_mul, Nat.one_mul] at this
          rw [if_pos (by omega)]; exact hu
        · have : (i + 1) * n ≤ p * n := Nat.mul_le_mul_right _ (by omega)
          rw [Nat.add_mul, Nat.one_mul] at this
          rw [if_neg (by omega), if_neg (by omega)]; exact hu
    · intro g' hg' a ha
      exact hown.away g' hg' a ha
def sStore (P : Program) (M : SH) (t : TypeId) (p x : AV) : Option (SH × Option Prop) := match p, cellsA x with
  | .sym (.ep r e i j), some cs => match rowGet (shutL M cs).rows r with
    | some R => match R.fr, Nat.beq e R.t.cells, sizeA P t, allLeaf cs with
      | false, true, some n, true => match Nat.beq n cs.length, Nat.ble (j + n) R.t.cells, ofAv (shutL M cs) R.t ((R.t.av (R.xs.getD i R.t.dflt)).take j ++ cs ++ (R.t.av (R.xs.getD i R.t.dflt)).drop (j + cs.length)) with
        | true, true, some (y, []) => some ({ shutL M cs with rows := rowSet r { R with xs := R.xs.set i y } (shutL M cs).rows }, some (i < R.xs.length))
        | _, _, _ => none
      | _, _, _, _ => none
    | none => none
  | _, _ => none
theorem d_sstore (hM : SMem C M base w) (hf : Fine C ρ e) {t : TypeId} {p x : Operand} (ho : o.op = .store t p x) {dp dx : AV} (hp : ρ p = some dp) (hx : ρ x = some dx) {c : Option Prop} (h : sStore P M t dp dx = some (M', c)) (hc : holds c) : DoesS P C M M' base w e o none := by
  have h1 := hf p _ hp
  have h2 := hf x _ hx
  unfold sStore at h
  split at h
  · rename_i r n i j cs hcs
    split at h
    · rename_i R hR
      split at h
      · rename_i m hfr hb hsz hal
        split at h
        · rename_i y hb1 hb2 hof
          cases h
          have hi : i < R.xs.length := hc
          have en := Nat.eq_of_beq_eq_true hb
          subst en
          have em := Nat.eq_of_beq_eq_true hb1
          have hle := Nat.le_of_ble_eq_true hb2
          obtain ⟨C1, hS1⟩ := shutL_spec cs hM
          obtain ⟨v, k1, k2⟩ := hS1.mem.row r R hR
          have hown := k2.own hfr
          have hD := (cellsA_spec hcs h2).smono hS1.ext
          have h1' := h1.smono hS1.ext
          generalize hv : e p = u at h1'
          cases sym_inv h1' with
          | @ep _ _ _ _ m' cc ad h4 =>
            rw [k1] at h4; cases h4
            have hlen : (e x).cells.toList.length = cs.length := hD.1
            obtain ⟨w', r1, r2, r3⟩ := run_storeRow (P := P) R.t.leafOk hown hi R.t.dflt (TT := t) (v := e x) (e x).cells.toList (by simp) (fun w => by rw [hlen, ← em]; exact runQ_spec P _ _ (show runQ P (sizeOf t) = some m from hsz) w) j (by rw [hlen]; omega) (allLeaf_one cs _ hal hD) y (fun olds hol => by
              have hDo := av_of R.t _ hol
              have hDn := ((hDo.take j).append hD).append (hDo.drop (j + cs.length))
              obtain ⟨a, b, e1, e2, e3⟩ := ofAv_spec hS1.mem R.t _ y [] _ hof hDn
              rw [e3.nil_inv, List.append_nil] at e1
              rw [hlen, e1]; exact e2)
            refine ⟨C1, w', hS1.trans (hS1.mem.setRow hR hfr k1 _ (show ({ R with xs := R.xs.set i y } : Row).fr = false from hfr) ⟨fun _ => r2, (fun h => by simp [hfr] at h), fun n hn => by simpa using k2.cl n hn⟩ r3), ?_⟩
            simp [execOp, ho, hv, Instr.storeAt, Instr.sureAddr, r1]
        · cases h
      · cases h
    · cases h
  · cases h
def sZeros (P : Program) (M : SH) (t : TypeId) (l c : AV) : Option (AV × SH × Option Prop) := match asI l, asI c, apEl P t with
  | some (_, n), some (_, m), some (el, size, bytes) => match zerosA P el, tyOf P 6 el with
    | some z, some ty => match Nat.beq size ty.cells, ofAv M ty z with
      | true, some (x0, []) => let p := newR M ty el (List.replicate n.toNat x0) (match isLit l with | true => some n.toNat | false => none)
        some (p.1, p.2, some (0 ≤ n ∧ n ≤ m ∧ m * (bytes : Int) ≤ 140737488355328))
      | _, _ => none
    | _, _ => none
  | _, _, _ => none
theorem d_szeros (hM : SMem C M base w) (hf : Fine C ρ e) {t : TypeId} {l c : Operand} (ho : o.op = .makeSlice t l c) {dl dc : AV} (hl : ρ l = some dl) (hc : ρ c = some dc) {p : Option Prop} (h : sZeros P M t dl dc = some (d, M', p)) (hp : holds p) : DoesS P C M M' base w e o (some d) := by
  unfold sZeros at h
  split at h
  · rename_i k1 n k2 m el size bytes hn hm hap
    split at h
    · rename_i z ty hz hty
      split at h
      · rename_i x0 hsz hof
        cases h
        obtain ⟨g0, g1, g2⟩ := hp
        have e1 := asI_spec hn (hf l _ hl)
        have e2 := asI_spec hm (hf c _ hc)
        have esz := Nat.eq_of_beq_eq_true hsz
        obtain ⟨i, zv, q1, q2, q3, q4, q5, q6, q7, q8⟩ := apEl_spec hap
        have hm0 : m ≤ 140737488355328 := by
          have hb : (1 : Int) ≤ (bytes : Int) := by omega
          have hm' : 0 ≤ m := by omega
          have := Int.mul_le_mul_of_nonneg_left hb hm'
          omega
        have hr := run_make (P := P) w t el i zv q1 q2 q3 k1 k2 n m g0 g1 (by rw [q5, Int.mul_comm]; omega) (by omega)
        have hown : Own base C.unk.imm (w.alloc (.cells (madeCells zv.cells (m.toNat * i.size)) el)) el ty.cells ty.dd (List.replicate n.toNat x0) (.slice (some ⟨w.heap.size, 0, none⟩) n.toNat m.toNat) := by
          obtain ⟨z', hz1, hz2⟩ := zerosA_spec (C := C) hz
          have : z' = zv := by have a := hz1 w; rw [q8 w] at a; cases a; rfl
          subst this
          obtain ⟨a, b, f1, f2, f3⟩ := ofAv_spec hM ty z x0 [] _ hof hz2
          rw [f3.nil_inv, List.append_nil] at f1
          rw [← f1] at f2
          have hzl : z'.cells.size = ty.cells := by rw [q6, esz]
          have hnm : n.toNat ≤ m.toNat := by omega
          have hmul : n.toNat * ty.cells ≤ m.toNat * ty.cells := Nat.mul_le_mul_right _ hnm
          have hpos := ty.cells_pos
          refine ⟨⟨(madeCells z'.cells (m.toNat * i.size)).toList.take (n.toNat * ty.cells), ⟨?_, .inr ⟨w.heap.size, m.toNat, madeCells z'.cells (m.toNat * i.size), by rw [List.length_replicate], hM.mem.base, heap_alloc_new w _, by rw [List.length_replicate]; exact hnm, by simp only [maxLen]; omega, by rw [size_madeCells, q4, esz], by rw [List.length_replicate]⟩⟩, ?_⟩, fun g hg a ha => ?_⟩
          · rw [List.length_take, Array.length_toList, size_madeCells, q4, esz, List.length_replicate]; omega
          · intro a b x q hx hq
            rw [List.getElem?_replicate] at hx
            split at hx
            · rename_i ha
              cases hx
              have hb : b < ty.cells := by have := (List.getElem?_eq_some_iff.1 hq).1; rwa [(ty.leafOk x0).1] at this
              have hab : a * ty.cells + b < n.toNat * ty.cells := by
                have : (a + 1) * ty.cells ≤ n.toNat * ty.cells := Nat.mul_le_mul_right _ ha
                rw [Nat.add_mul, Nat.one_mul] at this; omega
              have hzb : z'.cells.toList[b]? = some (z'.cells.toList[b]'(by rw [Array.length_toList, hzl]; exact hb)) := List.getElem?_eq_getElem _
              refine ⟨_, ?_, f2.back.2 b q _ hq hzb⟩
              rw [List.getElem?_take, if_pos hab, Array.getElem?_toList]
              have hlt : a * ty.cells + b < m.toNat * i.size := by rw [q4, esz]; omega
              simp only [madeCells]
              rw [Array.getElem?_map, Array.getElem?_range, if_pos hlt]
              simp only [Option.map_some, Option.some.injEq]
              have hmod : (a * ty.cells + b) % z'.cells.size = b := by rw [hzl, Nat.mul_comm, Nat.mul_add_mod, Nat.mod_eq_of_lt hb]
              have hbs : b < z'.cells.size := by rw [hzl]; exact hb
              rw [hmod, getElem!_pos z'.cells b hbs, Array.getElem_toList]
            · cases hx
          · simp only [Value.ownBlock, Option.some.injEq] at hg
            cases hI : C.unk.imm a with
            | none => rfl
            | some u => have := hM.fits.lt hI; omega
        obtain ⟨C2, hS2, hD⟩ := newRow_of (cl := match isLit dl with | true => some n.toNat | false => none) hM hown (fun k hk => by
          rw [List.length_replicate]
          split at hk
          · cases hk; rfl
          · cases hk) (World.grownBy_alloc w _ none) (fun g hg => by simp [Value.ownBlock] at hg; exact hg.symm)
        exact ⟨C2, _, hS2, _, hD, by simp [execOp, ho, e1, e2, hr]⟩
      · cases h
    · cases h
  · cases h
end
end Go.EV
