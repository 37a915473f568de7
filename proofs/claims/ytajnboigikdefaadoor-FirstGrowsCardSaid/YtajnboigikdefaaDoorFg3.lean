/- Texts that the proof of a law rests on, put together: part 3. -/
import Derived.Test.YtajnboigikdefaaDoorFg2
namespace Go.EV
open Go Go.RowKit
set_option linter.unusedVariables false
set_option linter.unusedSimpArgs false
def runQ {α : Type} (P : Program) : Sem α → Option α
  | .pure a => some a
  | .program k => runQ P (k P)
  | .mark _ k => runQ P k
  | _ => none
theorem runQ_spec {α : Type} (P : Program) : ∀ (s : Sem α) (v : α), runQ P s = some v → ∀ w, s.run P w = .ok v w
  | .pure x, v, h, w => by simp only [runQ, Option.some.injEq] at h; subst h; rfl
  | .program k, v, h, w => by simp only [runQ] at h; exact runQ_spec P (k P) v h w
  | .mark m k, v, h, w => by simp only [runQ] at h; exact runQ_spec P k v h w
  | .load .., v, h, w => by simp [runQ] at h
  | .store .., v, h, w => by simp [runQ] at h
  | .new .., v, h, w => by simp [runQ] at h
  | .shape .., v, h, w => by simp [runQ] at h
  | .freeze .., v, h, w => by simp [runQ] at h
  | .frozen .., v, h, w => by simp [runQ] at h
  | .getObj .., v, h, w => by simp [runQ] at h
  | .setObj .., v, h, w => by simp [runQ] at h
  | .choose .., v, h, w => by simp [runQ] at h
  | .sys .., v, h, w => by simp [runQ] at h
  | .halt .., v, h, w => by simp [runQ] at h
def leafA : AV → Bool
  | .lit v => v.oneCell'
  | .ptr .. | .sl .. | .empty | .mp _ | .iface .. | .clo .. | .sym _ => true
  | _ => false
theorem leafA_one {C : Cx} {d : AV} {u : Value} (hl : leafA d = true) (h : Den C d u) : u.oneCell' = true := by
  cases h <;> first | exact hl | rfl | exact DenS.one (by assumption) | (simp [leafA] at hl; done)
theorem oneCell_cells {u : Value} (h : u.oneCell' = true) : u.cells = #[u] := by cases u <;> first | rfl | (simp [Value.oneCell'] at h)
def allLeaf : List AV → Bool
  | [] => true
  | d :: r => leafA d && allLeaf r
theorem allLeaf_one {C : Cx} : ∀ (l : List AV) (us : List Value), allLeaf l = true → Dens C l us → ∀ u ∈ us, u.oneCell' = true
  | [], us, _, h => by rw [h.nil_inv]; intro u hu; simp at hu
  | d :: r, us, hl, h => by
    simp only [allLeaf, Bool.and_eq_true] at hl
    obtain ⟨u, vs, rfl, h1, h2⟩ := h.cons_inv
    intro x hx
    rcases List.mem_cons.1 hx with rfl | hx
    · exact leafA_one hl.1 h1
    · exact allLeaf_one r vs hl.2 h2 x hx
def cellsA : AV → Option (List AV)
  | .agg l => some l
  | d => match leafA d with
    | true => some [d]
    | false => none
theorem cellsA_spec {C : Cx} {d : AV} {l : List AV} {u : Value} (h : cellsA d = some l) (hd : Den C d u) : Dens C l u.cells.toList := by
  by_cases hl : leafA d = true
  · have e : l = [d] := by
      cases d <;> simp_all [cellsA, leafA]
    subst e
    rw [oneCell_cells (leafA_one hl hd)]
    exact .cons hd (.nil C)
  · cases hd with
    | agg h1 h2 => simp only [cellsA, Option.some.injEq] at h; subst h; exact ⟨h1, h2⟩
    | _ => simp_all [cellsA, leafA]
def setsA (l : List AV) (off : Nat) : List AV → List AV
  | [] => l
  | c :: cs => setsA (l.set off c) (off + 1) cs
def fillA (place : Nat → Option (Nat × Nat)) (l : List AV) : List (Nat × AV) → Option (List AV)
  | [] => some l
  | (i, d) :: r => match place i, cellsA d with
    | some (off, size), some cs => match Nat.beq cs.length size, Nat.ble (off + cs.length) l.length with
      | true, true => fillA place (setsA l off cs) r
      | _, _ => none
    | _, _ => none
theorem sets_spec {C : Cx} (off : Nat) : ∀ (ds : List AV) (vs : List Value) (k : Nat) (l : List AV) (cells : Array Value), Dens C ds vs → Dens C l cells.toList →
    Dens C (setsA l (off + k) ds) ((vs.zipIdx k).foldl (fun (cs : Array Value) (x : Value × Nat) => cs.setIfInBounds (off + x.2) x.1) cells).toList ∧ ((vs.zipIdx k).foldl (fun (cs : Array Value) (x : Value × Nat) => cs.setIfInBounds (off + x.2) x.1) cells).size = cells.size
  | [], vs, k, l, cells, hd, hl => by rw [hd.nil_inv]; exact ⟨hl, rfl⟩
  | d :: ds, vs, k, l, cells, hd, hl => by
    obtain ⟨u, us, rfl, h1, h2⟩ := hd.cons_inv
    simp only [setsA, List.zipIdx_cons, List.foldl_cons]
    have := sets_spec off ds us (k + 1) (l.set (off + k) d) (cells.setIfInBounds (off + k) u) h2 (by rw [Array.toList_setIfInBounds]; exact hl.set _ h1)
    exact ⟨this.1, this.2.trans (by simp)⟩
theorem fill_spec {C : Cx} (place : Nat → Option (Nat × Nat)) : ∀ (ps : List (Nat × AV)) (vs : List (Nat × Value)) (l m : List AV) (cells : Array Value), vs.length = ps.length →
    (∀ (i : Nat) p q, ps[i]? = some p → vs[i]? = some q → q.1 = p.1 ∧ Den C p.2 q.2) → Dens C l cells.toList → fillA place l ps = some m → ∃ c, Instr.fill place cells vs = some c ∧ Dens C m c.toList
  | [], vs, l, m, cells, hlen, _, hl, h => by
    have : vs = [] := List.eq_nil_of_length_eq_zero (by simpa using hlen)
    subst this
    simp only [fillA, Option.some.injEq] at h
    subst h
    exact ⟨cells, rfl, hl⟩
  | (i, d) :: r, vs, l, m, cells, hlen, hp, hl, h => by
    cases vs with
    | nil => simp at hlen
    | cons q vs =>
      obtain ⟨j, v⟩ := q
      obtain ⟨e1, hd⟩ := hp 0 (i, d) (j, v) rfl rfl
      obtain rfl : j = i := e1
      simp only [fillA] at h
      split at h
      · rename_i off size cs hpl hcs
        split at h
        · rename_i hb1 hb2
          have hdens := cellsA_spec hcs hd
          have hsz : v.cells.size = size := by rw [← Nat.eq_of_beq_eq_true hb1, ← hdens.1]; simp
          have hfit : off + v.cells.size ≤ cells.size := by
            have h1 := Nat.le_of_ble_eq_true hb2
            have h2 := hl.1
            have h3 := hdens.1
            simp at h2 h3
            omega
          have hs := sets_spec off cs v.cells.toList 0 l cells hdens hl
          have := fill_spec place r vs (setsA l off cs) m _ (by simpa using hlen) (fun i' p q h1 h2 => hp (i' + 1) p q (by simpa using h1) (by simpa using h2)) (by simpa using hs.1) h
          obtain ⟨c, hc, hD⟩ := this
          refine ⟨c, ?_, hD⟩
          simp only [Instr.fill, hpl]
          rw [if_neg (by simp [hsz]; omega)]
          rw [← hc]
          congr 1
          rw [← Array.foldl_toList, Array.toList_zipIdx]
        · cases h
      · cases h
section
variable {P : Program} {C : Cx} {ρ : Operand → Option AV} {e : Operand → Value} {o : Oper} {d : AV}
def Fine (C : Cx) (ρ : Operand → Option AV) (e : Operand → Value) : Prop := ∀ x d, ρ x = some d → Den C d (e x)
def Gives (P : Program) (C : Cx) (e : Operand → Value) (o : Oper) (d : AV) : Prop := ∃ v, Den C d v ∧ ∀ w, (execOp e o).run P w = .ok (.value v) w
def rhoV (ρ : Operand → Option AV) (x : Operand) : Value := ((ρ x).bind (concN 20)).getD undef
def flatAll (ρ : Operand → Option AV) : List Operand → Bool
  | [] => true
  | x :: r => match (ρ x).bind (concN 20) with
    | some _ => flatAll ρ r
    | none => false
def runV (P : Program) (s : Sem Next) : Option Value := match runQ P s with
  | some (.value v) => some v
  | _ => none
def genA (P : Program) (ρ : Operand → Option AV) (o : Oper) : Option AV := match flatAll ρ o.op.operands.toList with
  | true => match XW.isSelect o.op with
    | false => match runV P (execOp (rhoV ρ) o) with
      | some v => absN 20 v
      | none => none
    | true => none
  | false => none
theorem flatAll_spec (hf : Fine C ρ e) : ∀ (l : List Operand), flatAll ρ l = true → ∀ x ∈ l, e x = rhoV ρ x
  | [], _, x, hx => by simp at hx
  | y :: r, h, x, hx => by
    simp only [flatAll] at h
    split at h
    · rename_i v hv
      rcases List.mem_cons.1 hx with rfl | hx
      · obtain ⟨d, hd, hc⟩ := Option.bind_eq_some_iff.1 hv
        have := concN_spec C 20 d v _ hc (hf _ d hd)
        rw [this]; simp [rhoV, hv]
      · exact flatAll_spec hf r h x hx
    · cases h
theorem gen_spec (hf : Fine C ρ e) (h : genA P ρ o = some d) : Gives P C e o d := by
  unfold genA at h
  split at h
  · rename_i h1
    split at h
    · rename_i h2
      split at h
      · rename_i v h3
        refine ⟨v, absN_spec C 20 v d h, fun w => ?_⟩
        unfold runV at h3
        split at h3
        · rename_i v' h4
          cases h3
          rw [execOp_congr o (fun cs b e' => by rw [e'] at h2; simp [XW.isSelect] at h2) (fun x hx => flatAll_spec hf _ h1 x (by simpa using hx))]
          exact runQ_spec P _ _ h4 w
        · cases h3
      · cases h
    · cases h
  · cases h
theorem g_move (hf : Fine C ρ e) {x : Operand} (ho : o.op = .move x ∨ o.op = .assign x) (h : ρ x = some d) : Gives P C e o d :=
  ⟨e x, hf x d h, fun w => by rcases ho with ho | ho <;> simp [execOp, ho]⟩
def pickA (ρ : Operand → Option AV) (c a b : Operand) : Option AV := match ρ c with
  | some (.lit (.bool true)) => ρ a
  | some (.lit (.bool false)) => ρ b
  | _ => none
theorem g_pick (hf : Fine C ρ e) {c a b : Operand} (ho : o.op = .pick c a b) (h : pickA ρ c a b = some d) : Gives P C e o d := by
  unfold pickA at h
  split at h
  · rename_i hc
    have hv := hf _ _ hc
    refine ⟨e a, hf _ _ h, fun w => ?_⟩
    generalize hb : e c = vc at hv
    cases hv
    simp [execOp, ho, hb, asBool]
  · rename_i hc
    have hv := hf _ _ hc
    refine ⟨e b, hf _ _ h, fun w => ?_⟩
    generalize hb : e c = vc at hv
    cases hv
    simp [execOp, ho, hb, asBool]
  · cases h
def opds (ρ : Operand → Option AV) : List Operand → Option (List AV)
  | [] => some []
  | x :: r => match ρ x, opds ρ r with | some d, some l => some (d :: l) | _, _ => none
theorem opds_spec (hf : Fine C ρ e) : ∀ (xs : List Operand) (l : List AV), opds ρ xs = some l → Dens C l (xs.map e)
  | [], l, h => by simp only [opds, Option.some.injEq] at h; subst h; exact .nil C
  | x :: r, l, h => by
    simp only [opds] at h
    split at h
    · rename_i d m hd hm
      simp only [Option.some.injEq] at h
      subst h
      exact .cons (hf x d hd) (opds_spec hf r m hm)
    · cases h
def opdPs (ρ : Operand → Option AV) : List (Nat × Operand) → Option (List (Nat × AV))
  | [] => some []
  | (i, x) :: r => match ρ x, opdPs ρ r with | some d, some l => some ((i, d) :: l) | _, _ => none
theorem opdPs_spec (hf : Fine C ρ e) : ∀ (xs : List (Nat × Operand)) (l : List (Nat × AV)), opdPs ρ xs = some l → (xs.map fun p => (p.1, e p.2)).length = l.length ∧
    ∀ (i : Nat) p q, l[i]? = some p → (xs.map fun p => (p.1, e p.2))[i]? = some q → q.1 = p.1 ∧ Den C p.2 q.2
  | [], l, h => by simp only [opdPs, Option.some.injEq] at h; subst h; exact ⟨rfl, fun i p q h => by simp at h⟩
  | (i, x) :: r, l, h => by
    simp only [opdPs] at h
    split at h
    · rename_i d m hd hm
      simp only [Option.some.injEq] at h
      subst h
      obtain ⟨h1, h2⟩ := opdPs_spec hf r m hm
      refine ⟨by simpa using h1, fun j p q hp hq => ?_⟩
      cases j with
      | zero => simp at hp hq; subst hp; subst hq; exact ⟨rfl, hf x d hd⟩
      | succ j => exact h2 j p q (by simpa using hp) (by simpa using hq)
    · cases h
def zerosA (P : Program) (t : TypeId) : Option (List AV) := match runQ P (zeroValue t) with
  | some z => flatVs (absN 20) z.cells.toList
  | none => none
theorem zerosA_spec {t : TypeId} {l : List AV} (h : zerosA P t = some l) : ∃ z : Value, (∀ w, (zeroValue t).run P w = .ok z w) ∧ Dens C l z.cells.toList := by
  unfold zerosA at h
  split at h
  · rename_i z hz
    exact ⟨z, fun w => runQ_spec P _ _ hz w, flatVs_spec (absN_spec C 20) _ _ h⟩
  · cases h
def placesA (P : Program) (t : TypeId) : Option (Nat → Option (Nat × Nat)) := match runQ P (underlying t) with
  | some (.struct fields) => match runQ P (fields.mapM fun f => do pure (f.offset, ← sizeOf f.type)) with
    | some pl => some (pl[·]?)
    | none => none
  | some (.array _ elem) => match runQ P (sizeOf elem) with
    | some size => some fun i => some (i * size, size)
    | none => none
  | _ => none
def buildA (P : Program) (ρ : Operand → Option AV) (t : TypeId) (parts : Array (Nat × Operand)) : Option AV := match zerosA P t, placesA P t, opdPs ρ parts.toList with
  | some z, some pl, some ps => (fillA pl z ps).map .agg
  | _, _, _ => none
theorem g_build (hf : Fine C ρ e) {t : TypeId} {parts : Array (Nat × Operand)} (ho : o.op = .build t parts) (h : buildA P ρ t parts = some d) : Gives P C e o d := by
  unfold buildA at h
  split at h
  · rename_i z pl ps hz hpl hps
    obtain ⟨m, hm, rfl⟩ := Option.map_eq_some_iff.1 h
    obtain ⟨zv, hzr, hzd⟩ := zerosA_spec (C := C) hz
    obtain ⟨h1, h2⟩ := opdPs_spec hf _ _ hps
    obtain ⟨c, hc, hD⟩ := fill_spec pl ps _ z m zv.cells h1 h2 hzd hm
    have hparts : (parts.map fun (x : Nat × Operand) => (x.1, e x.2)).toList = parts.toList.map fun p => (p.1, e p.2) := by simp
    refine ⟨.agg c, .agg (vs := c.toList) hD.1 hD.2, fun w => ?_⟩
    unfold placesA at hpl
    split at hpl
    · rename_i fields hu
      split at hpl
      · rename_i pl' hpl'
        cases hpl
        have r1 := runQ_spec P _ _ hu
        have r2 := runQ_spec P _ _ hpl'
        simp only [execOp, ho, Instr.build, Sem.run_bind, hzr, Result.andThen_ok, r1, r2, hparts, hc, Sem.run_pure]
      · cases hpl
    · rename_i n elem hu
      split at hpl
      · rename_i size hs
        cases hpl
        have r1 := runQ_spec P _ _ hu
        have r2 := runQ_spec P _ _ hs
        simp only [execOp, ho, Instr.build, Sem.run_bind, hzr, Result.andThen_ok, r1, r2, hparts, hc, Sem.run_pure]
      · cases hpl
    · cases hpl
  · cases h
def nilA : AV → Option AV
  | .ptr b v o => some (.ptr b v o)
  | .clo (.func f) l m => some (.clo (.func f) l m)
  | _ => none
theorem g_nil (hf : Fine C ρ e) {x : Operand} (ho : o.op = .nilCheck x) (h : ((ρ x).bind nilA) = some d) : Gives P C e o d := by
  obtain ⟨d', hd', hn⟩ := Option.bind_eq_some_iff.1 h
  have hv := hf x d' hd'
  have : d = d' := by
    unfold nilA at hn
    split at hn <;> first | (cases hn; rfl) | cases hn
  subst this
  refine ⟨e x, hv, fun w => ?_⟩
  generalize hb : e x = vx at hv
  cases hv <;> simp [nilA] at hn
  · simp [execOp, ho, hb]
  · rename_i fn _ _ _ _ _ _ _ _
    cases fn <;> simp at hn
    simp [execOp, ho, hb]
def nilEq (P : Program) (t : TypeId) : AV → AV → Option Bool
  | .sl .., .lit (.slice none _ _) | .lit (.slice none _ _), .sl .. | .empty, .lit (.slice none _ _) | .lit (.slice none _ _), .empty => match runQ P (underlying t) with
    | some (.slice _) => some false
    | _ => none
  | .ptr .., .lit (.pointer none) | .lit (.pointer none), .ptr .. => match runQ P (underlying t) with
    | some (.pointer _) => some false
    | _ => none
  | .clo .., .lit .nilFunc | .lit .nilFunc, .clo .. => match runQ P (underlying t) with
    | some (.func _ _ _) => some false
    | _ => none
  | .iface .., .lit .nilIface | .lit .nilIface, .iface .. => match runQ P (underlying t) with
    | some (.interface _) => some false
    | _ => none
  | _, _ => none
theorem nilEq_spec {t : TypeId} {d1 d2 : AV} {b : Bool} {u1 u2 : Value} (h : nilEq P t d1 d2 = some b) (h1 : Den C d1 u1) (h2 : Den C d2 u2) :
    (∀ w, (Op.equal t u1 u2).run P w = .ok b w) ∧ ((u1 ≠ .nilIface ∨ u2 ≠ .nilIface) ∧ (∀ c, u1 ≠ .agg c)) ∧ (∀ k n, u1 ≠ .int k n) ∧ (∀ k n, u1 ≠ .float k n) ∧ (∀ k n m, u1 ≠ .complex k n m) ∧ (∀ s, u1 ≠ .string s) := by
  unfold nilEq at h
  split at h <;> first | (cases h; done) | skip
  all_goals
    split at h <;> first | (cases h; done) | skip
    rename_i hu
    have hr := runQ_spec P _ _ hu
    cases h
    cases h1 <;> cases h2 <;> refine ⟨fun w => ?_, by simp⟩ <;> unfold Op.equal <;> rw [show Op.maxDepth = 9999 + 1 from rfl, Op.equalIn] <;> simp [hr]
def ptrEq (P : Program) (t : TypeId) (x y : AV) : Option Bool := match x, y with
  | .ptr b v off, .ptr b' v' off' => match runQ P (underlying t) with
    | some (.pointer elem) => match runQ P (sizeOf elem), Nat.beq b b', Nat.beq v v' with
      | some (_ + 1), true, true => some (Nat.beq off off')
      | _, _, _ => none
    | _ => none
  | _, _ => none
theorem ptrEq_spec {t : TypeId} {d1 d2 : AV} {b : Bool} {u1 u2 : Value} (h : ptrEq P t d1 d2 = some b) (h1 : Den C d1 u1) (h2 : Den C d2 u2) :
    (∀ w, (Op.equal t u1 u2).run P w = .ok b w) ∧ ((u1 ≠ .nilIface ∨ u2 ≠ .nilIface) ∧ (∀ c, u1 ≠ .agg c)) ∧ (∀ k n, u1 ≠ .int k n) ∧ (∀ k n, u1 ≠ .float k n) ∧ (∀ k n m, u1 ≠ .complex k n m) ∧ (∀ s, u1 ≠ .string s) := by
  unfold ptrEq at h
  split at h
  · rename_i b1 v1 off1 b2 v2 off2
    split at h
    · rename_i elem hu
      split at h
      · rename_i k hk hb hv
        cases h
        have e1 := Nat.eq_of_beq_eq_true hb
        have e2 := Nat.eq_of_beq_eq_true hv
        subst e1; subst e2
        have r1 := runQ_spec P _ _ hu
        have r2 := runQ_spec P _ _ hk
        cases h1 with
        | @ptr _ _ _ loc hl hlo =>
          cases h2 with
          | @ptr _ _ _ loc' hl' hlo' =>
            rw [hl] at hl'; cases hl'
            refine ⟨fun w => ?_, by simp⟩
            have hbe : (loc.ad off1 == loc.ad off2) = Nat.beq off1 off2 := by
              by_cases e : off1 = off2
              · subst e; simp [Nat.beq_refl]
              · have hne : loc.ad off1 ≠ loc.ad off2 := fun h => by
                  unfold Loc.ad at h
                  simp only [Addr.mk.injEq, true_and, and_true] at h
                  omega
                have h2 : Nat.beq off1 off2 = false := by
                  cases hb : Nat.beq off1 off2 with
                  | true => exact absurd (Nat.eq_of_beq_eq_true hb) e
                  | false => rfl
                rw [h2]; simpa using hne
            unfold Op.equal
            rw [show Op.maxDepth = 9999 + 1 from rfl, Op.equalIn]
            have hbl : (loc.ad off1).block = (loc.ad off2).block := rfl
            simp [r1, r2, sameAddr, hbl, hbe]
      · cases h
    · cases h
  · cases h
def eqA (P : Program) (t : TypeId) (x y : AV) : Option Bool := match nilEq P t x y with
  | some b => some b
  | none => ptrEq P t x y
theorem eqA_spec {t : TypeId} {d1 d2 : AV} {b : Bool} {u1 u2 : Value} (h : eqA P t d1 d2 = some b) (h1 : Den C d1 u1) (h2 : Den C d2 u2) :
    (∀ w, (Op.equal t u1 u2).run P w = .ok b w) ∧ ((u1 ≠ .nilIface ∨ u2 ≠ .nilIface) ∧ (∀ c, u1 ≠ .agg c)) ∧ (∀ k n, u1 ≠ .int k n) ∧ (∀ k n, u1 ≠ .float k n) ∧ (∀ k n m, u1 ≠ .complex k n m) ∧ (∀ s, u1 ≠ .string s) := by
  unfold eqA at h
  split at h
  · cases h; exact nilEq_spec (by assumption) h1 h2
  · exact ptrEq_spec h h1 h2
def cmpA (P : Program) (ρ : Operand → Option AV) (op : BinOp) (t : TypeId) (x y : Operand) : Option AV := match ρ x, ρ y with
  | some d1, some d2 => match eqA P t d1 d2, op with
    | some b, .eql => some (.lit (.bool b))
    | some b, .neq => some (.lit (.bool (!b)))
    | _, _ => none
  | _, _ => none
theorem g_cmp (hf : Fine C ρ e) {op : BinOp} {t t' : TypeId} {x y : Operand} (ho : o.op = .binOp op t x y t') (h : cmpA P ρ op t x y = some d) : Gives P C e o d := by
  unfold cmpA at h
  split at h
  · rename_i d1 d2 e1 e2
    have hx := hf _ _ e1
    have hy := hf _ _ e2
    split at h
    · rename_i b hb
      cases h
      obtain ⟨hr, ⟨hn, ha⟩, hi, hfl, hcx, hs⟩ := eqA_spec hb hx hy
      refine ⟨.bool b, .lit _, fun w => ?_⟩
      have hg : ∀ w, (eqGuard .eql t x y (e x) (e y)).run P w = .ok () w := fun w => by
        unfold eqGuard
        simp
        split
        · rename_i h1 h2; rcases hn with hn | hn
          · exact absurd h1 hn
          · exact absurd h2 hn
        · rename_i h1 _; exact absurd h1 (ha _)
        · rfl
      have hb2 : binOp .eql t (e x) (e y) = (do pure (.bool (← Op.equal t (e x) (e y)))) := by
        unfold binOp
        split <;> first | rfl | (rename_i h1 _; first | exact absurd h1 (hi _ _) | exact absurd h1 (hfl _ _) | exact absurd h1 (hcx _ _ _) | exact absurd h1 (hs _)) | skip
        all_goals simp_all
      simp [execOp, ho, hg, hb2, hr]
    · rename_i b hb
      cases h
      obtain ⟨hr, ⟨hn, ha⟩, hi, hfl, hcx, hs⟩ := eqA_spec hb hx hy
      refine ⟨.bool (!b), .lit _, fun w => ?_⟩
      have hg : ∀ w, (eqGuard .neq t x y (e x) (e y)).run P w = .ok () w := fun w => by
        unfold eqGuard
        simp
        split
        · rename_i h1 h2; rcases hn with hn | hn
          · exact absurd h1 hn
          · exact absurd h2 hn
        · rename_i h1 _; exact absurd h1 (ha _)
        · rfl
      have hb2 : binOp .neq t (e x) (e y) = (do pure (.bool (!(← Op.equal t (e x) (e y))))) := by
        unfold binOp
        split <;> first | rfl | (rename_i h1 _; first | exact absurd h1 (hi _ _) | exact absurd h1 (hfl _ _) | exact absurd h1 (hcx _ _ _) | exact absurd h1 (hs _)) | skip
        all_goals simp_all
      simp [execOp, ho, hg, hb2, hr]
    · cases h
  · cases h
end
end Go.EV
