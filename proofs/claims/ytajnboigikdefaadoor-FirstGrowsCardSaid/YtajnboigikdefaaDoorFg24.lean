/- Texts that the proof of a law rests on, put together: part 24. -/
import Derived.Test.YtajnboigikdefaaDoorFg23
namespace Go.EV
open Go Go.RowKit
set_option linter.unusedVariables false
set_option linter.unusedSimpArgs false
def freeOp : Op → Bool
  | .move _ | .assign _ | .pick .. | .build .. | .nilCheck _ | .fieldAddr .. | .field .. | .indexAddr .. | .index .. | .extract .. | .makeInterface .. | .makeFunc .. | .typeAssert .. | .slice .. | .binOp .. | .unOp .. | .convert .. | .load .. => true
  | .call { callee := .builtin .len, .. } | .call { callee := .builtin .cap, .. } => true
  | _ => false
def isNilL {α : Type} : List α → Bool
  | [] => true
  | _ => false
def isOne (i : Nat) : List Nat → Bool
  | [j] => Nat.beq j i
  | _ => false
def depsGo (ops : Array Oper) (i : Nat) : List Nat → List Nat → List Nat
  | [], D => D
  | k :: r, D => match ops[k]? with
    | some o => match o.after.toList.any (fun e => Region.binds .any e && (Nat.beq e.on i || XW.memN e.on D)) with
      | true => depsGo ops i r (k :: D)
      | false => depsGo ops i r D
    | none => depsGo ops i r D
def depOk (ops : Array Oper) (i : Nat) (D : List Nat) : List Nat → Bool
  | [] => true
  | k :: r => match ops[k]? with
    | some o => o.after.toList.any (fun e => Region.binds .any e && (Nat.beq e.on i || XW.memN e.on D)) && depOk ops i D r
    | none => false
def effs (ops : Array Oper) : List Nat → List Nat
  | [] => []
  | k :: r => match ops[k]? with
    | some o => match freeOp o.op with
      | true => effs ops r
      | false => k :: effs ops r
    | none => effs ops r
inductive PE where
  | free (i : Nat) (D : List Nat)
  | sole (i : Nat)
  | reg (i : Nat)
abbrev Plan := List PE
def cnt : Plan → Nat
  | [] => 0
  | .reg _ :: r => cnt r
  | _ :: r => cnt r + 1
def remN (i : Nat) : List Nat → List Nat
  | [] => []
  | x :: r => match Nat.beq x i with
    | true => remN i r
    | false => x :: remN i r
def tmpsO : List Operand → List Nat
  | [] => []
  | .tmp t :: r => t :: tmpsO r
  | _ :: r => tmpsO r
def clearB (ops : Array Oper) (i : Nat) : List Nat → Bool
  | [] => true
  | x :: r => match ops[i]?, ops[x]? with
    | some oi, some ox => (match oi.dst with
        | some t => !(XW.memN t (tmpsO ox.op.operands.toList)) && (match ox.dst with
          | some u => !(Nat.beq t u)
          | none => true)
        | none => true) && clearB ops i r
    | _, _ => false
def clearR (ops : Array Oper) (i : Nat) : List Nat → Bool
  | [] => true
  | x :: r => clearB ops x [i] && clearR ops i r
def disjN (D : List Nat) : List Nat → Bool
  | [] => true
  | x :: r => !(XW.memN x D) && disjN D r
def setAll (L : Array Bool) : List Nat → Array Bool
  | [] => L
  | x :: r => setAll (L.setIfInBounds x true) r
def isFloatI (ops : Array Oper) (i : Nat) : Bool := match ops[i]? with
  | some o => isFloatO o
  | none => false
def isFree (ops : Array Oper) (i : Nat) : Bool := match ops[i]? with
  | some o => freeOp o.op
  | none => false
def undB (L : Array Bool) : List Nat → Bool
  | [] => true
  | k :: r => !(L.getD k true) && undB L r
def planOk (ops : Array Oper) (is : List XW.OI) : Plan → Array Bool → List Nat → Bool
  | [], L, Fl => isNilL Fl && isNilL (Region.ready .any ops L)
  | .free i D :: r, L, Fl => (isFree ops i && (depOk ops i D D && (undB L D && disjN D Fl))) && ((XW.upI is L.toList i && (clearB ops i Fl && Nat.ble Fl.length (cnt r))) && planOk ops is r (L.setIfInBounds i true) Fl)
  | .sole i :: r, L, Fl => (isOne i (Region.ready .any ops (setAll L (remN i Fl))) && XW.memN i (Region.ready .any ops L)) && ((clearB ops i (remN i Fl) && Nat.ble (remN i Fl).length (cnt r)) && planOk ops is r (L.setIfInBounds i true) (remN i Fl))
  | .reg i :: r, L, Fl => (isFloatI ops i && (XW.memN i (Region.ready .any ops L) && !(XW.memN i Fl))) && ((clearB ops i Fl && clearR ops i Fl) && planOk ops is r L (i :: Fl))
def firstFree (ops : Array Oper) (is : List XW.OI) (L : List Bool) : List Nat → Option Nat
  | [] => none
  | i :: r => match isFree ops i && XW.upI is L i with
    | true => some i
    | false => firstFree ops is L r
def isLoad (ops : Array Oper) (i : Nat) : Bool := match ops[i]? with
  | some o => match o.op with
    | .load .. => true
    | _ => false
  | none => false
def newFloats (ops : Array Oper) (Fl : List Nat) : List Nat → List Nat
  | [] => []
  | i :: r => match isFloatI ops i && !(XW.memN i Fl) with
    | true => i :: newFloats ops Fl r
    | false => newFloats ops Fl r
def regs : List Nat → Plan → Plan
  | [], p => p
  | i :: r, p => .reg i :: regs r p
def notIn (Fl : List Nat) : List Nat → List Nat
  | [] => []
  | i :: r => match XW.memN i Fl with
    | true => notIn Fl r
    | false => i :: notIn Fl r
def firstSole (ops : Array Oper) (L : Array Bool) (Fl : List Nat) : List Nat → Option Nat
  | [] => none
  | i :: r => match isOne i (Region.ready .any ops (setAll L (remN i Fl))) with
    | true => some i
    | false => firstSole ops L Fl r
def mkPlan (ops : Array Oper) (is : List XW.OI) : Nat → Array Bool → List Nat → Option Plan
  | 0, L, Fl => some []
  | k + 1, L, Fl => match Region.ready .any ops L with
    | [] => some []
    | l => match firstFree ops is L.toList l with
      | some i => match l with
        | [j] => match mkPlan ops is k (L.setIfInBounds j true) (remN j Fl) with
          | some r => some (.sole j :: r)
          | none => none
        | _ => match mkPlan ops is k (L.setIfInBounds i true) Fl with
          | some r => some (.free i (match isLoad ops i with | true => depsGo ops i (List.range ops.size) [] | false => []) :: r)
          | none => none
      | none => match l with
        | [j] => match mkPlan ops is k (L.setIfInBounds j true) (remN j Fl) with
          | some r => some (.sole j :: r)
          | none => none
        | _ => let nf := newFloats ops Fl l
          match firstSole ops L (nf ++ Fl) (notIn (nf ++ Fl) l ++ l) with
          | some j => match mkPlan ops is k (L.setIfInBounds j true) (remN j (nf ++ Fl)) with
            | some r => some (regs nf (.sole j :: r))
            | none => none
          | none => none
def planR (ops : Array Oper) : Option Plan := match mkPlan ops (XW.summ ops) ops.size (Array.replicate ops.size false) [] with
  | some p => match planOk ops (XW.summ ops) p (Array.replicate ops.size false) [] && (Region.noSelect ops && Nat.beq (cnt p) ops.size) with
    | true => some p
    | false => none
  | none => none
abbrev Rd := List (Nat × Nat × List Nat)
noncomputable def stampsOk (H : Heap) : Rd → Bool
  | [] => true
  | (b, st, _) :: r => match H.get b with
    | some B => Nat.beq B.stamp st && stampsOk H r
    | none => false
def restRd (j : Nat) : Rd → Rd
  | [] => []
  | (b, st, D) :: r => match XW.memN j D with
    | true => restRd j r
    | false => (b, st, D) :: restRd j r
noncomputable def evalPlan (P : Program) (cf : CF) (n : Nat) (ops : Array Oper) : Plan → Rd → St → RS
  | [], _, s => some [(.normal, s)]
  | .reg i :: r, rd, s => match ops[i]? with
    | none => none
    | some o => match putA n s.E o.dst .hole with
      | some E' => match floatA P (opd E') o with
        | some _ => evalPlan P cf n ops r rd ⟨E', s.H, s.ds⟩
        | none => none
      | none => none
  | .free i D :: r, rd, s => match ops[i]? with
    | none => none
    | some o => match wantA ops s.E o with
      | none => none
      | some false => match putA n s.E o.dst undefA with
        | some E' => evalPlan P cf n ops r rd ⟨E', s.H, s.ds⟩
        | none => none
      | some true => match o.op with
        | .load t p => match opd s.E p with
          | some dp => match loadA P s.H t dp with
            | some (d, b) => match s.H.get b, putA n s.E o.dst d with
              | some B, some E' => evalPlan P cf n ops r ((b, B.stamp, effs ops D) :: rd) ⟨E', s.H, s.ds⟩
              | _, _ => none
            | none => none
          | none => none
        | _ => match plainA P s.H (opd s.E) o with
          | some d => match putA n s.E o.dst d with
            | some E' => evalPlan P cf n ops r rd ⟨E', s.H, s.ds⟩
            | none => none
          | none => none
  | .sole i :: r, rd, s => bindN (opStep P cf n ops i s) fun s' => match stampsOk s'.H (restRd i rd) with
    | true => evalPlan P cf n ops r (restRd i rd) s'
    | false => none
section
variable {P : Program} {cf : CF} {n base : Nat} {ops : Array Oper} {s : St} {C : Cx} {a : Act} {w : World} {rs : List (XE × St)} {Q : Exit → Act → World → Prop}
theorem stamps_mem {H : Heap} : ∀ {l : Rd}, stampsOk H l = true → ∀ x ∈ l, ∃ B, H.get x.1 = some B ∧ B.stamp = x.2.1
  | [], _, x, h => by simp at h
  | (b0, s0, D0) :: r, h, x, hm => by
    simp only [stampsOk] at h
    split at h
    · rename_i B hB
      simp only [Bool.and_eq_true] at h
      rcases List.mem_cons.1 hm with e | hm
      · subst e; exact ⟨B, hB, Nat.eq_of_beq_eq_true h.1⟩
      · exact stamps_mem h.2 x hm
    · cases h
theorem mem_restRd {j : Nat} : ∀ {l : Rd} {x : Nat × Nat × List Nat}, (x ∈ l → j ∉ x.2.2 → x ∈ restRd j l) ∧ (x ∈ restRd j l → x ∈ l)
  | [], x => ⟨fun h => by simp at h, fun h => by simp [restRd] at h⟩
  | (b, st, D) :: r, x => by
    obtain ⟨h1, h2⟩ := mem_restRd (j := j) (l := r) (x := x)
    constructor
    · intro hm hn
      simp only [restRd]
      rcases List.mem_cons.1 hm with e | hm
      · subst e
        cases hb : XW.memN j D with
        | true => exact absurd ((XW.memN_iff j D).1 hb) hn
        | false => exact List.mem_cons_self
      · split
        · exact h1 hm hn
        · exact List.mem_cons_of_mem _ (h1 hm hn)
    · intro hm
      simp only [restRd] at hm
      split at hm
      · exact List.mem_cons_of_mem _ (h2 hm)
      · rcases List.mem_cons.1 hm with e | hm
        · subst e; exact List.mem_cons_self
        · exact List.mem_cons_of_mem _ (h2 hm)
theorem depOk_spec {i : Nat} {D : List Nat} : ∀ {l : List Nat}, depOk ops i D l = true → ∀ k ∈ l, ∃ ok, ops[k]? = some ok ∧ ∃ e ∈ ok.after, Region.binds .any e = true ∧ (e.on = i ∨ e.on ∈ D)
  | [], _, k, hk => by simp at hk
  | x :: r, h, k, hk => by
    simp only [depOk] at h
    split at h
    · rename_i o ho
      simp only [Bool.and_eq_true] at h
      rcases List.mem_cons.1 hk with e | hk
      · subst e
        obtain ⟨e, he, hb⟩ := List.any_eq_true.1 h.1
        simp only [Bool.and_eq_true, Bool.or_eq_true] at hb
        refine ⟨o, ho, e, by simpa using he, hb.1, ?_⟩
        rcases hb.2 with hb2 | hb2
        · exact .inl (Nat.eq_of_beq_eq_true hb2)
        · exact .inr ((XW.memN_iff _ _).1 hb2)
      · exact depOk_spec h.2 k hk
    · cases h
theorem mem_effs : ∀ {l : List Nat} {k : Nat}, k ∈ effs ops l → k ∈ l ∧ isFree ops k = false
  | [], k, h => by simp [effs] at h
  | x :: r, k, h => by
    simp only [effs] at h
    split at h
    · rename_i o ho
      split at h
      · have := mem_effs h; exact ⟨List.mem_cons_of_mem _ this.1, this.2⟩
      · rename_i hf
        rcases List.mem_cons.1 h with e | h
        · subst e; exact ⟨List.mem_cons_self, by simp [isFree, ho, hf]⟩
        · have := mem_effs h; exact ⟨List.mem_cons_of_mem _ this.1, this.2⟩
    · have := mem_effs h; exact ⟨List.mem_cons_of_mem _ this.1, this.2⟩
theorem undB_spec {L : Array Bool} : ∀ {D : List Nat}, undB L D = true → und D L
  | [], _, k, hk => by simp at hk
  | x :: r, h, k, hk => by
    simp only [undB, Bool.and_eq_true, Bool.not_eq_true'] at h
    rcases List.mem_cons.1 hk with e | hk
    · subst e; exact h.1
    · exact undB_spec h.2 k hk
abbrev Facts := List (List Nat × (World → Prop))
def SF (fs : Facts) (L : Array Bool) (w : World) : Prop := ∀ f ∈ fs, und f.1 L → f.2 w
def FOk (ops : Array Oper) (fs : Facts) : Prop := ∀ f ∈ fs, ∀ k ∈ f.1, isFree ops k = false
theorem getD_set_self (L : Array Bool) (i : Nat) : (L.setIfInBounds i true).getD i true = true := by
  rcases Nat.lt_or_ge i L.size with h | h
  · simp [h]
  · simp [Array.getElem?_eq_none, h]
theorem SF_take {fs : Facts} {i : Nat} (hF : FOk ops fs) (hi : isFree ops i = true) (L : Array Bool) (w : World) (h : SF fs (L.setIfInBounds i true) w) : SF fs L w := fun f hf hu => h f hf (fun k hk => by
  have hne : i ≠ k := fun e => by subst e; rw [hF f hf i hk] at hi; cases hi
  rw [getD_set_ne true hne]; exact hu k hk)
theorem SF_put {fs : Facts} {i : Nat} (L : Array Bool) (w : World) (h : SF fs L w) : SF fs (L.setIfInBounds i true) w := fun f hf hu => h f hf (fun k hk => by
  have := hu k hk
  by_cases e : i = k
  · subst e; rw [getD_set_self] at this; cases this
  · rw [getD_set_ne true e] at this; exact this)
def RdOk (C : Cx) (w : World) (L : Array Bool) (rd : Rd) (fs : Facts) : Prop := ∀ f ∈ fs, (∃ k ∈ f.1, L.getD k true = true) ∨ ∃ x ∈ rd, x.2.2 = f.1 ∧ ∀ w' : World, (∀ v loc, C.at_ x.1 v = some loc → w'.heap[loc.blk]? = w.heap[loc.blk]?) → f.2 w'
theorem RdOk.sf {C : Cx} {w : World} {L : Array Bool} {rd : Rd} {fs : Facts} (h : RdOk C w L rd fs) : SF fs L w := fun f hf hu => by
  rcases h f hf with ⟨k, hk, h1⟩ | ⟨x, _, _, h1⟩
  · rw [hu k hk] at h1; cases h1
  · exact h1 w (fun _ _ _ => rfl)
theorem RdOk.set {C : Cx} {w : World} {L : Array Bool} {rd : Rd} {fs : Facts} (h : RdOk C w L rd fs) (i : Nat) : RdOk C w (L.setIfInBounds i true) rd fs := fun f hf => by
  rcases h f hf with ⟨k, hk, h1⟩ | h1
  · refine .inl ⟨k, hk, ?_⟩
    by_cases e : i = k
    · subst e; exact getD_set_self _ _
    · rw [getD_set_ne true e]; exact h1
  · exact .inr h1
theorem isOne_spec {i : Nat} {l : List Nat} (h : isOne i l = true) : l = [i] := by
  unfold isOne at h
  split at h
  · rw [Nat.eq_of_beq_eq_true h]
  · cases h
theorem isNil_spec {α : Type} {l : List α} (h : isNilL l = true) : l = [] := by cases l <;> simp_all [isNilL]
theorem mem_remN {i x : Nat} : ∀ {l : List Nat}, x ∈ remN i l ↔ x ∈ l ∧ x ≠ i
  | [] => by simp [remN]
  | y :: r => by
    simp only [remN]
    cases hb : Nat.beq y i with
    | true =>
      have := Nat.eq_of_beq_eq_true hb
      subst this
      simp only [mem_remN (l := r), List.mem_cons]
      constructor
      · rintro ⟨h1, h2⟩; exact ⟨.inr h1, h2⟩
      · rintro ⟨h1 | h1, h2⟩
        · exact absurd h1 h2
        · exact ⟨h1, h2⟩
    | false =>
      have hne : y ≠ i := fun e => by subst e; simp at hb
      simp only [List.mem_cons, mem_remN (l := r)]
      constructor
      · rintro (rfl | ⟨h1, h2⟩)
        · exact ⟨.inl rfl, hne⟩
        · exact ⟨.inr h1, h2⟩
      · rintro ⟨rfl | h1, h2⟩
        · exact .inl rfl
        · exact .inr ⟨h1, h2⟩
theorem mem_tmpsO {t : Nat} : ∀ {l : List Operand}, t ∈ tmpsO l ↔ Operand.tmp t ∈ l
  | [] => by simp [tmpsO]
  | .tmp u :: r => by simp [tmpsO, mem_tmpsO (l := r)]
  | .const v :: r => by simp [tmpsO, mem_tmpsO (l := r)]
  | .global v :: r => by simp [tmpsO, mem_tmpsO (l := r)]
  | .func v :: r => by simp [tmpsO, mem_tmpsO (l := r)]
theorem clearB_spec {i : Nat} : ∀ {l : List Nat}, clearB ops i l = true → ∀ x ∈ l, ∀ oi ox, ops[i]? = some oi → ops[x]? = some ox → ∀ t, oi.dst = some t → Operand.tmp t ∉ ox.op.operands.toList ∧ ox.dst ≠ some t
  | [], _, x, hx => by simp at hx
  | y :: r, h, x, hx => by
    simp only [clearB] at h
    split at h
    · rename_i oi' ox' h1 h2
      simp only [Bool.and_eq_true] at h
      rcases List.mem_cons.1 hx with rfl | hx
      · intro oi ox e1 e2 t ht
        rw [h1] at e1; cases e1
        rw [h2] at e2; cases e2
        have h3 := h.1
        rw [ht] at h3
        simp only [Bool.and_eq_true, Bool.not_eq_true'] at h3
        refine ⟨fun hm => ?_, fun e => ?_⟩
        · rw [(XW.memN_iff _ _).2 (mem_tmpsO.2 hm)] at h3; cases h3.1
        · rw [e] at h3; simp at h3
      · exact clearB_spec h.2 x hx
    · cases h
theorem clearR_spec {i : Nat} : ∀ {l : List Nat}, clearR ops i l = true → ∀ x ∈ l, clearB ops x [i] = true
  | [], _, x, hx => by simp at hx
  | y :: r, h, x, hx => by
    simp only [clearR, Bool.and_eq_true] at h
    rcases List.mem_cons.1 hx with rfl | hx
    · exact h.1
    · exact clearR_spec h.2 x hx
theorem disjN_spec {D : List Nat} : ∀ {l : List Nat}, disjN D l = true → ∀ x ∈ l, x ∉ D
  | [], _, x, hx => by simp at hx
  | y :: r, h, x, hx => by
    simp only [disjN, Bool.and_eq_true, Bool.not_eq_true'] at h
    rcases List.mem_cons.1 hx with rfl | hx
    · intro hm; rw [(XW.memN_iff _ _).2 hm] at h; cases h.1
    · exact disjN_spec h.2 x hx
theorem getD_setAll : ∀ (l : List Nat) (L : Array Bool) (k : Nat), k ∉ l → (∀ d, (setAll L l).getD k d = L.getD k d)
  | [], L, k, _, d => rfl
  | x :: r, L, k, h, d => by
    simp only [List.mem_cons, not_or] at h
    rw [setAll, getD_setAll r _ k h.2 d, getD_set_ne d (Ne.symm h.1)]
theorem getD_setAll_mem : ∀ (l : List Nat) (L : Array Bool) (k : Nat), k ∈ l → k < L.size → (∀ d, (setAll L l).getD k d = true)
  | [], L, k, h, _, d => by simp at h
  | x :: r, L, k, h, hk, d => by
    rw [setAll]
    by_cases hr : k ∈ r
    · exact getD_setAll_mem r _ k hr (by simpa using hk) d
    · rcases List.mem_cons.1 h with rfl | h
      · rw [getD_setAll r _ k hr d]
        simp [hk]
      · exact absurd h hr
structure LcOk (L : Array Bool) (X : List Nat) (Lc : Array Bool) : Prop where
  on : ∀ k d, k ∈ X → Lc.getD k d = true
  off : ∀ k d, k ∉ X → Lc.getD k d = L.getD k d
theorem LcOk.set {L Lc : Array Bool} {X : List Nat} (h : LcOk L X Lc) (hs : Lc.size = L.size) (i : Nat) : LcOk (L.setIfInBounds i true) X (Lc.setIfInBounds i true) := by
  refine ⟨fun k d hk => ?_, fun k d hk => ?_⟩
  · by_cases e : i = k
    · subst e
      have := h.on i false hk
      have hlt : i < Lc.size := by
        rcases Nat.lt_or_ge i Lc.size with h' | h'
        · exact h'
        · simp [Array.getElem?_eq_none h'] at this
      simp [hlt]
    · rw [getD_set_ne d e]; exact h.on k d hk
  · by_cases e : i = k
    · subst e
      rcases Nat.lt_or_ge i Lc.size with h' | h'
      · simp [h', hs ▸ h']
      · simp [Array.getElem?_eq_none, h', hs ▸ h']
    · rw [getD_set_ne d e, getD_set_ne d e]; exact h.off k d hk
def FX (P : Program) (ops : Array Oper) (C : Cx) (E : EnvA) (a : Act) (w : World) (m x g : Nat) : Prop := ∃ o t fs cs el arr, ops[x]? = some o ∧ o.dst = some t ∧ floatA P (opd E) o = some (fs, cs, el) ∧ a.tmps[t]? = some (concF fs g) ∧
  w.heap[g]? = some (.cells arr el) ∧ Dens C cs arr.toList ∧ okF fs arr ∧ m ≤ g ∧ ∀ b v loc, C.at_ b v = some loc → loc.blk ≠ g
theorem opd_put {E E' : EnvA} {o : Option Tmp} {d : AV} (hp : putA n E o d = some E') {x : Operand} (hx : ∀ t, o = some t → x ≠ .tmp t) : opd E' x = opd E x := by
  cases x with
  | tmp t =>
    cases o with
    | none => simp only [putA, Option.some.injEq] at hp; subst hp; rfl
    | some u =>
      simp only [putA] at hp
      split at hp
      · cases hp
        have hne : t ≠ u := fun e => hx u rfl (by rw [e])
        exact Tr.get_set_ne d 12 E u t hne
      · cases hp
  | _ => rfl
theorem FX.put {C C' : Cx} {H H' : Heap} {E E' : EnvA} {a a' : Act} {w w' : World} {m x g i : Nat} {oi : Oper} {d : AV} (h : FX P ops C E a w m x g) (hS : Step C C' H H' base w w') (hoi : ops[i]? = some oi) (hp : putA n E oi.dst d = some E') (hcl : clearB ops i [x] = true)
    (ha : ∀ t, oi.dst ≠ some t → a'.tmps[t]? = a.tmps[t]?) : FX P ops C' E' a' w' m x g := by
  obtain ⟨o, t, fs, cs, el, arr, h1, h2, h3, h4, h5, h6, h7, h8, h9⟩ := h
  have hc := clearB_spec hcl x (List.mem_singleton.2 rfl) oi o hoi h1
  have hgl : g < w.heap.size := (Array.getElem?_eq_some_iff.1 h5).1
  obtain ⟨r1, r2⟩ := hS.rest g hgl h9
  refine ⟨o, t, fs, cs, el, arr, h1, h2, ?_, ?_, r1.trans h5, h6.mono hS.ext, h7, h8, r2⟩
  · rw [← h3]
    exact floatA_congr (fun y hy => opd_put hp (fun u hu e => (hc u hu).1 (e ▸ hy)))
  · rw [ha t (fun e => (hc t e).2 h2)]; exact h4
def FlOk (P : Program) (n : Nat) (ops : Array Oper) (E : EnvA) (Fl : List Nat) : Prop := ∀ x ∈ Fl, ∃ o t r, ops[x]? = some o ∧ isFloatO o = true ∧ o.dst = some t ∧ floatA P (opd E) o = some r ∧ (∀ d, getA E t = some d → d = .hole) ∧ t < n
theorem FlOk.put {E E' : EnvA} {Fl : List Nat} {i : Nat} {oi : Oper} {d : AV} (h : FlOk P n ops E Fl) (hoi : ops[i]? = some oi) (hp : putA n E oi.dst d = some E') (hcl : clearB ops i Fl = true) : FlOk P n ops E' Fl := fun x hx => by
  obtain ⟨o, t, r, h1, h2, h3, h4, h5, h6⟩ := h x hx
  have hc := clearB_spec hcl x hx oi o hoi h1
  refine ⟨o, t, r, h1, h2, h3, ?_, fun d' hd' => h5 d' ?_, h6⟩
  · rw [← h4]
    exact floatA_congr (fun y hy => opd_put hp (fun u hu e => (hc u hu).1 (e ▸ hy)))
  · have := opd_put (x := .tmp t) hp (fun u hu e => by cases e; exact (hc t hu).2 h3)
    simp only [opd] at this
    rw [← this]; exact hd'
theorem FlOk.sub {E : EnvA} {Fl Fl' : List Nat} (h : FlOk P n ops E Fl) (hs : ∀ x ∈ Fl', x ∈ Fl) : FlOk P n ops E Fl' := fun x hx => h x (hs x hx)
theorem clearB_one {i x : Nat} : ∀ {l : List Nat}, clearB ops i l = true → x ∈ l → clearB ops i [x] = true
  | [], _, hx => by simp at hx
  | y :: r, h, hx => by
    simp only [clearB] at h
    split at h
    · rename_i oi ox h1 h2
      simp only [Bool.and_eq_true] at h
      rcases List.mem_cons.1 hx with rfl | hx
      · simp only [clearB, h1, h2, Bool.and_eq_true]
        exact ⟨h.1, trivial⟩
      · exact clearB_one h.2 hx
    · cases h
theorem ESat.hole {E E' : EnvA} {o : Option Tmp} (h : ESat C n E a) (hp : putA n E o .hole = some E') : ESat C n E' a := by
  refine ⟨h.size, fun i d hd => ?_⟩
  cases o with
  | none => simp only [putA, Option.some.injEq] at hp; subst hp; exact h.slot i d hd
  | some t =>
    simp only [putA] at hp
    split at hp
    · rename_i hb hb2
      cases hp
      have hlt : t < n := by simpa [Nat.blt_eq] using hb
      have hlt2 : t < 4095 := by simpa [Nat.blt_eq] using hb2
      by_cases e : i = t
      · subst e
        have : getA (Tr.set AV.hole 12 E i) i = some .hole := Tr.get_set_same _ 12 E i (by omega)
        rw [this] at hd; cases hd
        have hs : i < a.tmps.size := by rw [h.size]; exact hlt
        exact ⟨a.tmps[i], Array.getElem?_eq_getElem hs, .hole _⟩
      · have : getA (Tr.set AV.hole 12 E t) i = getA E i := Tr.get_set_ne _ 12 E t i e
        rw [this] at hd; exact h.slot i d hd
    · cases hp
theorem ready_of {L Lc : Array Bool} {X : List Nat} (h : LcOk L X Lc) {j : Nat} (hj : j ∈ Region.ready .any ops L) (hn : j ∉ X) : j ∈ Region.ready .any ops Lc := by
  obtain ⟨h1, o, h2, h3⟩ := mem_ready.1 hj
  refine mem_ready.2 ⟨by rw [h.off j true hn]; exact h1, o, h2, fun e he hb => ?_⟩
  by_cases hx : e.on ∈ X
  · exact h.on _ _ hx
  · rw [h.off _ _ hx]; exact h3 e he hb
end
end Go.EV
