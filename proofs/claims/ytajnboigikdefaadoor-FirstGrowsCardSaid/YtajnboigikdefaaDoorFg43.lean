/- Texts that the proof of a law rests on, put together: part 43. -/
import Derived.Test.YtajnboigikdefaaDoorFg42
import Derived.ChangeOld
import Derived.ChangeSlices
import Derived.OpenShut
import Derived.SizedLaws
namespace Go.EV
open Go Go.RowKit Go.ChangeShapes Go.WideShapes
open Go.XW (Imm Fits DD RepV SL LeafOk leafB All2)
set_option linter.unusedVariables false
set_option linter.unusedSimpArgs false
def kindF (kb : TypeId → Ty → Bool) (cells : TypeId → Nat) : List Field → Nat → Ty → Bool
  | [], _, _ => false
  | f :: r, off, T => match r with
    | [] => Nat.beq f.offset off && (kb f.type T && Nat.beq (cells f.type) T.cells)
    | _ :: _ => match T with
      | .pr a b => Nat.beq f.offset off && (kb f.type a && (Nat.beq (cells f.type) a.cells && kindF kb cells r (off + a.cells) b))
      | _ => false
def kindB (P : Program) : Nat → TypeId → Ty → Bool
  | 0, _, _ => false
  | n + 1, t, T => match P.underlying t with
    | some .bool => (match T with
      | .bool => true
      | _ => false)
    | some (.int k) => (match T with
      | .int l => sameKind k l
      | _ => false)
    | some .string => (match T with
      | .str => true
      | _ => false)
    | some (.float k) => (match T with
      | .flt l => sameF k l
      | _ => false)
    | some (.slice e) => (match T with
      | .sl U => kindB P n e U && Nat.beq (P.cellsOf e) U.cells
      | _ => false)
    | some (.struct fs) => T.isAgg && (kindF (kindB P n) P.cellsOf fs.toList 0 T && Nat.beq (P.cellsOf t) T.cells)
    | _ => false
def rng : (T : Ty) → T.den → Prop
  | .int k, x => k.min ≤ x ∧ x ≤ k.max
  | .bool, _ => True
  | .str, s => s.size ≤ maxLen
  | .flt k, b => (Lit.float k b).wf = true
  | .sl t, l => l.length ≤ maxLen ∧ ∀ x ∈ l, rng t x
  | .pr a b, x => rng a x.1 ∧ rng b x.2
  | .tree, _ => True
section
variable {H : Type} {enc : TypeId × Value → H} {P : Program} {W : World} {base : Nat} {spare : Nat → Bool} {held : Bool}
theorem trod_float {k : FloatKind} {t : TypeId} {fuel : Nat} {cs : List Value} {x : DataW H × List MemPlace} (ht : P.underlying t = some (.float k)) (h : DataW.trod enc P W base spare held fuel t cs = some x) : ∃ b, cs = [.float k b] ∧ (Lit.float k b).wf = true := by
  cases fuel with
  | zero => simp [DataW.trod] at h
  | succ n =>
    unfold DataW.trod at h
    rw [ht] at h
    split at h <;> simp_all
def KSpec (enc : TypeId × Value → H) (P : Program) (W : World) (base : Nat) (spare : Nat → Bool) (held : Bool) (kb : TypeId → Ty → Bool) : Prop := ∀ (t : TypeId) (T : Ty) (fuel : Nat) (cs : List Value) (x : DataW H × List MemPlace), kb t T = true → DataW.trod enc P W base spare held fuel t cs = some x → ∃ y : T.den, All2 W.cell? (T.dd y) cs ∧ rng T y
theorem fields_den {kb : TypeId → Ty → Bool} (hk : KSpec enc P W base spare held kb) {fuel : Nat} {cs : List Value} : ∀ (fs : List Field) (off : Nat) (T : Ty), kindF kb P.cellsOf fs off T = true → (∀ f ∈ fs, ∃ z, DataW.trod enc P W base spare held fuel f.type ((cs.drop f.offset).take (P.cellsOf f.type)) = some z) → ∃ y : T.den, All2 W.cell? (T.dd y) ((cs.drop off).take T.cells) ∧ rng T y
  | [], off, T, h, _ => by simp [kindF] at h
  | [f], off, T, h, hz => by
    simp only [kindF, Bool.and_eq_true] at h
    obtain ⟨h1, h2, h3⟩ := h
    obtain ⟨z, hz⟩ := hz f List.mem_cons_self
    rw [Nat.eq_of_beq_eq_true h1, Nat.eq_of_beq_eq_true h3] at hz
    exact hk _ _ _ _ _ h2 hz
  | f :: g :: r, off, T, h, hz => by
    cases T <;> simp only [kindF, Bool.false_eq_true] at h
    rename_i a b
    simp only [Bool.and_eq_true] at h
    obtain ⟨h1, h2, h3, h4⟩ := h
    obtain ⟨z, hzf⟩ := hz f List.mem_cons_self
    rw [Nat.eq_of_beq_eq_true h1, Nat.eq_of_beq_eq_true h3] at hzf
    obtain ⟨y1, g1, g2⟩ := hk _ _ _ _ _ h2 hzf
    obtain ⟨y2, g3, g4⟩ := fields_den hk (g :: r) (off + a.cells) b h4 (fun q hq => hz q (List.mem_cons_of_mem _ hq))
    refine ⟨(y1, y2), ?_, g2, g4⟩
    show All2 W.cell? (a.dd y1 ++ b.dd y2) ((cs.drop off).take (a.cells + b.cells))
    rw [List.take_add, List.drop_drop]
    exact All2.append g1 g3
theorem sl_den {T : Ty} {a : Addr} {len cap : Nat} (hl : len ≤ cap) (hm : cap ≤ maxLen) (h : ∀ i, i < len → ∃ (y : T.den) (cs : List Value), W.cells? base (a.add (i * T.cells)) T.cells = some cs ∧ All2 W.cell? (T.dd y) cs ∧ rng T y) :
    ∃ l : List T.den, RepV W.cell? (SL T.cells T.dd l) (.slice (some a) len cap) ∧ l.length ≤ maxLen ∧ ∀ x ∈ l, rng T x := by
  have hex : ∀ k, k ≤ len → ∃ l : List T.den, l.length = k ∧ ∀ i x, l[i]? = some x → ∃ cs : List Value, W.cells? base (a.add (i * T.cells)) T.cells = some cs ∧ All2 W.cell? (T.dd x) cs ∧ rng T x := by
    intro k
    induction k with
    | zero => intro _; exact ⟨[], rfl, fun i x hx => by simp at hx⟩
    | succ k ih =>
      intro hk
      obtain ⟨l, h1, h2⟩ := ih (by omega)
      obtain ⟨y, cs, g1, g2, g3⟩ := h k (by omega)
      refine ⟨l ++ [y], by simp [h1], fun i x hx => ?_⟩
      by_cases hi : i < l.length
      · rw [List.getElem?_append_left hi] at hx; exact h2 i x hx
      · rw [List.getElem?_append_right (by omega)] at hx
        have : i = k := by
          have := (List.getElem?_eq_some_iff.1 hx).1
          simp at this; omega
        subst this
        rw [h1, Nat.sub_self] at hx
        simp at hx; subst hx
        exact ⟨cs, g1, g2, g3⟩
  obtain ⟨l, hll, hl2⟩ := hex len (Nat.le_refl _)
  have key : ∀ (i j : Nat) (r : List DD) (q : DD), (l.map T.dd)[i]? = some r → r[j]? = some q → ∃ u, W.cell? (a.add (i * T.cells + j)) = some u ∧ RepV W.cell? q u := by
    intro i j r q hr hq
    rw [List.getElem?_map, Option.map_eq_some_iff] at hr
    obtain ⟨x, hx, rfl⟩ := hr
    obtain ⟨cs, g1, g2, _⟩ := hl2 i x hx
    obtain ⟨_, g4, g5⟩ := World.cells?_some g1
    obtain ⟨g6, g7⟩ := XW.All2.back g2
    have hj : j < cs.length := by rw [g6]; exact (List.getElem?_eq_some_iff.1 hq).1
    refine ⟨cs[j], ?_, g7 j q _ hq (List.getElem?_eq_getElem hj)⟩
    have := g5 j (by omega)
    rw [XW.addr_add_add] at this
    rw [this]; exact List.getElem?_eq_getElem hj
  have hR := RepV.sl (I := W.cell?) (e := T.cells) (rows := l.map T.dd) (ad := a) (c := cap) (by rw [List.length_map, hll]; exact hl) (by simpa [maxLen] using hm) (fun i j => (W.cell? (a.add (i * T.cells + j))).getD undef)
    (fun i j r q hr hq => by
      obtain ⟨u, hu, _⟩ := key i j r q hr hq
      rw [hu]; rfl)
    (fun i j r q hr hq => by
      obtain ⟨u, hu, hrep⟩ := key i j r q hr hq
      rw [hu]; exact hrep)
  rw [List.length_map, hll] at hR
  refine ⟨l, hR, by omega, fun x hx => ?_⟩
  obtain ⟨i, hi⟩ := List.mem_iff_getElem?.1 hx
  exact (hl2 i x hi).choose_spec.2.2
theorem trod_den : ∀ n : Nat, KSpec enc P W base spare held (kindB P n)
  | 0, t, T, fuel, cs, x, h, _ => by simp [kindB] at h
  | n + 1, t, T, fuel, cs, x, h, hd => by
    unfold kindB at h
    split at h
    · rename_i hu
      split at h
      · obtain ⟨b, rfl, _⟩ := DataW.trod_bool hu hd
        exact ⟨b, ⟨.val _, trivial⟩, trivial⟩
      · cases h
    · rename_i k hu
      split at h
      · obtain rfl := sameKind_eq h
        obtain ⟨m, rfl, _, hw⟩ := DataW.trod_int hu hd
        exact ⟨m, ⟨.val _, trivial⟩, show k.min ≤ m ∧ m ≤ k.max by simpa [Lit.wf] using hw⟩
      · cases h
    · rename_i hu
      split at h
      · obtain ⟨s, rfl, _, hs⟩ := DataW.trod_string hu hd
        exact ⟨s, ⟨.val _, trivial⟩, hs⟩
      · cases h
    · rename_i k hu
      split at h
      · obtain rfl := sameF_eq h
        obtain ⟨b, rfl, hw⟩ := trod_float hu hd
        exact ⟨b, ⟨.val _, trivial⟩, hw⟩
      · cases h
    · rename_i e hu
      split at h
      · rename_i U
        simp only [Bool.and_eq_true] at h
        obtain ⟨h1, h2⟩ := h
        have h2 := Nat.eq_of_beq_eq_true h2
        rcases DataW.trod_slice hu hd with ⟨rfl, _⟩ | ⟨a, len, cap, elems, rest, m, _, rfl, _, _, hl, hm, hel, hz, _⟩
        · exact ⟨[], ⟨.nil _ _, trivial⟩, by simp, fun x hx => by simp at hx⟩
        · obtain ⟨l, g1, g2, g3⟩ := sl_den (W := W) (base := base) (T := U) (a := a) hl hm (fun i hi => by
            have := hz i hi
            rw [List.getElem?_eq_getElem (show i < elems.length by omega), Option.bind_eq_some_iff, h2] at this
            obtain ⟨cs, hc, ht⟩ := this
            obtain ⟨y, h3, h4⟩ := trod_den n e U m cs _ h1 ht
            exact ⟨y, cs, hc, h3, h4⟩)
          exact ⟨l, ⟨g1, trivial⟩, g2, g3⟩
      · cases h
    · rename_i fs hu
      simp only [Bool.and_eq_true] at h
      obtain ⟨_, h1, h2⟩ := h
      obtain ⟨xs, m, _, _, hlen, hxl, hf⟩ := DataW.trod_struct hu hd
      obtain ⟨y, g1, g2⟩ := fields_den (fuel := m) (cs := cs) (trod_den n) fs.toList 0 T h1 (fun f hf' => by
        obtain ⟨i, hi⟩ := List.mem_iff_getElem?.1 hf'
        have hi' : fs[i]? = some f := by simpa using hi
        have := hf i f hi'
        have hil : i < xs.length := by rw [hxl]; exact (Array.getElem?_eq_some_iff.1 hi').1
        rw [List.getElem?_eq_getElem hil] at this
        exact ⟨_, this⟩)
      refine ⟨y, ?_, g2⟩
      rw [List.drop_zero, ← Nat.eq_of_beq_eq_true h2, List.take_of_length_le (by omega)] at g1
      exact g1
    · cases h
def ArgIs (I : Imm) (T : Ty) (x : T.den) (v : Value) : Prop := match T.isAgg with
  | true => ∃ us : List Value, v = .agg us.toArray ∧ All2 I (T.dd x) us
  | false => All2 I (T.dd x) [v]
theorem arg_in {n : Nat} {t : TypeId} {T : Ty} {r : Reach} {b0 : Nat} {v : Value} {d : DataW H} {ps : List MemPlace} (hk : kindB P n t T = true) (hval : Value.okWide P W r b0 t v) (h : DataW.Trod enc P W base spare held t v d ps) : ∃ x : T.den, ArgIs W.cell? T x v ∧ rng T x := by
  obtain ⟨fuel, hf⟩ := h
  obtain ⟨x, h1, h2⟩ := trod_den n t T fuel _ _ hk hf
  refine ⟨x, ?_, h2⟩
  cases n with
  | zero => simp [kindB] at hk
  | succ n =>
    unfold kindB at hk
    split at hk
    · rename_i hu
      split at hk
      · have : ∃ b, v = .bool b := by
          simp only [Value.okWide, hu, Cell.okWide] at hval
          cases v <;> simp_all [Cell.ok]
        obtain ⟨b, rfl⟩ := this
        exact h1
      · cases hk
    · rename_i k hu
      split at hk
      · obtain ⟨m, rfl⟩ := okWide_int hu hval
        exact h1
      · cases hk
    · rename_i hu
      split at hk
      · obtain ⟨s, rfl⟩ := okWide_string hu hval
        exact h1
      · cases hk
    · rename_i k hu
      split at hk
      · have : ∃ b, v = .float k b := by
          simp only [Value.okWide, hu, Cell.okWide] at hval
          cases v <;> simp_all [Cell.ok]
        obtain ⟨b, rfl⟩ := this
        exact h1
      · cases hk
    · rename_i e hu
      split at hk
      · obtain ⟨a, len, cap, rfl⟩ := okWide_slice hu hval
        exact h1
      · cases hk
    · rename_i fs hu
      simp only [Bool.and_eq_true] at hk
      simp only [Value.okWide, hu] at hval
      obtain ⟨cs, rfl, _⟩ := hval
      unfold ArgIs
      rw [hk.1]
      exact ⟨cs.toList, by simp, h1⟩
    · cases hk
end
theorem arg_den_in {I : Imm} {T : Ty} {x : T.den} {v : Value} (h : ArgIs I T x v) : Den (C00 I) (T.arg x) v := arg_den h
theorem fn_row {P : Program} {S : Face} (h : FnOk P S) (x : dens S.ps) {W : World} {vs : List Value} (hp : holds (S.pre x)) (hbk : bookM (rws S.ps x) (bxs 0 S.ps x) True = bookM [] [] True) (hn : nbx S.ps = 0) (hD : Dens (C00 W.cell?) (avs 0 (bns S.ps) S.ps x) vs)
    (hex : ∀ X ∈ S.ex, X.pan = false ∧ avs 0 (bns X.sh) X.sh (X.f x) = [.sym (.bool true)]) : Calls P S.f vs.toArray W (fun e W' => e = .returned (.bool true) ∧ Below W.heap.size W W') := by
  refine (h W.heap.size (C00 W.cell?) W vs x (by rw [hbk]; exact C00_mem (fun a v h => h) (Nat.le_refl _) trivial) (fun b v loc hl => by simp [C00] at hl) hD hp).mono fun e W' he => ?_
  obtain ⟨X, hX, _, C', us, hL, hus, hend⟩ := he
  obtain ⟨h1, h2⟩ := hex X hX
  rw [h2] at hus
  obtain ⟨u, vs', rfl, h3, h4⟩ := hus.cons_inv
  obtain rfl := h4.nil_inv
  obtain rfl : u = .bool true := by cases sym_inv h3; rfl
  rw [h1, hn] at hend
  exact ⟨hend, hL.below⟩
end Go.EV
