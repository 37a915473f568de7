/- Texts that the proof of a law rests on, put together: part 46. -/
import Derived.Test.YtdmljeaigjfenaaMt45
import Derived.Test.YtdmljeaigjfenaaProg
namespace Go.Proofs.Ytdmljeaigjfenaa.D
open Go Go.EV Go.TL Go.Proofs
set_option linter.unusedVariables false
set_option linter.unusedSimpArgs false
set_option maxRecDepth 100000
def okX (g : Gr) : Prop := okG g ∧ (∀ q ∈ g.2.2, ∀ s ∈ q.2, -999 ≤ s ∧ s ≤ 999) ∧ (∀ n ∈ g.1, n.size ≤ 100) ∧ ∀ n ∈ g.2.1, n.size ≤ 100
def okXB (g : Gr) : Bool := okB g && (g.2.2.all (fun q => q.2.all fun s => decide (-999 ≤ s) && decide (s ≤ 999)) && (g.1.all (fun n => Nat.ble n.size 100) && g.2.1.all (fun n => Nat.ble n.size 100)))
theorem okXB_spec {g : Gr} (h : okXB g = true) : okX g := by
  simp only [okXB, Bool.and_eq_true, List.all_eq_true, decide_eq_true_eq] at h
  exact ⟨okB_spec h.1, h.2.1, fun n hn => Nat.le_of_ble_eq_true (h.2.2.1 n hn), fun n hn => Nat.le_of_ble_eq_true (h.2.2.2 n hn)⟩
theorem grL_okX : grL.all okXB = true := by kernel_rfl
theorem grS_okX (k : Nat) : okX (grS k) := by
  unfold grS
  by_cases h : k < grL.length
  · exact okXB_spec (List.all_eq_true.1 grL_okX _ (getD_mem h))
  · rw [List.getD_eq_getElem?_getD, List.getElem?_eq_none (by omega)]
    exact okXB_spec (by kernel_rfl)
def okY (g : Gr) : Prop := 1 ≤ g.1.length ∧ g.1.length ≤ 99 ∧ g.2.1.length ≤ 99 ∧ (∀ q ∈ g.2.2, ∀ s ∈ q.2, -999 ≤ s ∧ s ≤ 999) ∧ (∀ n ∈ g.1, n.size ≤ 100) ∧ ∀ n ∈ g.2.1, n.size ≤ 100
theorem symS_in {t n r : Int} (h1 : 1 ≤ t) (h2 : t ≤ 99) (h3 : 0 ≤ n) (h4 : n ≤ 99) : -999 ≤ symS t n r ∧ symS t n r ≤ 999 := by
  have e1 := Int.emod_nonneg r (show t + n ≠ 0 by omega)
  have e2 := Int.emod_lt_of_pos r (show 0 < t + n by omega)
  unfold symS
  split <;> omega
theorem putS_okY {g : Gr} (h : okY g) (left : Int) (row : List Int) : okY (putS g left row) := by
  obtain ⟨h0, h1, h2, h3, h4, h5⟩ := h
  unfold putS
  split
  · exact ⟨h0, h1, h2, h3, h4, h5⟩
  · refine ⟨h0, h1, h2, fun q hq => ?_, h4, h5⟩
    rcases List.mem_append.1 hq with hq | hq
    · exact h3 q hq
    · rw [List.mem_singleton.1 hq]
      intro s hs
      obtain ⟨r, _, rfl⟩ := List.mem_map.1 hs
      exact symS_in (by omega) (by omega) (by omega) (by omega)
theorem puts1_okY : ∀ (k : Nat) (i : Int) {g : Gr}, okY g → okY (puts1 k i g)
  | 0, i, g, h => h
  | k + 1, i, g, h => puts1_okY k _ (putS_okY h _ _)
theorem puts2_okY (m : Int) : ∀ (l : List (List Int)) (i : Int) {g : Gr}, okY g → okY (puts2 m i g l)
  | [], i, g, h => h
  | r :: l, i, g, h => puts2_okY m l _ (putS_okY h _ _)
theorem anyS_okY (r : Raw) : okY (anyS r) := by
  have e1 := Int.emod_nonneg r.2.1 (show (3 : Int) ≠ 0 by omega)
  have e2 := Int.emod_lt_of_pos r.2.1 (show (0 : Int) < 3 by omega)
  have h0 : okY ([bA, bB, bC].take (1 + r.2.1 % 3).toNat, [bS, bUA, bUB].take (1 + r.2.2.1 % 3).toNat, []) := ⟨by simp only [List.length_take]; show 1 ≤ min _ 3; omega, by simp only [List.length_take]; exact Nat.le_trans (Nat.min_le_right _ _) (by decide), by simp only [List.length_take]; exact Nat.le_trans (Nat.min_le_right _ _) (by decide), fun q hq => by simp at hq,
    fun n hn => (show ∀ n ∈ [bA, bB, bC], n.size ≤ 100 by intro n hn; simp only [List.mem_cons, List.not_mem_nil, or_false] at hn; rcases hn with rfl | rfl | rfl <;> decide) n (List.mem_of_mem_take hn),
    fun n hn => (show ∀ n ∈ [bS, bUA, bUB], n.size ≤ 100 by intro n hn; simp only [List.mem_cons, List.not_mem_nil, or_false] at hn; rcases hn with rfl | rfl | rfl <;> decide) n (List.mem_of_mem_take hn)⟩
  exact puts2_okY _ _ _ (puts1_okY _ _ h0)
theorem gramS_okX (r : Raw) : okX (gramS r) := by
  unfold gramS
  split
  · exact grS_okX _
  · split
    · exact grS_okX _
    · exact ⟨anyS_ok r, (anyS_okY r).2.2.2⟩
mutual
def okK (k : Int) : Tree → Prop
  | .mk s p ks => (-k ≤ s ∧ s ≤ k ∧ -k ≤ p ∧ p ≤ k) ∧ okKs k ks
def okKs (k : Int) : List Tree → Prop
  | [] => True
  | t :: r => okK k t ∧ okKs k r
end
mutual
theorem okK_T {k : Int} (hk : k ≤ 1000000) : ∀ {t : Tree}, okK k t → okT t
  | .mk s p ks, h => by
    simp only [okK] at h
    exact ⟨⟨by omega, by omega⟩, ⟨by omega, by omega⟩, okKs_T hk h.2⟩
theorem okKs_T {k : Int} (hk : k ≤ 1000000) : ∀ {l : List Tree}, okKs k l → okTs l
  | [], _ => trivial
  | t :: r, h => ⟨okK_T hk h.1, okKs_T hk h.2⟩
end
mutual
theorem okK_le {k m : Int} (hk : k ≤ m) : ∀ {t : Tree}, okK k t → okK m t
  | .mk s p ks, h => by
    simp only [okK] at h ⊢
    exact ⟨by omega, okKs_le hk h.2⟩
theorem okKs_le {k m : Int} (hk : k ≤ m) : ∀ {l : List Tree}, okKs k l → okKs m l
  | [], _ => trivial
  | t :: r, h => ⟨okK_le hk h.1, okKs_le hk h.2⟩
end
theorem okKs_get {k : Int} {x : Tree} : ∀ {l : List Tree} {i : Nat}, okKs k l → i < l.length → okK k (l.getD i x)
  | [], i, _, h => by simp at h
  | t :: r, 0, h, _ => h.1
  | t :: r, i + 1, h, hi => by rw [List.getD_cons_succ]; exact okKs_get h.2 (by simpa using hi)
theorem okKs_set {k : Int} {y : Tree} (hy : okK k y) : ∀ {l : List Tree} {i : Nat}, okKs k l → okKs k (l.set i y)
  | [], i, h => h
  | t :: r, 0, h => ⟨hy, h.2⟩
  | t :: r, i + 1, h => ⟨h.1, okKs_set hy h.2⟩
theorem okKs_drop {k : Int} (n : Nat) : ∀ {l : List Tree}, okKs k l → okKs k (l.drop n) := by
  induction n with
  | zero => intro l h; simpa using h
  | succ n ih => intro l h; cases l with
    | nil => exact h
    | cons a r => rw [List.drop_succ_cons]; exact ih h.2
theorem okK_eq (k : Int) (t : Tree) : okK k t ↔ (-k ≤ t.sym ∧ t.sym ≤ k ∧ -k ≤ t.prod ∧ t.prod ≤ k) ∧ okKs k t.kids := by cases t; simp only [okK, Tree.sym, Tree.prod, Tree.kids]
theorem spoilS_ok {k : Int} (h0 : 99 ≤ k) (h9 : k ≤ 999999) : ∀ (n : Nat) (t : Tree) (how aa : Int), okK k t → okK (k + 1) (spoilS n t how aa) ∧ nodesT (spoilS n t how aa) ≤ nodesT t + 1
  | 0, t, how, aa, h => ⟨okK_le (by omega) h, Nat.le_succ _⟩
  | n + 1, t, how, aa, h => by
    obtain ⟨h1, h2⟩ := (okK_eq k t).1 h
    have h3 := okKs_le (show k ≤ k + 1 by omega) h2
    have hn := nodesT_eq t
    rw [spoilS]
    split
    · rename_i hc
      have e1 := Int.emod_nonneg (IntKind.i64.wrap (aa.tdiv 3)) (show (t.kids.length : Int) ≠ 0 by omega)
      have e2 := Int.emod_lt_of_pos (IntKind.i64.wrap (aa.tdiv 3)) (show (0 : Int) < (t.kids.length : Int) by omega)
      have hi : (IntKind.i64.wrap (aa.tdiv 3) % (t.kids.length : Int)).toNat < t.kids.length := by omega
      obtain ⟨g1, g2⟩ := spoilS_ok h0 h9 n (t.kids.getD (IntKind.i64.wrap (aa.tdiv 3) % (t.kids.length : Int)).toNat (.mk 0 0 [])) how (IntKind.i64.wrap (aa.tdiv 9)) (okKs_get h2 hi)
      refine ⟨(okK_eq _ _).2 ⟨?_, okKs_set g1 h3⟩, ?_⟩
      · show -(k + 1) ≤ t.sym ∧ t.sym ≤ k + 1 ∧ -(k + 1) ≤ t.prod ∧ t.prod ≤ k + 1
        exact ⟨by omega, by omega, by omega, by omega⟩
      · have := nodesL_set (l := t.kids) hi g2
        simp only [nodesT]; omega
    · have fin : ∀ (s p : Int) (ks : List Tree), (-(k + 1) ≤ s ∧ s ≤ k + 1 ∧ -(k + 1) ≤ p ∧ p ≤ k + 1) → okKs (k + 1) ks → nodesL ks ≤ nodesL t.kids + 1 → okK (k + 1) (.mk s p ks) ∧ nodesT (.mk s p ks) ≤ nodesT t + 1 := fun s p ks g1 g2 g3 => ⟨(okK_eq _ _).2 ⟨g1, g2⟩, by simp only [nodesT]; omega⟩
      have w1 : IntKind.i64.wrap (t.sym + 1) = t.sym + 1 := wrapI64 (by omega) (by omega)
      have w2 : IntKind.i64.wrap (t.prod + 1) = t.prod + 1 := wrapI64 (by omega) (by omega)
      have hd := nodesL_drop 1 t.kids
      rw [w1, w2]
      split
      · exact fin _ _ _ (by omega) h3 (by omega)
      · split
        · exact fin _ _ _ (by omega) h3 (by omega)
        · split
          · exact fin _ _ _ (by omega) h3 (by omega)
          · split
            · exact fin _ _ _ (by omega) ⟨(okK_eq _ _).2 ⟨by simp only [tleaf, Tree.sym, Tree.prod]; omega, trivial⟩, h3⟩ (by simp only [nodesL, tleaf, nodesT]; omega)
            · split
              · exact fin _ _ _ (by omega) (okKs_drop 1 h3) (by omega)
              · split
                · exact fin _ _ _ (by omega) h3 (by omega)
                · split
                  · exact fin _ _ _ (by omega) h3 (by omega)
                  · exact fin _ _ _ (by omega) h3 (by omega)
theorem kidsS_ok {f : Int → List Int → Tree × List Int} {n : Nat} {k : Int} (hf : ∀ s l, -999 ≤ s → s ≤ 999 → okK k (f s l).1 ∧ nodesT (f s l).1 ≤ n) : ∀ (q l : List Int), (∀ s ∈ q, -999 ≤ s ∧ s ≤ 999) → okKs k (kidsS f q l).1 ∧ nodesL (kidsS f q l).1 ≤ q.length * n
  | [], l, _ => by simp [kidsS, okKs, nodesL]
  | s :: q, l, hq => by
    obtain ⟨a, b⟩ := hq s List.mem_cons_self
    have h1 := hf s l a b
    have h2 := kidsS_ok hf q (f s l).2 (fun x hx => hq x (List.mem_cons_of_mem _ hx))
    simp only [kidsS, okKs, nodesL, List.length_cons, Nat.succ_mul]
    exact ⟨⟨h1.1, h2.1⟩, by omega⟩
theorem treeS_ok {g : Gr} (h : okX g) : ∀ (d : Nat) (sym : Int) (l : List Int), -999 ≤ sym → sym ≤ 999 → okK 999 (treeS d g sym l).1 ∧ nodesT (treeS d g sym l).1 ≤ 7 ^ d
  | 0, sym, l, a, b => by simp [treeS, okK, okKs, nodesT, nodesL]; omega
  | d + 1, sym, l, a, b => by
    have hpos : 0 < 7 ^ d := Nat.pow_pos (by omega)
    rw [treeS, Nat.pow_succ]
    split
    · simp only [okK, okKs, nodesT, nodesL]
      exact ⟨⟨by omega, trivial⟩, by omega⟩
    · rename_i hc
      have hP := prodsOf_get h.1 sym (l.getD 0 0)
      generalize (prodsOf sym 0 g.2.2).getD (l.getD 0 0 % ((prodsOf sym 0 g.2.2).length : Int)).toNat 0 = p at *
      have hp := h.1.2.2.1
      have hm : g.2.2.getD p.toNat (0, []) ∈ g.2.2 := getD_mem (by omega)
      obtain ⟨h1, h2⟩ := kidsS_ok (fun s l a b => treeS_ok h d s l a b) (g.2.2.getD p.toNat (0, [])).2 (l.drop 1) (h.2.1 _ hm)
      have h6 : (g.2.2.getD p.toNat (0, [])).2.length ≤ 6 := by omega
      have h7 := Nat.le_trans h2 (Nat.mul_le_mul_right (7 ^ d) h6)
      simp only [okK, nodesT]
      exact ⟨⟨by omega, h1⟩, by omega⟩
theorem ofS_ok {g : Gr} (h : okX g) (l : List Int) (deep : Int) : okK 999 (ofS g l deep) ∧ nodesT (ofS g l deep) ≤ 20000 := by
  rw [ofS]
  split
  · simp [okK, okKs, nodesT, nodesL]
  · rename_i hc
    have e1 := Int.emod_nonneg deep (show (6 : Int) ≠ 0 by omega)
    have e2 := Int.emod_lt_of_pos deep (show (0 : Int) < 6 by omega)
    have hl := h.1.2.1
    obtain ⟨h1, h2⟩ := treeS_ok h (deep % 6).toNat (if 0 < l.length then 100 + IntKind.i64.wrap ((l.getD 0 0).tdiv 7) % (g.2.1.length : Int) else 100) l (by
      have e1 := Int.emod_nonneg (IntKind.i64.wrap ((l.getD 0 0).tdiv 7)) (show (g.2.1.length : Int) ≠ 0 by omega)
      split <;> omega) (by
      have e2 := Int.emod_lt_of_pos (IntKind.i64.wrap ((l.getD 0 0).tdiv 7)) (show (0 : Int) < (g.2.1.length : Int) by omega)
      split <;> omega)
    exact ⟨h1, Nat.le_trans h2 (Nat.le_trans (Nat.pow_le_pow_right (by omega) (show (deep % 6).toNat ≤ 5 by omega)) (by decide))⟩
def ofH (g : Gr) (l : List Int) (deep how aa : Int) : Tree := if how.tmod 4 = 3 ∧ g.2.1.length ≠ 0 then spoilS (depthT (ofS g l deep)) (ofS g l deep) (IntKind.i64.wrap (how.tdiv 4)) aa else ofS g l deep
theorem ofH_ok {g : Gr} (h : okX g) (l : List Int) (deep how aa : Int) : okK 1000 (ofH g l deep how aa) ∧ nodesT (ofH g l deep how aa) ≤ 20001 := by
  obtain ⟨h1, h2⟩ := ofS_ok h l deep
  unfold ofH
  split
  · obtain ⟨h3, h4⟩ := spoilS_ok (by omega) (by omega) (depthT (ofS g l deep)) (ofS g l deep) (IntKind.i64.wrap (how.tdiv 4)) aa h1
    exact ⟨h3, by omega⟩
  · exact ⟨okK_le (by omega) h1, by omega⟩
theorem nameS_size {g : Gr} (h : okX g) (s : Int) : (nameS g s).size ≤ 100 := by
  unfold nameS
  split
  · decide
  · split
    · by_cases hl : (s - 1).toNat < g.1.length
      · exact h.2.2.1 _ (getD_mem hl)
      · rw [List.getD_eq_getElem?_getD, List.getElem?_eq_none (by omega)]; decide
    · split
      · by_cases hl : (s - 100).toNat < g.2.1.length
        · exact h.2.2.2 _ (getD_mem hl)
        · rw [List.getD_eq_getElem?_getD, List.getElem?_eq_none (by omega)]; decide
      · decide
mutual
theorem textS_size {g : Gr} (h : okX g) : ∀ t : Tree, (textS g t).size + 1 ≤ 110 * nodesT t
  | .mk s p ks => by
    have h1 := nameS_size h s
    have h2 := textsS_size h ks (bOpen ++ nameS g s)
    simp only [ByteArray.size_append, show bOpen.size = 1 from rfl] at h2
    simp only [textS, nodesT]
    split
    · omega
    · simp only [ByteArray.size_append, show bShut.size = 1 from rfl]; omega
theorem textsS_size {g : Gr} (h : okX g) : ∀ (l : List Tree) (a : ByteArray), (textsS g a l).size ≤ a.size + 110 * nodesL l
  | [], a => by simp [textsS, nodesL]
  | k :: r, a => by
    have h1 := textS_size h k
    have h2 := textsS_size h r (a ++ bBlank ++ textS g k)
    simp only [ByteArray.size_append, show bBlank.size = 1 from rfl] at h2
    have h3 := nodesT_pos k
    simp only [textsS, nodesL]
    omega
end
noncomputable def ofF  : Face := ⟨12, [.v GR, .v (.sl (.int .i64)), .v (.int .i64), .v (.int .i64), .v (.int .i64)], fun (g, l, deep, how, aa) => some (okX g),
  [⟨false, [.v .tree], fun (g, l, deep, how, aa) => ofH g l deep how aa, fun (g, l, deep, how, aa) => none⟩]⟩
noncomputable def ofF.g  (g : List ByteArray × List ByteArray × List (Int × List Int)) (l : List Int) (deep : Int) (how : Int) (aa : Int) : Prop := GoodFA Try.prog (cfOf [within, treeF, spoilF]) [] 1000 ofF (g, l, deep, how, aa)
noncomputable def ofF.T0 (g : List ByteArray × List ByteArray × List (Int × List Int)) (l : List Int) (deep : Int) (how : Int) (aa : Int) : Prop := ((True ∧ List.length g.snd.fst ≤ (9223372036854775807 : Nat)) ∧ ((↑(List.length g.snd.fst) : Int) == (0 : Int)) = true → True ∧ Tree.mk (1 : Int) (-1 : Int) [] = ofH g l deep how aa) ∧ (((((True ∧ List.length g.snd.fst ≤ (9223372036854775807 : Nat)) ∧ ((↑(List.length g.snd.fst) : Int) == (0 : Int)) = false) ∧ l.length ≤ (9223372036854775807 : Nat)) ∧ decide ((↑l.length : Int) > (0 : Int)) = true) ∧ ¬((0 : Int) ≤ (0 : Int) ∧ (0 : Int) < (↑l.length : Int)) →
  False) ∧ (((((((True ∧ List.length g.snd.fst ≤ (9223372036854775807 : Nat)) ∧ ((↑(List.length g.snd.fst) : Int) == (0 : Int)) = false) ∧ l.length ≤ (9223372036854775807 : Nat)) ∧ decide ((↑l.length : Int) > (0 : Int)) = true) ∧ (0 : Int) ≤ (0 : Int) ∧ (0 : Int) < (↑l.length : Int)) ∧ List.length g.snd.fst ≤ (9223372036854775807 : Nat)) ∧ ¬((0 : Int) < (↑(List.length g.snd.fst) : Int) ∧ (↑(List.length g.snd.fst) : Int) ≤ (9223372036854775807 : Int)) →
  False) ∧ ((((((((True ∧ List.length g.snd.fst ≤ (9223372036854775807 : Nat)) ∧ ((↑(List.length g.snd.fst) : Int) == (0 : Int)) = false) ∧ l.length ≤ (9223372036854775807 : Nat)) ∧ decide ((↑l.length : Int) > (0 : Int)) = true) ∧ (0 : Int) ≤ (0 : Int) ∧ (0 : Int) < (↑l.length : Int)) ∧ List.length g.snd.fst ≤ (9223372036854775807 : Nat)) ∧ (0 : Int) < (↑(List.length g.snd.fst) : Int) ∧ (↑(List.length g.snd.fst) : Int) ≤ (9223372036854775807 : Int)) ∧ ¬((0 : Int) < (6 : Int) ∧ (6 : Int) ≤ (9223372036854775807 : Int)) →
  False) ∧ (((((((((True ∧ List.length g.snd.fst ≤ (9223372036854775807 : Nat)) ∧ ((↑(List.length g.snd.fst) : Int) == (0 : Int)) = false) ∧ l.length ≤ (9223372036854775807 : Nat)) ∧ decide ((↑l.length : Int) > (0 : Int)) = true) ∧ (0 : Int) ≤ (0 : Int) ∧ (0 : Int) < (↑l.length : Int)) ∧ List.length g.snd.fst ≤ (9223372036854775807 : Nat)) ∧ (0 : Int) < (↑(List.length g.snd.fst) : Int) ∧ (↑(List.length g.snd.fst) : Int) ≤ (9223372036854775807 : Int)) ∧ (0 : Int) < (6 : Int) ∧ (6 : Int) ≤ (9223372036854775807 : Int)) ∧ ¬((0 : Int) ≤ deep % (6 : Int) ∧ deep % (6 : Int) ≤ (99 : Int) ∧ okG g) →
  False) ∧ (((((((((((True ∧ List.length g.snd.fst ≤ (9223372036854775807 : Nat)) ∧ ((↑(List.length g.snd.fst) : Int) == (0 : Int)) = false) ∧ l.length ≤ (9223372036854775807 : Nat)) ∧ decide ((↑l.length : Int) > (0 : Int)) = true) ∧ (0 : Int) ≤ (0 : Int) ∧ (0 : Int) < (↑l.length : Int)) ∧ List.length g.snd.fst ≤ (9223372036854775807 : Nat)) ∧ (0 : Int) < (↑(List.length g.snd.fst) : Int) ∧ (↑(List.length g.snd.fst) : Int) ≤ (9223372036854775807 : Int)) ∧ (0 : Int) < (6 : Int) ∧ (6 : Int) ≤ (9223372036854775807 : Int)) ∧ (0 : Int) ≤ deep % (6 : Int) ∧ deep % (6 : Int) ≤ (99 : Int) ∧ okG g) ∧ (how.tmod (4 : Int) == (3 : Int)) = true) ∧ ¬nodesT (eT (treeS (deep % (6 : Int)).toNat g (IntKind.i64.wrap ((100 : Int) + IntKind.i64.wrap ((l.getD (Int.toNat (0 : Int)) (0 : Int)).tdiv (7 : Int)) % (↑(List.length g.snd.fst) : Int))) l).fst) ≤ BIG →
  False) ∧ (((((((((((True ∧ List.length g.snd.fst ≤ (9223372036854775807 : Nat)) ∧ ((↑(List.length g.snd.fst) : Int) == (0 : Int)) = false) ∧ l.length ≤ (9223372036854775807 : Nat)) ∧ decide ((↑l.length : Int) > (0 : Int)) = true) ∧ (0 : Int) ≤ (0 : Int) ∧ (0 : Int) < (↑l.length : Int)) ∧ List.length g.snd.fst ≤ (9223372036854775807 : Nat)) ∧ (0 : Int) < (↑(List.length g.snd.fst) : Int) ∧ (↑(List.length g.snd.fst) : Int) ≤ (9223372036854775807 : Int)) ∧ (0 : Int) < (6 : Int) ∧ (6 : Int) ≤ (9223372036854775807 : Int)) ∧ (0 : Int) ≤ deep % (6 : Int) ∧ deep % (6 : Int) ≤ (99 : Int) ∧ okG g) ∧ (how.tmod (4 : Int) == (3 : Int)) = true) ∧ nodesT (eT (treeS (deep % (6 : Int)).toNat g (IntKind.i64.wrap ((100 : Int) + IntKind.i64.wrap ((l.getD (Int.toNat (0 : Int)) (0 : Int)).tdiv (7 : Int)) % (↑(List.length g.snd.fst) : Int))) l).fst) ≤ BIG →
  True ∧ eT (spoilS (depthT (eT (treeS (deep % (6 : Int)).toNat g (IntKind.i64.wrap ((100 : Int) + IntKind.i64.wrap ((l.getD (Int.toNat (0 : Int)) (0 : Int)).tdiv (7 : Int)) % (↑(List.length g.snd.fst) : Int))) l).fst)) (eT (treeS (deep % (6 : Int)).toNat g (IntKind.i64.wrap ((100 : Int) + IntKind.i64.wrap ((l.getD (Int.toNat (0 : Int)) (0 : Int)).tdiv (7 : Int)) % (↑(List.length g.snd.fst) : Int))) l).fst) (IntKind.i64.wrap (how.tdiv (4 : Int))) aa) = ofH g l deep how aa) ∧ ((((((((((True ∧ List.length g.snd.fst ≤ (9223372036854775807 : Nat)) ∧ ((↑(List.length g.snd.fst) : Int) == (0 : Int)) = false) ∧ l.length ≤ (9223372036854775807 : Nat)) ∧ decide ((↑l.length : Int) > (0 : Int)) = true) ∧ (0 : Int) ≤ (0 : Int) ∧ (0 : Int) < (↑l.length : Int)) ∧ List.length g.snd.fst ≤ (9223372036854775807 : Nat)) ∧ (0 : Int) < (↑(List.length g.snd.fst) : Int) ∧ (↑(List.length g.snd.fst) : Int) ≤ (9223372036854775807 : Int)) ∧ (0 : Int) < (6 : Int) ∧ (6 : Int) ≤ (9223372036854775807 : Int)) ∧ (0 : Int) ≤ deep % (6 : Int) ∧ deep % (6 : Int) ≤ (99 : Int) ∧ okG g) ∧ (how.tmod (4 : Int) == (3 : Int)) = false →
  True ∧ eT (treeS (deep % (6 : Int)).toNat g (IntKind.i64.wrap ((100 : Int) + IntKind.i64.wrap ((l.getD (Int.toNat (0 : Int)) (0 : Int)).tdiv (7 : Int)) % (↑(List.length g.snd.fst) : Int))) l).fst = ofH g l deep how aa) ∧ (((((((((True ∧ List.length g.snd.fst ≤ (9223372036854775807 : Nat)) ∧ ((↑(List.length g.snd.fst) : Int) == (0 : Int)) = false) ∧ l.length ≤ (9223372036854775807 : Nat)) ∧ decide ((↑l.length : Int) > (0 : Int)) = true) ∧ (0 : Int) ≤ (0 : Int) ∧ (0 : Int) < (↑l.length : Int)) ∧ List.length g.snd.fst ≤ (9223372036854775807 : Nat)) ∧ (0 : Int) < (↑(List.length g.snd.fst) : Int) ∧ (↑(List.length g.snd.fst) : Int) ≤ (9223372036854775807 : Int)) ∧ (0 : Int) < (6 : Int) ∧ (6 : Int) ≤ (9223372036854775807 : Int)) ∧ ¬((0 : Int) ≤ deep % (6 : Int) ∧ deep % (6 : Int) ≤ (99 : Int) ∧ okG g) →
  False) ∧ (((((((((((True ∧ List.length g.snd.fst ≤ (9223372036854775807 : Nat)) ∧ ((↑(List.length g.snd.fst) : Int) == (0 : Int)) = false) ∧ l.length ≤ (9223372036854775807 : Nat)) ∧ decide ((↑l.length : Int) > (0 : Int)) = true) ∧ (0 : Int) ≤ (0 : Int) ∧ (0 : Int) < (↑l.length : Int)) ∧ List.length g.snd.fst ≤ (9223372036854775807 : Nat)) ∧ (0 : Int) < (↑(List.length g.snd.fst) : Int) ∧ (↑(List.length g.snd.fst) : Int) ≤ (9223372036854775807 : Int)) ∧ (0 : Int) < (6 : Int) ∧ (6 : Int) ≤ (9223372036854775807 : Int)) ∧ (0 : Int) ≤ deep % (6 : Int) ∧ deep % (6 : Int) ≤ (99 : Int) ∧ okG g) ∧ (how.tmod (4 : Int) == (3 : Int)) = true) ∧ ¬nodesT (eT (treeS (deep % (6 : Int)).toNat g (IntKind.i64.wrap ((100 : Int) + IntKind.i64.wrap ((l.getD (Int.toNat (0 : Int)) (0 : Int)).tdiv (7 : Int)) % (↑(List.length g.snd.fst) : Int))) l).fst) ≤ BIG →
  False) ∧ (((((((((((True ∧ List.length g.snd.fst ≤ (9223372036854775807 : Nat)) ∧ ((↑(List.length g.snd.fst) : Int) == (0 : Int)) = false) ∧ l.length ≤ (9223372036854775807 : Nat)) ∧ decide ((↑l.length : Int) > (0 : Int)) = true) ∧ (0 : Int) ≤ (0 : Int) ∧ (0 : Int) < (↑l.length : Int)) ∧ List.length g.snd.fst ≤ (9223372036854775807 : Nat)) ∧ (0 : Int) < (↑(List.length g.snd.fst) : Int) ∧ (↑(List.length g.snd.fst) : Int) ≤ (9223372036854775807 : Int)) ∧ (0 : Int) < (6 : Int) ∧ (6 : Int) ≤ (9223372036854775807 : Int)) ∧ (0 : Int) ≤ deep % (6 : Int) ∧ deep % (6 : Int) ≤ (99 : Int) ∧ okG g) ∧ (how.tmod (4 : Int) == (3 : Int)) = true) ∧ nodesT (eT (treeS (deep % (6 : Int)).toNat g (IntKind.i64.wrap ((100 : Int) + IntKind.i64.wrap ((l.getD (Int.toNat (0 : Int)) (0 : Int)).tdiv (7 : Int)) % (↑(List.length g.snd.fst) : Int))) l).fst) ≤ BIG →
  True ∧ eT (spoilS (depthT (eT (treeS (deep % (6 : Int)).toNat g (IntKind.i64.wrap ((100 : Int) + IntKind.i64.wrap ((l.getD (Int.toNat (0 : Int)) (0 : Int)).tdiv (7 : Int)) % (↑(List.length g.snd.fst) : Int))) l).fst)) (eT (treeS (deep % (6 : Int)).toNat g (IntKind.i64.wrap ((100 : Int) + IntKind.i64.wrap ((l.getD (Int.toNat (0 : Int)) (0 : Int)).tdiv (7 : Int)) % (↑(List.length g.snd.fst) : Int))) l).fst) (IntKind.i64.wrap (how.tdiv (4 : Int))) aa) = ofH g l deep how aa) ∧ ((((((((((True ∧ List.length g.snd.fst ≤ (9223372036854775807 : Nat)) ∧ ((↑(List.length g.snd.fst) : Int) == (0 : Int)) = false) ∧ l.length ≤ (9223372036854775807 : Nat)) ∧ decide ((↑l.length : Int) > (0 : Int)) = true) ∧ (0 : Int) ≤ (0 : Int) ∧ (0 : Int) < (↑l.length : Int)) ∧ List.length g.snd.fst ≤ (9223372036854775807 : Nat)) ∧ (0 : Int) < (↑(List.length g.snd.fst) : Int) ∧ (↑(List.length g.snd.fst) : Int) ≤ (9223372036854775807 : Int)) ∧ (0 : Int) < (6 : Int) ∧ (6 : Int) ≤ (9223372036854775807 : Int)) ∧ (0 : Int) ≤ deep % (6 : Int) ∧ deep % (6 : Int) ≤ (99 : Int) ∧ okG g) ∧ (how.tmod (4 : Int) == (3 : Int)) = false →
  True ∧ eT (treeS (deep % (6 : Int)).toNat g (IntKind.i64.wrap ((100 : Int) + IntKind.i64.wrap ((l.getD (Int.toNat (0 : Int)) (0 : Int)).tdiv (7 : Int)) % (↑(List.length g.snd.fst) : Int))) l).fst = ofH g l deep how aa) ∧ ((((((((True ∧ List.length g.snd.fst ≤ (9223372036854775807 : Nat)) ∧ ((↑(List.length g.snd.fst) : Int) == (0 : Int)) = false) ∧ l.length ≤ (9223372036854775807 : Nat)) ∧ decide ((↑l.length : Int) > (0 : Int)) = true) ∧ (0 : Int) ≤ (0 : Int) ∧ (0 : Int) < (↑l.length : Int)) ∧ List.length g.snd.fst ≤ (9223372036854775807 : Nat)) ∧ (0 : Int) < (↑(List.length g.snd.fst) : Int) ∧ (↑(List.length g.snd.fst) : Int) ≤ (9223372036854775807 : Int)) ∧ ¬((0 : Int) < (6 : Int) ∧ (6 : Int) ≤ (9223372036854775807 : Int)) →
  False) ∧ (((((((((True ∧ List.length g.snd.fst ≤ (9223372036854775807 : Nat)) ∧ ((↑(List.length g.snd.fst) : Int) == (0 : Int)) = false) ∧ l.length ≤ (9223372036854775807 : Nat)) ∧ decide ((↑l.length : Int) > (0 : Int)) = true) ∧ (0 : Int) ≤ (0 : Int) ∧ (0 : Int) < (↑l.length : Int)) ∧ List.length g.snd.fst ≤ (9223372036854775807 : Nat)) ∧ (0 : Int) < (↑(List.length g.snd.fst) : Int) ∧ (↑(List.length g.snd.fst) : Int) ≤ (9223372036854775807 : Int)) ∧ (0 : Int) < (6 : Int) ∧ (6 : Int) ≤ (9223372036854775807 : Int)) ∧ ¬((0 : Int) ≤ deep % (6 : Int) ∧ deep % (6 : Int) ≤ (99 : Int) ∧ okG g) →
  False) ∧ (((((((((((True ∧ List.length g.snd.fst ≤ (9223372036854775807 : Nat)) ∧ ((↑(List.length g.snd.fst) : Int) == (0 : Int)) = false) ∧ l.length ≤ (9223372036854775807 : Nat)) ∧ decide ((↑l.length : Int) > (0 : Int)) = true) ∧ (0 : Int) ≤ (0 : Int) ∧ (0 : Int) < (↑l.length : Int)) ∧ List.length g.snd.fst ≤ (9223372036854775807 : Nat)) ∧ (0 : Int) < (↑(List.length g.snd.fst) : Int) ∧ (↑(List.length g.snd.fst) : Int) ≤ (9223372036854775807 : Int)) ∧ (0 : Int) < (6 : Int) ∧ (6 : Int) ≤ (9223372036854775807 : Int)) ∧ (0 : Int) ≤ deep % (6 : Int) ∧ deep % (6 : Int) ≤ (99 : Int) ∧ okG g) ∧ (how.tmod (4 : Int) == (3 : Int)) = true) ∧ ¬nodesT (eT (treeS (deep % (6 : Int)).toNat g (IntKind.i64.wrap ((100 : Int) + IntKind.i64.wrap ((l.getD (Int.toNat (0 : Int)) (0 : Int)).tdiv (7 : Int)) % (↑(List.length g.snd.fst) : Int))) l).fst) ≤ BIG →
  False) ∧ (((((((((((True ∧ List.length g.snd.fst ≤ (9223372036854775807 : Nat)) ∧ ((↑(List.length g.snd.fst) : Int) == (0 : Int)) = false) ∧ l.length ≤ (9223372036854775807 : Nat)) ∧ decide ((↑l.length : Int) > (0 : Int)) = true) ∧ (0 : Int) ≤ (0 : Int) ∧ (0 : Int) < (↑l.length : Int)) ∧ List.length g.snd.fst ≤ (9223372036854775807 : Nat)) ∧ (0 : Int) < (↑(List.length g.snd.fst) : Int) ∧ (↑(List.length g.snd.fst) : Int) ≤ (9223372036854775807 : Int)) ∧ (0 : Int) < (6 : Int) ∧ (6 : Int) ≤ (9223372036854775807 : Int)) ∧ (0 : Int) ≤ deep % (6 : Int) ∧ deep % (6 : Int) ≤ (99 : Int) ∧ okG g) ∧ (how.tmod (4 : Int) == (3 : Int)) = true) ∧ nodesT (eT (treeS (deep % (6 : Int)).toNat g (IntKind.i64.wrap ((100 : Int) + IntKind.i64.wrap ((l.getD (Int.toNat (0 : Int)) (0 : Int)).tdiv (7 : Int)) % (↑(List.length g.snd.fst) : Int))) l).fst) ≤ BIG →
  True ∧ eT (spoilS (depthT (eT (treeS (deep % (6 : Int)).toNat g (IntKind.i64.wrap ((100 : Int) + IntKind.i64.wrap ((l.getD (Int.toNat (0 : Int)) (0 : Int)).tdiv (7 : Int)) % (↑(List.length g.snd.fst) : Int))) l).fst)) (eT (treeS (deep % (6 : Int)).toNat g (IntKind.i64.wrap ((100 : Int) + IntKind.i64.wrap ((l.getD (Int.toNat (0 : Int)) (0 : Int)).tdiv (7 : Int)) % (↑(List.length g.snd.fst) : Int))) l).fst) (IntKind.i64.wrap (how.tdiv (4 : Int))) aa) = ofH g l deep how aa) ∧ ((((((((((True ∧ List.length g.snd.fst ≤ (9223372036854775807 : Nat)) ∧ ((↑(List.length g.snd.fst) : Int) == (0 : Int)) = false) ∧ l.length ≤ (9223372036854775807 : Nat)) ∧ decide ((↑l.length : Int) > (0 : Int)) = true) ∧ (0 : Int) ≤ (0 : Int) ∧ (0 : Int) < (↑l.length : Int)) ∧ List.length g.snd.fst ≤ (9223372036854775807 : Nat)) ∧ (0 : Int) < (↑(List.length g.snd.fst) : Int) ∧ (↑(List.length g.snd.fst) : Int) ≤ (9223372036854775807 : Int)) ∧ (0 : Int) < (6 : Int) ∧ (6 : Int) ≤ (9223372036854775807 : Int)) ∧ (0 : Int) ≤ deep % (6 : Int) ∧ deep % (6 : Int) ≤ (99 : Int) ∧ okG g) ∧ (how.tmod (4 : Int) == (3 : Int)) = false →
  True ∧ eT (treeS (deep % (6 : Int)).toNat g (IntKind.i64.wrap ((100 : Int) + IntKind.i64.wrap ((l.getD (Int.toNat (0 : Int)) (0 : Int)).tdiv (7 : Int)) % (↑(List.length g.snd.fst) : Int))) l).fst = ofH g l deep how aa) ∧ (((((True ∧ List.length g.snd.fst ≤ (9223372036854775807 : Nat)) ∧ ((↑(List.length g.snd.fst) : Int) == (0 : Int)) = false) ∧ l.length ≤ (9223372036854775807 : Nat)) ∧ decide ((↑l.length : Int) > (0 : Int)) = false) ∧ ¬((0 : Int) < (6 : Int) ∧ (6 : Int) ≤ (9223372036854775807 : Int)) →
  False) ∧ ((((((True ∧ List.length g.snd.fst ≤ (9223372036854775807 : Nat)) ∧ ((↑(List.length g.snd.fst) : Int) == (0 : Int)) = false) ∧ l.length ≤ (9223372036854775807 : Nat)) ∧ decide ((↑l.length : Int) > (0 : Int)) = false) ∧ (0 : Int) < (6 : Int) ∧ (6 : Int) ≤ (9223372036854775807 : Int)) ∧ ¬((0 : Int) ≤ deep % (6 : Int) ∧ deep % (6 : Int) ≤ (99 : Int) ∧ okG g) →
  False) ∧ ((((((((True ∧ List.length g.snd.fst ≤ (9223372036854775807 : Nat)) ∧ ((↑(List.length g.snd.fst) : Int) == (0 : Int)) = false) ∧ l.length ≤ (9223372036854775807 : Nat)) ∧ decide ((↑l.length : Int) > (0 : Int)) = false) ∧ (0 : Int) < (6 : Int) ∧ (6 : Int) ≤ (9223372036854775807 : Int)) ∧ (0 : Int) ≤ deep % (6 : Int) ∧ deep % (6 : Int) ≤ (99 : Int) ∧ okG g) ∧ (how.tmod (4 : Int) == (3 : Int)) = true) ∧ ¬nodesT (eT (treeS (deep % (6 : Int)).toNat g (100 : Int) l).fst) ≤ BIG →
  False) ∧ ((((((((True ∧ List.length g.snd.fst ≤ (9223372036854775807 : Nat)) ∧ ((↑(List.length g.snd.fst) : Int) == (0 : Int)) = false) ∧ l.length ≤ (9223372036854775807 : Nat)) ∧ decide ((↑l.length : Int) > (0 : Int)) = false) ∧ (0 : Int) < (6 : Int) ∧ (6 : Int) ≤ (9223372036854775807 : Int)) ∧ (0 : Int) ≤ deep % (6 : Int) ∧ deep % (6 : Int) ≤ (99 : Int) ∧ okG g) ∧ (how.tmod (4 : Int) == (3 : Int)) = true) ∧ nodesT (eT (treeS (deep % (6 : Int)).toNat g (100 : Int) l).fst) ≤ BIG →
  True ∧ eT (spoilS (depthT (eT (treeS (deep % (6 : Int)).toNat g (100 : Int) l).fst)) (eT (treeS (deep % (6 : Int)).toNat g (100 : Int) l).fst) (IntKind.i64.wrap (how.tdiv (4 : Int))) aa) = ofH g l deep how aa) ∧ (((((((True ∧ List.length g.snd.fst ≤ (9223372036854775807 : Nat)) ∧ ((↑(List.length g.snd.fst) : Int) == (0 : Int)) = false) ∧ l.length ≤ (9223372036854775807 : Nat)) ∧ decide ((↑l.length : Int) > (0 : Int)) = false) ∧ (0 : Int) < (6 : Int) ∧ (6 : Int) ≤ (9223372036854775807 : Int)) ∧ (0 : Int) ≤ deep % (6 : Int) ∧ deep % (6 : Int) ≤ (99 : Int) ∧ okG g) ∧ (how.tmod (4 : Int) == (3 : Int)) = false →
  True ∧ eT (treeS (deep % (6 : Int)).toNat g (100 : Int) l).fst = ofH g l deep how aa) ∧ ((((((True ∧ List.length g.snd.fst ≤ (9223372036854775807 : Nat)) ∧ ((↑(List.length g.snd.fst) : Int) == (0 : Int)) = false) ∧ l.length ≤ (9223372036854775807 : Nat)) ∧ decide ((↑l.length : Int) > (0 : Int)) = false) ∧ (0 : Int) < (6 : Int) ∧ (6 : Int) ≤ (9223372036854775807 : Int)) ∧ ¬((0 : Int) ≤ deep % (6 : Int) ∧ deep % (6 : Int) ≤ (99 : Int) ∧ okG g) →
  False) ∧ ((((((((True ∧ List.length g.snd.fst ≤ (9223372036854775807 : Nat)) ∧ ((↑(List.length g.snd.fst) : Int) == (0 : Int)) = false) ∧ l.length ≤ (9223372036854775807 : Nat)) ∧ decide ((↑l.length : Int) > (0 : Int)) = false) ∧ (0 : Int) < (6 : Int) ∧ (6 : Int) ≤ (9223372036854775807 : Int)) ∧ (0 : Int) ≤ deep % (6 : Int) ∧ deep % (6 : Int) ≤ (99 : Int) ∧ okG g) ∧ (how.tmod (4 : Int) == (3 : Int)) = true) ∧ ¬nodesT (eT (treeS (deep % (6 : Int)).toNat g (100 : Int) l).fst) ≤ BIG →
  False) ∧ ((((((((True ∧ List.length g.snd.fst ≤ (9223372036854775807 : Nat)) ∧ ((↑(List.length g.snd.fst) : Int) == (0 : Int)) = false) ∧ l.length ≤ (9223372036854775807 : Nat)) ∧ decide ((↑l.length : Int) > (0 : Int)) = false) ∧ (0 : Int) < (6 : Int) ∧ (6 : Int) ≤ (9223372036854775807 : Int)) ∧ (0 : Int) ≤ deep % (6 : Int) ∧ deep % (6 : Int) ≤ (99 : Int) ∧ okG g) ∧ (how.tmod (4 : Int) == (3 : Int)) = true) ∧ nodesT (eT (treeS (deep % (6 : Int)).toNat g (100 : Int) l).fst) ≤ BIG →
  True ∧ eT (spoilS (depthT (eT (treeS (deep % (6 : Int)).toNat g (100 : Int) l).fst)) (eT (treeS (deep % (6 : Int)).toNat g (100 : Int) l).fst) (IntKind.i64.wrap (how.tdiv (4 : Int))) aa) = ofH g l deep how aa) ∧ (((((((True ∧ List.length g.snd.fst ≤ (9223372036854775807 : Nat)) ∧ ((↑(List.length g.snd.fst) : Int) == (0 : Int)) = false) ∧ l.length ≤ (9223372036854775807 : Nat)) ∧ decide ((↑l.length : Int) > (0 : Int)) = false) ∧ (0 : Int) < (6 : Int) ∧ (6 : Int) ≤ (9223372036854775807 : Int)) ∧ (0 : Int) ≤ deep % (6 : Int) ∧ deep % (6 : Int) ≤ (99 : Int) ∧ okG g) ∧ (how.tmod (4 : Int) == (3 : Int)) = false →
  True ∧ eT (treeS (deep % (6 : Int)).toNat g (100 : Int) l).fst = ofH g l deep how aa) ∧ (((((True ∧ List.length g.snd.fst ≤ (9223372036854775807 : Nat)) ∧ ((↑(List.length g.snd.fst) : Int) == (0 : Int)) = false) ∧ l.length ≤ (9223372036854775807 : Nat)) ∧ decide ((↑l.length : Int) > (0 : Int)) = false) ∧ ¬((0 : Int) < (6 : Int) ∧ (6 : Int) ≤ (9223372036854775807 : Int)) →
  False) ∧ ((((((True ∧ List.length g.snd.fst ≤ (9223372036854775807 : Nat)) ∧ ((↑(List.length g.snd.fst) : Int) == (0 : Int)) = false) ∧ l.length ≤ (9223372036854775807 : Nat)) ∧ decide ((↑l.length : Int) > (0 : Int)) = false) ∧ (0 : Int) < (6 : Int) ∧ (6 : Int) ≤ (9223372036854775807 : Int)) ∧ ¬((0 : Int) ≤ deep % (6 : Int) ∧ deep % (6 : Int) ≤ (99 : Int) ∧ okG g) →
  False) ∧ ((((((((True ∧ List.length g.snd.fst ≤ (9223372036854775807 : Nat)) ∧ ((↑(List.length g.snd.fst) : Int) == (0 : Int)) = false) ∧ l.length ≤ (9223372036854775807 : Nat)) ∧ decide ((↑l.length : Int) > (0 : Int)) = false) ∧ (0 : Int) < (6 : Int) ∧ (6 : Int) ≤ (9223372036854775807 : Int)) ∧ (0 : Int) ≤ deep % (6 : Int) ∧ deep % (6 : Int) ≤ (99 : Int) ∧ okG g) ∧ (how.tmod (4 : Int) == (3 : Int)) = true) ∧ ¬nodesT (eT (treeS (deep % (6 : Int)).toNat g (100 : Int) l).fst) ≤ BIG →
  False) ∧ ((((((((True ∧ List.length g.snd.fst ≤ (9223372036854775807 : Nat)) ∧ ((↑(List.length g.snd.fst) : Int) == (0 : Int)) = false) ∧ l.length ≤ (9223372036854775807 : Nat)) ∧ decide ((↑l.length : Int) > (0 : Int)) = false) ∧ (0 : Int) < (6 : Int) ∧ (6 : Int) ≤ (9223372036854775807 : Int)) ∧ (0 : Int) ≤ deep % (6 : Int) ∧ deep % (6 : Int) ≤ (99 : Int) ∧ okG g) ∧ (how.tmod (4 : Int) == (3 : Int)) = true) ∧ nodesT (eT (treeS (deep % (6 : Int)).toNat g (100 : Int) l).fst) ≤ BIG →
  True ∧ eT (spoilS (depthT (eT (treeS (deep % (6 : Int)).toNat g (100 : Int) l).fst)) (eT (treeS (deep % (6 : Int)).toNat g (100 : Int) l).fst) (IntKind.i64.wrap (how.tdiv (4 : Int))) aa) = ofH g l deep how aa) ∧ (((((((True ∧ List.length g.snd.fst ≤ (9223372036854775807 : Nat)) ∧ ((↑(List.length g.snd.fst) : Int) == (0 : Int)) = false) ∧ l.length ≤ (9223372036854775807 : Nat)) ∧ decide ((↑l.length : Int) > (0 : Int)) = false) ∧ (0 : Int) < (6 : Int) ∧ (6 : Int) ≤ (9223372036854775807 : Int)) ∧ (0 : Int) ≤ deep % (6 : Int) ∧ deep % (6 : Int) ≤ (99 : Int) ∧ okG g) ∧ (how.tmod (4 : Int) == (3 : Int)) = false →
  True ∧ eT (treeS (deep % (6 : Int)).toNat g (100 : Int) l).fst = ofH g l deep how aa) ∧ (True)
theorem ofF.eq  (g : List ByteArray × List ByteArray × List (Int × List Int)) (l : List Int) (deep : Int) (how : Int) (aa : Int) : ofF.g  g l deep how aa = ofF.T0  g l deep how aa := by kernel_rfl
theorem ofF.ok  (g : List ByteArray × List ByteArray × List (Int × List Int)) (l : List Int) (deep : Int) (how : Int) (aa : Int) (hx : okX g) : ofF.T0  g l deep how aa := by
  unfold ofF.T0
  repeat rw [eT_eq]
  have h := hx.1
  have e1 := Int.emod_nonneg deep (show (6 : Int) ≠ 0 by omega)
  have e2 := Int.emod_lt_of_pos deep (show (0 : Int) < 6 by omega)
  have e3 : g.2.1.length = 0 ∨ (0 ≤ IntKind.i64.wrap ((l.getD 0 0).tdiv 7) % (g.2.1.length : Int) ∧ IntKind.i64.wrap ((l.getD 0 0).tdiv 7) % (g.2.1.length : Int) < g.2.1.length) := by
    by_cases h0 : g.2.1.length = 0
    · exact .inl h0
    · exact .inr ⟨Int.emod_nonneg _ (by omega), Int.emod_lt_of_pos _ (by omega)⟩
  have e4 := h.2.1
  have hO := (ofS_ok hx l deep).2
  have hB : BIG = 1000000 := rfl
  rw [ofH]
  rw [ofS] at hO ⊢
  simp only [show Int.toNat 0 = 0 from rfl]
  generalize IntKind.i64.wrap ((l.getD 0 0).tdiv 7) % (g.2.1.length : Int) = q at *
  generalize how.tmod 4 = m at *
  ((repeat' (first | exact trivial | apply And.intro)) <;> (intro hw; (try (simp only [true_and, and_true, decide_eq_true_eq, decide_eq_false_iff_not, beq_iff_eq, bne_iff_ne, beq_eq_false_iff_ne, bne_eq_false_iff_eq, ne_eq, Bool.not_eq_true, Bool.not_eq_false, not_true_eq_false, not_false_eq_true, Bool.not_eq_eq_eq_not, Bool.not_true, Bool.not_false, forall_const, imp_self, Bool.true_eq_false, Bool.false_eq_true, reduceCtorEq] at hw)); (try first | (exfalso; omega) | exact ⟨trivial, rfl⟩ | exact (hw hx).elim | exact (hw.2 hx).elim)))
  all_goals (try rw [wrapI64 (x := 100 + q) (by omega) (by omega)] at hw)
  all_goals (try rw [wrapI64 (x := 100 + q) (by omega) (by omega)])
  all_goals first
    | (exact hw.2 ⟨by omega, by omega, h⟩)
    | (exfalso; (repeat (first | rw [if_pos (by omega)] at hO | rw [if_neg (by omega)] at hO)); omega)
    | (refine ⟨trivial, ?_⟩; (repeat (first | rfl | rw [if_pos (by omega)] | rw [if_neg (by omega)])); done)
theorem ofF.fn   : FnOk Try.prog ofF := fn_eval (l := []) (lf := 1000) (fun _ => cfOf_ok (fns_cons within.fn (fns_cons treeF.fn (fns_cons spoilF.fn (fns_nil _))))) _ (lps_nil _ _) (by kernel_rfl) (fun ⟨g, l, deep, how, aa⟩ hx => (ofF.eq  g l deep how aa).mpr (ofF.ok  g l deep how aa hx))
mutual
theorem sameT_refl : ∀ t : Tree, sameT t t = true
  | .mk s p ks => by rw [sameT, decide_eq_true rfl, decide_eq_true rfl, sameTL_refl ks]; rfl
theorem sameTL_refl : ∀ l : List Tree, sameTL l l = true
  | [] => rfl
  | k :: r => by rw [sameTL, sameT_refl k, sameTL_refl r]; rfl
end
theorem sameS_refl (l : List Int) : sameS l l = true := sameS_iff.2 rfl
noncomputable def treeTells.L0  : LFace := ⟨[14, 15, 16, 17, 37, 38, 39], [.un, .p GR, .p .tree, .p .tree, .v (.sl (.int .i64)), .v (.int .i64), .v (.int .i64)], fun (z, g, t, u, l, len, i) => some (len = l.length ∧ 0 ≤ i ∧ i ≤ len ∧ l.length ≤ 99 ∧ gSmall g ∧ okT t),
  [⟨.normal, [14, 15, 16, 17], [.un, .p GR, .p .tree, .p .tree], fun (z, g, t, u, l, len, i) => (z, g, t, u), fun (z, g, t, u, l, len, i) => none⟩]⟩
noncomputable def treeTells.L0.mu  : dens treeTells.L0.sh → Nat := fun (z, g, t, u, l, len, i) => (len - i).toNat
noncomputable def treeTells.L0.g  (z : Unit) (g : List ByteArray × List ByteArray × List (Int × List Int)) (t : Tree) (u : Tree) (l : List Int) (len : Int) (i : Int) : Prop := GoodLA Try.prog (cfOf [checkF, rcheckF]) [] 1000 6 0 treeTells.L0 treeTells.L0.mu (z, g, t, u, l, len, i)
noncomputable def treeTells.L0.T0 (z : Unit) (g : List ByteArray × List ByteArray × List (Int × List Int)) (t : Tree) (u : Tree) (l : List Int) (len : Int) (i : Int) : Prop := (((True ∧ decide (i < len) = true) ∧ (0 : Int) ≤ i ∧ i < (↑l.length : Int)) ∧ ¬(gSmall g ∧ okT (eT t)) → False) ∧ ((((True ∧ decide (i < len) = true) ∧ (0 : Int) ≤ i ∧ i < (↑l.length : Int)) ∧ gSmall g ∧ okT (eT t)) ∧ ¬gSmall g → False) ∧ (((((True ∧ decide (i < len) = true) ∧ (0 : Int) ≤ i ∧ i < (↑l.length : Int)) ∧ gSmall g ∧ okT (eT t)) ∧ gSmall g) ∧ (checkS g (eT t) (l.getD i.toNat (0 : Int)) != checkS g (eT t) (l.getD i.toNat (0 : Int))) = true → False) ∧ (((((True ∧ decide (i < len) = true) ∧ (0 : Int) ≤ i ∧ i < (↑l.length : Int)) ∧ gSmall g ∧ okT (eT t)) ∧ gSmall g) ∧ (checkS g (eT t) (l.getD i.toNat (0 : Int)) != checkS g (eT t) (l.getD i.toNat (0 : Int))) = false →
  (len = (↑l.length : Int) ∧ (0 : Int) ≤ IntKind.i64.wrap (i + (1 : Int)) ∧ IntKind.i64.wrap (i + (1 : Int)) ≤ len ∧ l.length ≤ (99 : Nat) ∧ gSmall g ∧ okT t) ∧ treeTells.L0.mu ((), g, t, u, l, len, IntKind.i64.wrap (i + (1 : Int))) < treeTells.L0.mu (z, g, t, u, l, len, i) ∧ (True → True ∧ ((), g, t, u) = ((), g, t, u)) ∧ True) ∧ ((True ∧ decide (i < len) = true) ∧ ¬((0 : Int) ≤ i ∧ i < (↑l.length : Int)) → False) ∧ (True ∧ decide (i < len) = false → True ∧ ((), g, t, u) = ((), g, t, u)) ∧ (True)
theorem treeTells.L0.eq  (z : Unit) (g : List ByteArray × List ByteArray × List (Int × List Int)) (t : Tree) (u : Tree) (l : List Int) (len : Int) (i : Int) : treeTells.L0.g  z g t u l len i = treeTells.L0.T0  z g t u l len i := by kernel_rfl
theorem treeTells.L0.ok  (z : Unit) (g : List ByteArray × List ByteArray × List (Int × List Int)) (t : Tree) (u : Tree) (l : List Int) (len : Int) (i : Int) (hx : len = l.length ∧ 0 ≤ i ∧ i ≤ len ∧ l.length ≤ 99 ∧ gSmall g ∧ okT t) : treeTells.L0.T0  z g t u l len i := by
  unfold treeTells.L0.T0
  repeat rw [eT_eq]
  obtain ⟨rfl, h0, h1, h2, hg, ht⟩ := hx
  rw [wrapI64 (x := i + 1) (by omega) (by omega)]
  ((repeat' (first | exact trivial | apply And.intro)) <;> (intro hw; (try (simp only [true_and, and_true, decide_eq_true_eq, decide_eq_false_iff_not, beq_iff_eq, bne_iff_ne, beq_eq_false_iff_ne, bne_eq_false_iff_eq, ne_eq, Bool.not_eq_true, Bool.not_eq_false, not_true_eq_false, not_false_eq_true, Bool.not_eq_eq_eq_not, Bool.not_true, Bool.not_false, forall_const, imp_self, Bool.true_eq_false, Bool.false_eq_true, reduceCtorEq] at hw)); (try first | (exfalso; omega) | exact ⟨trivial, rfl⟩ | exact (hw hx).elim | exact (hw.2 hx).elim)))
  all_goals first
    | exact hw.2 ⟨hg, ht⟩
    | exact hw.2 hg
    | exact hw.2.elim
    | skip
  exact ⟨⟨rfl, by omega, by omega, h2, hg, ht⟩, by simp only [treeTells.L0.mu]; omega, fun _ => ⟨trivial, rfl⟩, trivial⟩
theorem treeTells.L0.lp   : LpAt Try.prog 6 0 treeTells.L0 := lp_eval (l := []) (lf := 1000) (fun _ => cfOf_ok (fns_cons checkF.fn (fns_cons rcheckF.fn (fns_nil _)))) (lps_nil _ _) (by kernel_rfl) _ (treeTells.L0.mu ) (fun ⟨z, g, t, u, l, len, i⟩ hx => (treeTells.L0.eq  z g t u l len i).mpr (treeTells.L0.ok  z g t u l len i hx))
noncomputable def treeTells.R3  : LFace := ⟨[1, 2, 3, 4, 5, 6, 14, 15], [.v (.sl (.int .i64)), .v (.sl (.int .i64)), .v (.int .i64), .v (.int .i64), .v (.int .i64), .v (.int .i64), .un, .p GR], fun (l, m, deep, how, aa, other, z, g) => some (okX g),
  [⟨.normal, [14, 15, 16, 17], [.un, .p GR, .p .tree, .p .tree], fun (l, m, deep, how, aa, other, z, g) => (z, g, ofH g l deep how aa, ofH g m deep other aa), fun (l, m, deep, how, aa, other, z, g) => none⟩]⟩
noncomputable def treeTells.R3.g  (l : List Int) (m : List Int) (deep : Int) (how : Int) (aa : Int) (other : Int) (z : Unit) (g : List ByteArray × List ByteArray × List (Int × List Int)) : Prop := GoodPA Try.prog (cfOf [ofF]) [] 1000 6 1000003 treeTells.R3 (l, m, deep, how, aa, other, z, g)
noncomputable def treeTells.R3.T0 (l : List Int) (m : List Int) (deep : Int) (how : Int) (aa : Int) (other : Int) (z : Unit) (g : List ByteArray × List ByteArray × List (Int × List Int)) : Prop := (True ∧ ¬okX g → False) ∧ ((True ∧ okX g) ∧ ¬okX g → False) ∧ ((True ∧ okX g) ∧ okX g → True ∧ ((), g, eT (ofH g l deep how aa), eT (ofH g m deep other aa)) = ((), g, ofH g l deep how aa, ofH g m deep other aa)) ∧ ((True ∧ okX g) ∧ okX g → True ∧ ((), g, eT (ofH g l deep how aa), eT (ofH g m deep other aa)) = ((), g, ofH g l deep how aa, ofH g m deep other aa)) ∧ ((True ∧ okX g) ∧ ¬okX g → False) ∧ ((True ∧ okX g) ∧ okX g → True ∧ ((), g, eT (ofH g l deep how aa), eT (ofH g m deep other aa)) = ((), g, ofH g l deep how aa, ofH g m deep other aa)) ∧ ((True ∧ okX g) ∧ ¬okX g → False) ∧ ((True ∧ okX g) ∧ okX g → True ∧ ((), g, eT (ofH g l deep how aa), eT (ofH g m deep other aa)) = ((), g, ofH g l deep how aa, ofH g m deep other aa)) ∧ ((True ∧ okX g) ∧ ¬okX g → False) ∧ ((True ∧ okX g) ∧ okX g → True ∧ ((), g, eT (ofH g l deep how aa), eT (ofH g m deep other aa)) = ((), g, ofH g l deep how aa, ofH g m deep other aa)) ∧ ((True ∧ okX g) ∧ ¬okX g → False) ∧ ((True ∧ okX g) ∧ okX g → True ∧ ((), g, eT (ofH g l deep how aa), eT (ofH g m deep other aa)) = ((), g, ofH g l deep how aa, ofH g m deep other aa)) ∧ (True ∧ ¬okX g → False) ∧ ((True ∧ okX g) ∧ ¬okX g → False) ∧ ((True ∧ okX g) ∧ okX g → True ∧ ((), g, eT (ofH g l deep how aa), eT (ofH g m deep other aa)) = ((), g, ofH g l deep how aa, ofH g m deep other aa)) ∧ ((True ∧ okX g) ∧ ¬okX g → False) ∧ ((True ∧ okX g) ∧ okX g → True ∧ ((), g, eT (ofH g l deep how aa), eT (ofH g m deep other aa)) = ((), g, ofH g l deep how aa, ofH g m deep other aa)) ∧ (True ∧ ¬okX g → False) ∧ ((True ∧ okX g) ∧ ¬okX g → False) ∧ ((True ∧ okX g) ∧ okX g → True ∧ ((), g, eT (ofH g l deep how aa), eT (ofH g m deep other aa)) = ((), g, ofH g l deep how aa, ofH g m deep other aa)) ∧ (True ∧ ¬okX g → False) ∧ ((True ∧ okX g) ∧ ¬okX g → False) ∧ ((True ∧ okX g) ∧ okX g → True ∧ ((), g, eT (ofH g l deep how aa), eT (ofH g m deep other aa)) = ((), g, ofH g l deep how aa, ofH g m deep other aa)) ∧ ((True ∧ okX g) ∧ ¬okX g → False) ∧ ((True ∧ okX g) ∧ okX g → True ∧ ((), g, eT (ofH g l deep how aa), eT (ofH g m deep other aa)) = ((), g, ofH g l deep how aa, ofH g m deep other aa)) ∧ (True ∧ ¬okX g → False) ∧ ((True ∧ okX g) ∧ ¬okX g → False) ∧ ((True ∧ okX g) ∧ okX g → True ∧ ((), g, eT (ofH g l deep how aa), eT (ofH g m deep other aa)) = ((), g, ofH g l deep how aa, ofH g m deep other aa)) ∧ (True)
theorem treeTells.R3.eq  (l : List Int) (m : List Int) (deep : Int) (how : Int) (aa : Int) (other : Int) (z : Unit) (g : List ByteArray × List ByteArray × List (Int × List Int)) : treeTells.R3.g  l m deep how aa other z g = treeTells.R3.T0  l m deep how aa other z g := by kernel_rfl
theorem treeTells.R3.ok  (l : List Int) (m : List Int) (deep : Int) (how : Int) (aa : Int) (other : Int) (z : Unit) (g : List ByteArray × List ByteArray × List (Int × List Int)) (hx : okX g) : treeTells.R3.T0  l m deep how aa other z g := by
  unfold treeTells.R3.T0
  repeat rw [eT_eq]
  ((repeat' (first | exact trivial | apply And.intro)) <;> (intro hw; (try (simp only [true_and, and_true, decide_eq_true_eq, decide_eq_false_iff_not, beq_iff_eq, bne_iff_ne, beq_eq_false_iff_ne, bne_eq_false_iff_eq, ne_eq, Bool.not_eq_true, Bool.not_eq_false, not_true_eq_false, not_false_eq_true, Bool.not_eq_eq_eq_not, Bool.not_true, Bool.not_false, forall_const, imp_self, Bool.true_eq_false, Bool.false_eq_true, reduceCtorEq] at hw)); (try first | (exfalso; omega) | exact ⟨trivial, rfl⟩ | exact (hw hx).elim | exact (hw.2 hx).elim)))
theorem treeTells.R3.lp   : LpAt Try.prog 6 1000003 treeTells.R3 := pc_eval (l := []) (lf := 1000) (fun _ => cfOf_ok (fns_cons ofF.fn (fns_nil _))) (lps_nil _ _) (by kernel_rfl) _ (fun ⟨l, m, deep, how, aa, other, z, g⟩ hx => (treeTells.R3.eq  l m deep how aa other z g).mpr (treeTells.R3.ok  l m deep how aa other z g hx))
noncomputable def treeTells  : Face := ⟨6, [.v RAW, .v (.sl (.int .i64)), .v (.sl (.int .i64)), .v (.int .i64), .v (.int .i64), .v (.int .i64), .v (.int .i64)], fun (r, l, m, deep, how, aa, other) => none,
  [⟨false, [.v .bool], fun (r, l, m, deep, how, aa, other) => true, fun (r, l, m, deep, how, aa, other) => none⟩]⟩
noncomputable def treeTells.g  (r : Int × Int × Int × Int × List (List Int) × ByteArray) (l : List Int) (m : List Int) (deep : Int) (how : Int) (aa : Int) (other : Int) : Prop := GoodFA Try.prog (cfOf [grammar0, ofF, leavesF, rleavesF, sameInt, sizeF, rsizeF, sameF, rsameF, tprint, rprint, wakes]) [(1000003, treeTells.R3), (0, treeTells.L0)] 1000 treeTells (r, l, m, deep, how, aa, other)
noncomputable def treeTells.T0 (r : Int × Int × Int × Int × List (List Int) × ByteArray) (l : List Int) (m : List Int) (deep : Int) (how : Int) (aa : Int) (other : Int) : Prop := (True ∧ ¬(0 : Int) = (0 : Int) → False) ∧ ((True ∧ (0 : Int) = (0 : Int)) ∧ ¬okX (gramS (r.fst, r.snd.fst, r.snd.snd.fst, (0 : Int), r.snd.snd.snd.snd)) → False) ∧ (((True ∧ (0 : Int) = (0 : Int)) ∧ okX (gramS (r.fst, r.snd.fst, r.snd.snd.fst, (0 : Int), r.snd.snd.snd.snd))) ∧ ¬(Int.ofNat (3 : Nat) = (↑(3 : Nat) : Int) ∧ (0 : Int) ≤ (0 : Int) ∧ (0 : Int) ≤ Int.ofNat (3 : Nat) ∧ (3 : Nat) ≤ (99 : Nat) ∧ gSmall (gramS (r.fst, r.snd.fst, r.snd.snd.fst, (0 : Int), r.snd.snd.snd.snd)) ∧ okT (ofH (gramS (r.fst, r.snd.fst, r.snd.snd.fst, (0 : Int), r.snd.snd.snd.snd)) l deep how aa)) →
  False) ∧ ((((True ∧ (0 : Int) = (0 : Int)) ∧ okX (gramS (r.fst, r.snd.fst, r.snd.snd.fst, (0 : Int), r.snd.snd.snd.snd))) ∧ Int.ofNat (3 : Nat) = (↑(3 : Nat) : Int) ∧ (0 : Int) ≤ (0 : Int) ∧ (0 : Int) ≤ Int.ofNat (3 : Nat) ∧ (3 : Nat) ≤ (99 : Nat) ∧ gSmall (gramS (r.fst, r.snd.fst, r.snd.snd.fst, (0 : Int), r.snd.snd.snd.snd)) ∧ okT (ofH (gramS (r.fst, r.snd.fst, r.snd.snd.fst, (0 : Int), r.snd.snd.snd.snd)) l deep how aa)) ∧ ¬(leavesS (eT (ofH (gramS (r.fst, r.snd.fst, r.snd.snd.fst, (0 : Int), r.snd.snd.snd.snd)) l deep how aa))).length ≤ BIG →
  False) ∧ (((((True ∧ (0 : Int) = (0 : Int)) ∧ okX (gramS (r.fst, r.snd.fst, r.snd.snd.fst, (0 : Int), r.snd.snd.snd.snd))) ∧ Int.ofNat (3 : Nat) = (↑(3 : Nat) : Int) ∧ (0 : Int) ≤ (0 : Int) ∧ (0 : Int) ≤ Int.ofNat (3 : Nat) ∧ (3 : Nat) ≤ (99 : Nat) ∧ gSmall (gramS (r.fst, r.snd.fst, r.snd.snd.fst, (0 : Int), r.snd.snd.snd.snd)) ∧ okT (ofH (gramS (r.fst, r.snd.fst, r.snd.snd.fst, (0 : Int), r.snd.snd.snd.snd)) l deep how aa)) ∧ (leavesS (eT (ofH (gramS (r.fst, r.snd.fst, r.snd.snd.fst, (0 : Int), r.snd.snd.snd.snd)) l deep how aa))).length ≤ BIG) ∧ ¬(leavesS (eT (ofH (gramS (r.fst, r.snd.fst, r.snd.snd.fst, (0 : Int), r.snd.snd.snd.snd)) l deep how aa))).length ≤ BIG →
  False) ∧ ((((((((((True ∧ (0 : Int) = (0 : Int)) ∧ okX (gramS (r.fst, r.snd.fst, r.snd.snd.fst, (0 : Int), r.snd.snd.snd.snd))) ∧ Int.ofNat (3 : Nat) = (↑(3 : Nat) : Int) ∧ (0 : Int) ≤ (0 : Int) ∧ (0 : Int) ≤ Int.ofNat (3 : Nat) ∧ (3 : Nat) ≤ (99 : Nat) ∧ gSmall (gramS (r.fst, r.snd.fst, r.snd.snd.fst, (0 : Int), r.snd.snd.snd.snd)) ∧ okT (ofH (gramS (r.fst, r.snd.fst, r.snd.snd.fst, (0 : Int), r.snd.snd.snd.snd)) l deep how aa)) ∧ (leavesS (eT (ofH (gramS (r.fst, r.snd.fst, r.snd.snd.fst, (0 : Int), r.snd.snd.snd.snd)) l deep how aa))).length ≤ BIG) ∧ (leavesS (eT (ofH (gramS (r.fst, r.snd.fst, r.snd.snd.fst, (0 : Int), r.snd.snd.snd.snd)) l deep how aa))).length ≤ BIG) ∧ sameS (leavesS (eT (ofH (gramS (r.fst, r.snd.fst, r.snd.snd.fst, (0 : Int), r.snd.snd.snd.snd)) l deep how aa))) (leavesS (eT (ofH (gramS (r.fst, r.snd.fst, r.snd.snd.fst, (0 : Int), r.snd.snd.snd.snd)) l deep how aa))) = true) ∧ (sizeS (eT (ofH (gramS (r.fst, r.snd.fst, r.snd.snd.fst, (0 : Int), r.snd.snd.snd.snd)) l deep how aa)) == sizeS (eT (ofH (gramS (r.fst, r.snd.fst, r.snd.snd.fst, (0 : Int), r.snd.snd.snd.snd)) l deep how aa))) = true) ∧ (sameT (eT (ofH (gramS (r.fst, r.snd.fst, r.snd.snd.fst, (0 : Int), r.snd.snd.snd.snd)) l deep how aa)) (eT (ofH (gramS (r.fst, r.snd.fst, r.snd.snd.fst, (0 : Int), r.snd.snd.snd.snd)) m deep other aa)) == sameT (eT (ofH (gramS (r.fst, r.snd.fst, r.snd.snd.fst, (0 : Int), r.snd.snd.snd.snd)) l deep how aa)) (eT (ofH (gramS (r.fst, r.snd.fst, r.snd.snd.fst, (0 : Int), r.snd.snd.snd.snd)) m deep other aa))) = true) ∧ sameT (eT (ofH (gramS (r.fst, r.snd.fst, r.snd.snd.fst, (0 : Int), r.snd.snd.snd.snd)) m deep other aa)) (eT (ofH (gramS (r.fst, r.snd.fst, r.snd.snd.fst, (0 : Int), r.snd.snd.snd.snd)) m deep other aa)) = true) ∧ ¬(gSmall (gramS (r.fst, r.snd.fst, r.snd.snd.fst, (0 : Int), r.snd.snd.snd.snd)) ∧ okT (eT (ofH (gramS (r.fst, r.snd.fst, r.snd.snd.fst, (0 : Int), r.snd.snd.snd.snd)) l deep how aa)) ∧ (textS (gramS (r.fst, r.snd.fst, r.snd.snd.fst, (0 : Int), r.snd.snd.snd.snd)) (eT (ofH (gramS (r.fst, r.snd.fst, r.snd.snd.fst, (0 : Int), r.snd.snd.snd.snd)) l deep how aa))).size ≤ BIGS) →
  False) ∧ (((((((((((True ∧ (0 : Int) = (0 : Int)) ∧ okX (gramS (r.fst, r.snd.fst, r.snd.snd.fst, (0 : Int), r.snd.snd.snd.snd))) ∧ Int.ofNat (3 : Nat) = (↑(3 : Nat) : Int) ∧ (0 : Int) ≤ (0 : Int) ∧ (0 : Int) ≤ Int.ofNat (3 : Nat) ∧ (3 : Nat) ≤ (99 : Nat) ∧ gSmall (gramS (r.fst, r.snd.fst, r.snd.snd.fst, (0 : Int), r.snd.snd.snd.snd)) ∧ okT (ofH (gramS (r.fst, r.snd.fst, r.snd.snd.fst, (0 : Int), r.snd.snd.snd.snd)) l deep how aa)) ∧ (leavesS (eT (ofH (gramS (r.fst, r.snd.fst, r.snd.snd.fst, (0 : Int), r.snd.snd.snd.snd)) l deep how aa))).length ≤ BIG) ∧ (leavesS (eT (ofH (gramS (r.fst, r.snd.fst, r.snd.snd.fst, (0 : Int), r.snd.snd.snd.snd)) l deep how aa))).length ≤ BIG) ∧ sameS (leavesS (eT (ofH (gramS (r.fst, r.snd.fst, r.snd.snd.fst, (0 : Int), r.snd.snd.snd.snd)) l deep how aa))) (leavesS (eT (ofH (gramS (r.fst, r.snd.fst, r.snd.snd.fst, (0 : Int), r.snd.snd.snd.snd)) l deep how aa))) = true) ∧ (sizeS (eT (ofH (gramS (r.fst, r.snd.fst, r.snd.snd.fst, (0 : Int), r.snd.snd.snd.snd)) l deep how aa)) == sizeS (eT (ofH (gramS (r.fst, r.snd.fst, r.snd.snd.fst, (0 : Int), r.snd.snd.snd.snd)) l deep how aa))) = true) ∧ (sameT (eT (ofH (gramS (r.fst, r.snd.fst, r.snd.snd.fst, (0 : Int), r.snd.snd.snd.snd)) l deep how aa)) (eT (ofH (gramS (r.fst, r.snd.fst, r.snd.snd.fst, (0 : Int), r.snd.snd.snd.snd)) m deep other aa)) == sameT (eT (ofH (gramS (r.fst, r.snd.fst, r.snd.snd.fst, (0 : Int), r.snd.snd.snd.snd)) l deep how aa)) (eT (ofH (gramS (r.fst, r.snd.fst, r.snd.snd.fst, (0 : Int), r.snd.snd.snd.snd)) m deep other aa))) = true) ∧ sameT (eT (ofH (gramS (r.fst, r.snd.fst, r.snd.snd.fst, (0 : Int), r.snd.snd.snd.snd)) m deep other aa)) (eT (ofH (gramS (r.fst, r.snd.fst, r.snd.snd.fst, (0 : Int), r.snd.snd.snd.snd)) m deep other aa)) = true) ∧ gSmall (gramS (r.fst, r.snd.fst, r.snd.snd.fst, (0 : Int), r.snd.snd.snd.snd)) ∧ okT (eT (ofH (gramS (r.fst, r.snd.fst, r.snd.snd.fst, (0 : Int), r.snd.snd.snd.snd)) l deep how aa)) ∧ (textS (gramS (r.fst, r.snd.fst, r.snd.snd.fst, (0 : Int), r.snd.snd.snd.snd)) (eT (ofH (gramS (r.fst, r.snd.fst, r.snd.snd.fst, (0 : Int), r.snd.snd.snd.snd)) l deep how aa))).size ≤ BIGS) ∧ ¬(gSmall (gramS (r.fst, r.snd.fst, r.snd.snd.fst, (0 : Int), r.snd.snd.snd.snd)) ∧ (textS (gramS (r.fst, r.snd.fst, r.snd.snd.fst, (0 : Int), r.snd.snd.snd.snd)) (eT (ofH (gramS (r.fst, r.snd.fst, r.snd.snd.fst, (0 : Int), r.snd.snd.snd.snd)) l deep how aa))).size ≤ BIGS) →
  False) ∧ ((((((((((((True ∧ (0 : Int) = (0 : Int)) ∧ okX (gramS (r.fst, r.snd.fst, r.snd.snd.fst, (0 : Int), r.snd.snd.snd.snd))) ∧ Int.ofNat (3 : Nat) = (↑(3 : Nat) : Int) ∧ (0 : Int) ≤ (0 : Int) ∧ (0 : Int) ≤ Int.ofNat (3 : Nat) ∧ (3 : Nat) ≤ (99 : Nat) ∧ gSmall (gramS (r.fst, r.snd.fst, r.snd.snd.fst, (0 : Int), r.snd.snd.snd.snd)) ∧ okT (ofH (gramS (r.fst, r.snd.fst, r.snd.snd.fst, (0 : Int), r.snd.snd.snd.snd)) l deep how aa)) ∧ (leavesS (eT (ofH (gramS (r.fst, r.snd.fst, r.snd.snd.fst, (0 : Int), r.snd.snd.snd.snd)) l deep how aa))).length ≤ BIG) ∧ (leavesS (eT (ofH (gramS (r.fst, r.snd.fst, r.snd.snd.fst, (0 : Int), r.snd.snd.snd.snd)) l deep how aa))).length ≤ BIG) ∧ sameS (leavesS (eT (ofH (gramS (r.fst, r.snd.fst, r.snd.snd.fst, (0 : Int), r.snd.snd.snd.snd)) l deep how aa))) (leavesS (eT (ofH (gramS (r.fst, r.snd.fst, r.snd.snd.fst, (0 : Int), r.snd.snd.snd.snd)) l deep how aa))) = true) ∧ (sizeS (eT (ofH (gramS (r.fst, r.snd.fst, r.snd.snd.fst, (0 : Int), r.snd.snd.snd.snd)) l deep how aa)) == sizeS (eT (ofH (gramS (r.fst, r.snd.fst, r.snd.snd.fst, (0 : Int), r.snd.snd.snd.snd)) l deep how aa))) = true) ∧ (sameT (eT (ofH (gramS (r.fst, r.snd.fst, r.snd.snd.fst, (0 : Int), r.snd.snd.snd.snd)) l deep how aa)) (eT (ofH (gramS (r.fst, r.snd.fst, r.snd.snd.fst, (0 : Int), r.snd.snd.snd.snd)) m deep other aa)) == sameT (eT (ofH (gramS (r.fst, r.snd.fst, r.snd.snd.fst, (0 : Int), r.snd.snd.snd.snd)) l deep how aa)) (eT (ofH (gramS (r.fst, r.snd.fst, r.snd.snd.fst, (0 : Int), r.snd.snd.snd.snd)) m deep other aa))) = true) ∧ sameT (eT (ofH (gramS (r.fst, r.snd.fst, r.snd.snd.fst, (0 : Int), r.snd.snd.snd.snd)) m deep other aa)) (eT (ofH (gramS (r.fst, r.snd.fst, r.snd.snd.fst, (0 : Int), r.snd.snd.snd.snd)) m deep other aa)) = true) ∧ gSmall (gramS (r.fst, r.snd.fst, r.snd.snd.fst, (0 : Int), r.snd.snd.snd.snd)) ∧ okT (eT (ofH (gramS (r.fst, r.snd.fst, r.snd.snd.fst, (0 : Int), r.snd.snd.snd.snd)) l deep how aa)) ∧ (textS (gramS (r.fst, r.snd.fst, r.snd.snd.fst, (0 : Int), r.snd.snd.snd.snd)) (eT (ofH (gramS (r.fst, r.snd.fst, r.snd.snd.fst, (0 : Int), r.snd.snd.snd.snd)) l deep how aa))).size ≤ BIGS) ∧ gSmall (gramS (r.fst, r.snd.fst, r.snd.snd.fst, (0 : Int), r.snd.snd.snd.snd)) ∧ (textS (gramS (r.fst, r.snd.fst, r.snd.snd.fst, (0 : Int), r.snd.snd.snd.snd)) (eT (ofH (gramS (r.fst, r.snd.fst, r.snd.snd.fst, (0 : Int), r.snd.snd.snd.snd)) l deep how aa))).size ≤ BIGS) ∧ ((printS (gramS (r.fst, r.snd.fst, r.snd.snd.fst, (0 : Int), r.snd.snd.snd.snd)) (eT (ofH (gramS (r.fst, r.snd.fst, r.snd.snd.fst, (0 : Int), r.snd.snd.snd.snd)) l deep how aa))).toList == (printS (gramS (r.fst, r.snd.fst, r.snd.snd.fst, (0 : Int), r.snd.snd.snd.snd)) (eT (ofH (gramS (r.fst, r.snd.fst, r.snd.snd.fst, (0 : Int), r.snd.snd.snd.snd)) l deep how aa))).toList) = true →
  True ∧ true = true) ∧ ((((((((((((True ∧ (0 : Int) = (0 : Int)) ∧ okX (gramS (r.fst, r.snd.fst, r.snd.snd.fst, (0 : Int), r.snd.snd.snd.snd))) ∧ Int.ofNat (3 : Nat) = (↑(3 : Nat) : Int) ∧ (0 : Int) ≤ (0 : Int) ∧ (0 : Int) ≤ Int.ofNat (3 : Nat) ∧ (3 : Nat) ≤ (99 : Nat) ∧ gSmall (gramS (r.fst, r.snd.fst, r.snd.snd.fst, (0 : Int), r.snd.snd.snd.snd)) ∧ okT (ofH (gramS (r.fst, r.snd.fst, r.snd.snd.fst, (0 : Int), r.snd.snd.snd.snd)) l deep how aa)) ∧ (leavesS (eT (ofH (gramS (r.fst, r.snd.fst, r.snd.snd.fst, (0 : Int), r.snd.snd.snd.snd)) l deep how aa))).length ≤ BIG) ∧ (leavesS (eT (ofH (gramS (r.fst, r.snd.fst, r.snd.snd.fst, (0 : Int), r.snd.snd.snd.snd)) l deep how aa))).length ≤ BIG) ∧ sameS (leavesS (eT (ofH (gramS (r.fst, r.snd.fst, r.snd.snd.fst, (0 : Int), r.snd.snd.snd.snd)) l deep how aa))) (leavesS (eT (ofH (gramS (r.fst, r.snd.fst, r.snd.snd.fst, (0 : Int), r.snd.snd.snd.snd)) l deep how aa))) = true) ∧ (sizeS (eT (ofH (gramS (r.fst, r.snd.fst, r.snd.snd.fst, (0 : Int), r.snd.snd.snd.snd)) l deep how aa)) == sizeS (eT (ofH (gramS (r.fst, r.snd.fst, r.snd.snd.fst, (0 : Int), r.snd.snd.snd.snd)) l deep how aa))) = true) ∧ (sameT (eT (ofH (gramS (r.fst, r.snd.fst, r.snd.snd.fst, (0 : Int), r.snd.snd.snd.snd)) l deep how aa)) (eT (ofH (gramS (r.fst, r.snd.fst, r.snd.snd.fst, (0 : Int), r.snd.snd.snd.snd)) m deep other aa)) == sameT (eT (ofH (gramS (r.fst, r.snd.fst, r.snd.snd.fst, (0 : Int), r.snd.snd.snd.snd)) l deep how aa)) (eT (ofH (gramS (r.fst, r.snd.fst, r.snd.snd.fst, (0 : Int), r.snd.snd.snd.snd)) m deep other aa))) = true) ∧ sameT (eT (ofH (gramS (r.fst, r.snd.fst, r.snd.snd.fst, (0 : Int), r.snd.snd.snd.snd)) m deep other aa)) (eT (ofH (gramS (r.fst, r.snd.fst, r.snd.snd.fst, (0 : Int), r.snd.snd.snd.snd)) m deep other aa)) = true) ∧ gSmall (gramS (r.fst, r.snd.fst, r.snd.snd.fst, (0 : Int), r.snd.snd.snd.snd)) ∧ okT (eT (ofH (gramS (r.fst, r.snd.fst, r.snd.snd.fst, (0 : Int), r.snd.snd.snd.snd)) l deep how aa)) ∧ (textS (gramS (r.fst, r.snd.fst, r.snd.snd.fst, (0 : Int), r.snd.snd.snd.snd)) (eT (ofH (gramS (r.fst, r.snd.fst, r.snd.snd.fst, (0 : Int), r.snd.snd.snd.snd)) l deep how aa))).size ≤ BIGS) ∧ gSmall (gramS (r.fst, r.snd.fst, r.snd.snd.fst, (0 : Int), r.snd.snd.snd.snd)) ∧ (textS (gramS (r.fst, r.snd.fst, r.snd.snd.fst, (0 : Int), r.snd.snd.snd.snd)) (eT (ofH (gramS (r.fst, r.snd.fst, r.snd.snd.fst, (0 : Int), r.snd.snd.snd.snd)) l deep how aa))).size ≤ BIGS) ∧ ((printS (gramS (r.fst, r.snd.fst, r.snd.snd.fst, (0 : Int), r.snd.snd.snd.snd)) (eT (ofH (gramS (r.fst, r.snd.fst, r.snd.snd.fst, (0 : Int), r.snd.snd.snd.snd)) l deep how aa))).toList == (printS (gramS (r.fst, r.snd.fst, r.snd.snd.fst, (0 : Int), r.snd.snd.snd.snd)) (eT (ofH (gramS (r.fst, r.snd.fst, r.snd.snd.fst, (0 : Int), r.snd.snd.snd.snd)) l deep how aa))).toList) = false →
  True ∧ false = true) ∧ (((((((((True ∧ (0 : Int) = (0 : Int)) ∧ okX (gramS (r.fst, r.snd.fst, r.snd.snd.fst, (0 : Int), r.snd.snd.snd.snd))) ∧ Int.ofNat (3 : Nat) = (↑(3 : Nat) : Int) ∧ (0 : Int) ≤ (0 : Int) ∧ (0 : Int) ≤ Int.ofNat (3 : Nat) ∧ (3 : Nat) ≤ (99 : Nat) ∧ gSmall (gramS (r.fst, r.snd.fst, r.snd.snd.fst, (0 : Int), r.snd.snd.snd.snd)) ∧ okT (ofH (gramS (r.fst, r.snd.fst, r.snd.snd.fst, (0 : Int), r.snd.snd.snd.snd)) l deep how aa)) ∧ (leavesS (eT (ofH (gramS (r.fst, r.snd.fst, r.snd.snd.fst, (0 : Int), r.snd.snd.snd.snd)) l deep how aa))).length ≤ BIG) ∧ (leavesS (eT (ofH (gramS (r.fst, r.snd.fst, r.snd.snd.fst, (0 : Int), r.snd.snd.snd.snd)) l deep how aa))).length ≤ BIG) ∧ sameS (leavesS (eT (ofH (gramS (r.fst, r.snd.fst, r.snd.snd.fst, (0 : Int), r.snd.snd.snd.snd)) l deep how aa))) (leavesS (eT (ofH (gramS (r.fst, r.snd.fst, r.snd.snd.fst, (0 : Int), r.snd.snd.snd.snd)) l deep how aa))) = true) ∧ (sizeS (eT (ofH (gramS (r.fst, r.snd.fst, r.snd.snd.fst, (0 : Int), r.snd.snd.snd.snd)) l deep how aa)) == sizeS (eT (ofH (gramS (r.fst, r.snd.fst, r.snd.snd.fst, (0 : Int), r.snd.snd.snd.snd)) l deep how aa))) = true) ∧ (sameT (eT (ofH (gramS (r.fst, r.snd.fst, r.snd.snd.fst, (0 : Int), r.snd.snd.snd.snd)) l deep how aa)) (eT (ofH (gramS (r.fst, r.snd.fst, r.snd.snd.fst, (0 : Int), r.snd.snd.snd.snd)) m deep other aa)) == sameT (eT (ofH (gramS (r.fst, r.snd.fst, r.snd.snd.fst, (0 : Int), r.snd.snd.snd.snd)) l deep how aa)) (eT (ofH (gramS (r.fst, r.snd.fst, r.snd.snd.fst, (0 : Int), r.snd.snd.snd.snd)) m deep other aa))) = true) ∧ sameT (eT (ofH (gramS (r.fst, r.snd.fst, r.snd.snd.fst, (0 : Int), r.snd.snd.snd.snd)) m deep other aa)) (eT (ofH (gramS (r.fst, r.snd.fst, r.snd.snd.fst, (0 : Int), r.snd.snd.snd.snd)) m deep other aa)) = false →
  True ∧ false = true) ∧ ((((((((True ∧ (0 : Int) = (0 : Int)) ∧ okX (gramS (r.fst, r.snd.fst, r.snd.snd.fst, (0 : Int), r.snd.snd.snd.snd))) ∧ Int.ofNat (3 : Nat) = (↑(3 : Nat) : Int) ∧ (0 : Int) ≤ (0 : Int) ∧ (0 : Int) ≤ Int.ofNat (3 : Nat) ∧ (3 : Nat) ≤ (99 : Nat) ∧ gSmall (gramS (r.fst, r.snd.fst, r.snd.snd.fst, (0 : Int), r.snd.snd.snd.snd)) ∧ okT (ofH (gramS (r.fst, r.snd.fst, r.snd.snd.fst, (0 : Int), r.snd.snd.snd.snd)) l deep how aa)) ∧ (leavesS (eT (ofH (gramS (r.fst, r.snd.fst, r.snd.snd.fst, (0 : Int), r.snd.snd.snd.snd)) l deep how aa))).length ≤ BIG) ∧ (leavesS (eT (ofH (gramS (r.fst, r.snd.fst, r.snd.snd.fst, (0 : Int), r.snd.snd.snd.snd)) l deep how aa))).length ≤ BIG) ∧ sameS (leavesS (eT (ofH (gramS (r.fst, r.snd.fst, r.snd.snd.fst, (0 : Int), r.snd.snd.snd.snd)) l deep how aa))) (leavesS (eT (ofH (gramS (r.fst, r.snd.fst, r.snd.snd.fst, (0 : Int), r.snd.snd.snd.snd)) l deep how aa))) = true) ∧ (sizeS (eT (ofH (gramS (r.fst, r.snd.fst, r.snd.snd.fst, (0 : Int), r.snd.snd.snd.snd)) l deep how aa)) == sizeS (eT (ofH (gramS (r.fst, r.snd.fst, r.snd.snd.fst, (0 : Int), r.snd.snd.snd.snd)) l deep how aa))) = true) ∧ (sameT (eT (ofH (gramS (r.fst, r.snd.fst, r.snd.snd.fst, (0 : Int), r.snd.snd.snd.snd)) l deep how aa)) (eT (ofH (gramS (r.fst, r.snd.fst, r.snd.snd.fst, (0 : Int), r.snd.snd.snd.snd)) m deep other aa)) == sameT (eT (ofH (gramS (r.fst, r.snd.fst, r.snd.snd.fst, (0 : Int), r.snd.snd.snd.snd)) l deep how aa)) (eT (ofH (gramS (r.fst, r.snd.fst, r.snd.snd.fst, (0 : Int), r.snd.snd.snd.snd)) m deep other aa))) = false →
  True ∧ false = true) ∧ (((((((True ∧ (0 : Int) = (0 : Int)) ∧ okX (gramS (r.fst, r.snd.fst, r.snd.snd.fst, (0 : Int), r.snd.snd.snd.snd))) ∧ Int.ofNat (3 : Nat) = (↑(3 : Nat) : Int) ∧ (0 : Int) ≤ (0 : Int) ∧ (0 : Int) ≤ Int.ofNat (3 : Nat) ∧ (3 : Nat) ≤ (99 : Nat) ∧ gSmall (gramS (r.fst, r.snd.fst, r.snd.snd.fst, (0 : Int), r.snd.snd.snd.snd)) ∧ okT (ofH (gramS (r.fst, r.snd.fst, r.snd.snd.fst, (0 : Int), r.snd.snd.snd.snd)) l deep how aa)) ∧ (leavesS (eT (ofH (gramS (r.fst, r.snd.fst, r.snd.snd.fst, (0 : Int), r.snd.snd.snd.snd)) l deep how aa))).length ≤ BIG) ∧ (leavesS (eT (ofH (gramS (r.fst, r.snd.fst, r.snd.snd.fst, (0 : Int), r.snd.snd.snd.snd)) l deep how aa))).length ≤ BIG) ∧ sameS (leavesS (eT (ofH (gramS (r.fst, r.snd.fst, r.snd.snd.fst, (0 : Int), r.snd.snd.snd.snd)) l deep how aa))) (leavesS (eT (ofH (gramS (r.fst, r.snd.fst, r.snd.snd.fst, (0 : Int), r.snd.snd.snd.snd)) l deep how aa))) = true) ∧ (sizeS (eT (ofH (gramS (r.fst, r.snd.fst, r.snd.snd.fst, (0 : Int), r.snd.snd.snd.snd)) l deep how aa)) == sizeS (eT (ofH (gramS (r.fst, r.snd.fst, r.snd.snd.fst, (0 : Int), r.snd.snd.snd.snd)) l deep how aa))) = false →
  True ∧ false = true) ∧ ((((((True ∧ (0 : Int) = (0 : Int)) ∧ okX (gramS (r.fst, r.snd.fst, r.snd.snd.fst, (0 : Int), r.snd.snd.snd.snd))) ∧ Int.ofNat (3 : Nat) = (↑(3 : Nat) : Int) ∧ (0 : Int) ≤ (0 : Int) ∧ (0 : Int) ≤ Int.ofNat (3 : Nat) ∧ (3 : Nat) ≤ (99 : Nat) ∧ gSmall (gramS (r.fst, r.snd.fst, r.snd.snd.fst, (0 : Int), r.snd.snd.snd.snd)) ∧ okT (ofH (gramS (r.fst, r.snd.fst, r.snd.snd.fst, (0 : Int), r.snd.snd.snd.snd)) l deep how aa)) ∧ (leavesS (eT (ofH (gramS (r.fst, r.snd.fst, r.snd.snd.fst, (0 : Int), r.snd.snd.snd.snd)) l deep how aa))).length ≤ BIG) ∧ (leavesS (eT (ofH (gramS (r.fst, r.snd.fst, r.snd.snd.fst, (0 : Int), r.snd.snd.snd.snd)) l deep how aa))).length ≤ BIG) ∧ sameS (leavesS (eT (ofH (gramS (r.fst, r.snd.fst, r.snd.snd.fst, (0 : Int), r.snd.snd.snd.snd)) l deep how aa))) (leavesS (eT (ofH (gramS (r.fst, r.snd.fst, r.snd.snd.fst, (0 : Int), r.snd.snd.snd.snd)) l deep how aa))) = false →
  True ∧ false = true) ∧ (True)
theorem treeTells.eq  (r : Int × Int × Int × Int × List (List Int) × ByteArray) (l : List Int) (m : List Int) (deep : Int) (how : Int) (aa : Int) (other : Int) : treeTells.g  r l m deep how aa other = treeTells.T0  r l m deep how aa other := by kernel_rfl
theorem treeTells.ok  (r : Int × Int × Int × Int × List (List Int) × ByteArray) (l : List Int) (m : List Int) (deep : Int) (how : Int) (aa : Int) (other : Int) : treeTells.T0  r l m deep how aa other := by
  unfold treeTells.T0
  repeat rw [eT_eq]
  have hX := gramS_okX (r.1, r.2.1, r.2.2.1, 0, r.2.2.2.2)
  generalize gramS (r.1, r.2.1, r.2.2.1, 0, r.2.2.2.2) = g at *
  have hT := ofH_ok hX l deep how aa
  generalize ofH g l deep how aa = t at *
  generalize ofH g m deep other aa = u at *
  have hgs : gSmall g := ⟨hX.1.1, hX.1.2.1⟩
  have hok : okT t := okK_T (by omega) hT.1
  have hlv := leaves_nodes t
  have htx := textS_size hX t
  have hB : BIG = 1000000 := rfl
  have hBS : BIGS = 1000000000000 := rfl
  have s1 := sameT_refl u
  have s2 := sameS_refl (leavesS t)
  ((repeat' (first | exact trivial | apply And.intro)) <;> (intro hw; (try (simp only [true_and, and_true, decide_eq_true_eq, decide_eq_false_iff_not, beq_iff_eq, bne_iff_ne, beq_eq_false_iff_ne, bne_eq_false_iff_eq, ne_eq, Bool.not_eq_true, Bool.not_eq_false, not_true_eq_false, not_false_eq_true, Bool.not_eq_eq_eq_not, Bool.not_true, Bool.not_false, forall_const, imp_self, Bool.true_eq_false, Bool.false_eq_true, reduceCtorEq] at hw)); (try first | (exfalso; omega) | exact ⟨trivial, rfl⟩ | exact (hw hx).elim | exact (hw.2 hx).elim)))
  all_goals first
    | exact absurd hX hw
    | exact hw.2.elim
    | (exfalso; omega)
    | exact hw.2 ⟨hgs, hok, by omega⟩
    | exact hw.2 ⟨hgs, by omega⟩
    | (exfalso; rw [s1] at hw; exact absurd hw.2 (by decide))
    | (exfalso; rw [s2] at hw; exact absurd hw.2 (by decide))
    | exact hw.2 ⟨by omega, by omega, by omega, hgs, hok⟩
    | exact hw.2 ⟨by simp, by omega, by simp, by simp, hgs, hok⟩
theorem treeTells.fn   : FnOk Try.prog treeTells := fn_eval (l := [(1000003, treeTells.R3), (0, treeTells.L0)]) (lf := 1000) (fun _ => cfOf_ok (fns_cons grammar0.fn (fns_cons ofF.fn (fns_cons leavesF.fn (fns_cons rleavesF.fn (fns_cons sameInt.fn (fns_cons sizeF.fn (fns_cons rsizeF.fn (fns_cons sameF.fn (fns_cons rsameF.fn (fns_cons tprint.fn (fns_cons rprint.fn (fns_cons wakes.fn (fns_nil _)))))))))))))) _ (lps_cons (treeTells.R3.lp) (lps_cons (treeTells.L0.lp) (lps_nil _ _))) (by kernel_rfl) (fun ⟨r, l, m, deep, how, aa, other⟩ hx => (treeTells.eq  r l m deep how aa other).mpr (treeTells.ok  r l m deep how aa other))
theorem treeTells_pre (r : Raw) (l m : List Int) (deep how aa other : Int) (h0 : rng RAW r) (h1 : rng (.sl (.int .i64)) l) (h2 : rng (.sl (.int .i64)) m) (h3 : rng (.int .i64) deep) (h4 : rng (.int .i64) how) (h5 : rng (.int .i64) aa) (h6 : rng (.int .i64) other) : holds (treeTells.pre (r, l, m, deep, how, aa, other)) := trivial
end Go.Proofs.Ytdmljeaigjfenaa.D
