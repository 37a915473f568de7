/- Texts that the proof of a law rests on, put together: part 46. -/
import Derived.Test.YtcmffeaoailoiaaDoorMp45
import Derived.Test.YtcmffeaoailoiaaDoorProg
namespace Go.Proofs.YtcmffeaoailoiaaDoor.D
open Go Go.EV Go.Proofs
set_option linter.unusedVariables false
set_option linter.unusedSimpArgs false
set_option maxRecDepth 100000
noncomputable def wakes : Face := ⟨9, [], fun _ => none, [⟨false, [.v .bool], fun _ => true, fun _ => none⟩]⟩
theorem wakes.fn : FnOk Tryd.prog wakes := fn_at fun s _ => hok_at E.hWakes2_ok wakes () _ [⟨.bool, true⟩] (List.mem_singleton_self _) (by kernel_rfl) (by kernel_rfl) (by kernel_rfl) (by kernel_rfl) (by kernel_rfl) (by kernel_rfl) (by kernel_rfl) (by kernel_rfl) (outIs_of rfl rfl (dec_cons (by kernel_rfl) (dec_nil _))) (by kernel_rfl)
theorem ba_beq (a b : ByteArray) : (a == b) = decide (a = b) := by
  rw [Bool.eq_iff_iff, decide_eq_true_eq]
  show (a.data == b.data) = true ↔ _
  rw [beq_iff_eq]
  exact ⟨fun h => ByteArray.ext h, fun h => by rw [h]⟩
theorem ba_self (a : ByteArray) : (a == a) = true := by rw [ba_beq]; exact decide_eq_true rfl
end Go.Proofs.YtcmffeaoailoiaaDoor.D

namespace Go.Proofs.YtcmffeaoailoiaaDoor.D
open Go Go.EV Go.Proofs
set_option linter.unusedVariables false
set_option linter.unusedSimpArgs false
set_option maxRecDepth 100000
def cnt10 : List Int → Int
  | [] => 0
  | c :: r => (if c = 10 then 1 else 0) + cnt10 r
def shT (k : Int) (y : Tok) : Tok := (y.1, y.2.1, y.2.2.1 + k, y.2.2.2)
def shC (k : Int) (y : Tok) : Tok := (y.1, y.2.1, y.2.2.1, y.2.2.2 + k)
def addZ (x k : Int) : Int := if x = 0 then 0 else x + k
theorem addZ_zero {x k : Int} (h0 : 0 ≤ x) (hk : 0 ≤ k) : addZ x k = 0 ↔ x = 0 := by
  unfold addZ; split
  · simp [*]
  · constructor <;> intro h <;> omega
theorem lineL_no (k : Int) : ∀ (n : Nat) (no at_ : Int) (L : List Int), lineL n (no + k) at_ L = ((lineL n no at_ L).1.map (shT k), (lineL n no at_ L).2)
  | 0, _, _, _ => rfl
  | n + 1, _, _, [] => rfl
  | n + 1, no, at_, c :: r => by
    have hT : ∀ (a b c : Int) (s : ByteArray) (p : List Tok × Int), consT (a, s, no + k, c) (p.1.map (shT k), p.2) = ((consT (a, s, no, c) p).1.map (shT k), (consT (a, s, no, c) p).2) := fun a b c s p => by
      unfold consT; split <;> rfl
    rw [lineL, lineL]
    split
    · exact lineL_no k n no _ r
    · split
      · rw [lineL_no k n no _ r]; exact hT _ 0 _ _ _
      · split
        · rw [lineL_no k n no _ r]; exact hT _ 0 _ _ _
        · split
          · rw [lineL_no k n no _ _]; exact hT _ 0 _ _ _
          · rfl
theorem lineL_at (k : Int) (hk : 0 ≤ k) : ∀ (n : Nat) (no at_ : Int) (L : List Int), 0 ≤ at_ → lineL n no (at_ + k) L = ((lineL n no at_ L).1.map (shC k), addZ (lineL n no at_ L).2 k)
  | 0, _, _, _, _ => rfl
  | n + 1, _, _, [], _ => rfl
  | n + 1, no, at_, c :: r, h0 => by
    have hT : ∀ (a c : Int) (s : ByteArray) (m : Nat) (at2 : Int) (L : List Int), 0 ≤ at2 → consT (a, s, no, c + k) ((lineL m no at2 L).1.map (shC k), addZ (lineL m no at2 L).2 k) = ((consT (a, s, no, c) (lineL m no at2 L)).1.map (shC k), addZ (consT (a, s, no, c) (lineL m no at2 L)).2 k) := fun a c s m at2 L h => by
      have hz := addZ_zero (lineL_nn m no at2 L h) hk
      unfold consT
      by_cases hc : (lineL m no at2 L).2 = 0
      · rw [if_pos (hz.2 hc), if_pos hc]; rfl
      · rw [if_neg (fun h => hc (hz.1 h)), if_neg hc]; rfl
    have e1 : at_ + k + 1 = at_ + 1 + k := by omega
    have e2 : ∀ m : Int, at_ + k + m = at_ + m + k := fun m => by omega
    rw [lineL, lineL]
    simp only [e1, e2]
    split
    · exact lineL_at k hk n no _ r (by omega)
    · split
      · rw [lineL_at k hk n no _ r (by omega)]; exact hT _ _ _ _ _ _ (by omega)
      · split
        · rw [lineL_at k hk n no _ r (by omega)]; exact hT _ _ _ _ _ _ (by omega)
        · split
          · rw [lineL_at k hk n no _ _ (by omega)]; exact hT _ _ _ _ _ _ (by omega)
          · rw [addZ, if_neg (by omega)]; rfl
theorem linesL_no (k : Int) (hk : 0 ≤ k) : ∀ (ls : List (List Int)) (no : Int), 0 < no → linesL (no + k) ls = ((linesL no ls).1.map (shT k), addZ (linesL no ls).2.1 k, (linesL no ls).2.2)
  | [], _, _ => rfl
  | s :: r, no, h0 => by
    have ih := linesL_no k hk r (no + 1) (by omega)
    have hf := linesL_fact r (no + 1) (by omega)
    rw [linesL, linesL, lineL_no, show no + k + 1 = no + 1 + k by omega, ih]
    split
    · by_cases hc : (linesL (no + 1) r).2.1 = 0
      · unfold consS
        rw [if_pos (by show addZ _ _ = 0; rw [hc]; rfl), if_pos hc, List.map_append, List.map_append]; rfl
      · have h1 := hf.2 hc
        unfold consS
        rw [if_neg (by show ¬ addZ _ _ = 0; rw [addZ, if_neg hc]; omega), if_neg hc]; rfl
    · show ([], no + k, _) = ([], addZ no k, _)
      rw [addZ, if_neg (by omega)]
theorem linesL_app : ∀ (x y : List (List Int)) (no : Int), 0 < no → linesL no (x ++ y) = if (linesL no x).2.1 = 0 then consS (linesL no x).1 (linesL (no + x.length) y) else linesL no x
  | [], y, no, h => by
    have hf := linesL_fact y no h
    rw [show linesL no [] = ([], 0, 0) from rfl, if_pos rfl, List.nil_append, List.length_nil, show no + ((0 : Nat) : Int) = no by omega]
    unfold consS
    split
    · rename_i h1; exact Prod.ext rfl (Prod.ext h1 (hf.1 h1))
    · rename_i h1; exact Prod.ext (hf.2 h1).1 rfl
  | s :: r, y, no, h => by
    have ih := linesL_app r y (no + 1) (by omega)
    rw [List.cons_append, linesL, linesL, ih, List.length_cons, show no + ((r.length + 1 : Nat) : Int) = no + 1 + r.length by omega]
    by_cases hs : (lineL (s.length + 1) no 0 (s.takeWhile noMk)).2 = 0
    · rw [if_pos hs, if_pos hs]
      by_cases hr : (linesL (no + 1) r).2.1 = 0
      · rw [if_pos hr, if_pos (by rw [consS_2]; exact hr), consS_app, consS_1 _ hr]
      · rw [if_neg hr, if_neg (by rw [consS_2]; exact hr)]
    · rw [if_neg hs, if_neg hs]
      exact (if_neg (show ¬ no = 0 by omega)).symm
theorem splitL_app : ∀ (a b : List Int), splitL (a ++ 10 :: b) = splitL a ++ splitL b
  | [], b => by
    show splitL (10 :: b) = [] :: splitL b
    rw [splitL, if_pos rfl]
  | c :: a, b => by
    have ih := splitL_app a b
    rw [List.cons_append, splitL, splitL, ih]
    split
    · rfl
    · cases hs : splitL a with
      | nil => exact absurd hs (splitL_ne a)
      | cons s t => rfl
theorem splitL_cnt : ∀ a : List Int, ((splitL a).length : Int) = cnt10 a + 1
  | [] => rfl
  | c :: a => by
    have ih := splitL_cnt a
    rw [splitL, cnt10]
    split
    · rw [List.length_cons]; omega
    · cases hs : splitL a with
      | nil => exact absurd hs (splitL_ne a)
      | cons s t => rw [hs] at ih; rw [List.length_cons] at *; omega
theorem cnt10_app : ∀ a b : List Int, cnt10 (a ++ b) = cnt10 a + cnt10 b
  | [], b => by rw [List.nil_append, cnt10]; omega
  | c :: a, b => by rw [List.cons_append, cnt10, cnt10, cnt10_app a b]; omega
theorem cnt10_nn : ∀ a : List Int, 0 ≤ cnt10 a ∧ cnt10 a ≤ a.length
  | [] => ⟨Int.le_refl _, Int.le_refl _⟩
  | c :: a => by
    have := cnt10_nn a
    rw [cnt10, List.length_cons]; split <;> omega
theorem splitL_le : ∀ (a : List Int), ∀ s ∈ splitL a, s.length ≤ a.length
  | [], s, h => by simp [splitL] at h; subst h; simp
  | c :: a, s, h => by
    have ih := splitL_le a
    rw [splitL] at h
    split at h
    · rcases List.mem_cons.1 h with e | h
      · rw [e]; simp
      · have := ih s h; rw [List.length_cons]; omega
    · cases hs : splitL a with
      | nil => exact absurd hs (splitL_ne a)
      | cons x t =>
        rw [hs] at h ih
        rcases List.mem_cons.1 h with e | h
        · have := ih x (List.mem_cons_self ..); rw [e, List.length_cons, List.length_cons]; omega
        · have := ih s (List.mem_cons_of_mem _ h); rw [List.length_cons]; omega
theorem lineL_tok : ∀ (n : Nat) (no at_ : Int) (L : List Int), ∀ y ∈ (lineL n no at_ L).1, y.2.2.1 = no ∧ at_ < y.2.2.2 ∧ y.2.2.2 ≤ at_ + L.length
  | 0, _, _, _, y, h => by simp [lineL] at h
  | n + 1, _, _, [], y, h => by simp [lineL] at h
  | n + 1, no, at_, c :: r, y, h => by
    have hT : ∀ (t : Tok) (p : List Tok × Int), y ∈ (consT t p).1 → y = t ∨ y ∈ p.1 := fun t p h => by
      unfold consT at h; split at h
      · exact List.mem_cons.1 h
      · simp at h
    have hl : (((c :: r).takeWhile alnC).length : Int) + ((c :: r).dropWhile alnC).length = (c :: r).length := by have := drop_len (p := alnC) (c :: r); omega
    rw [lineL] at h
    rw [List.length_cons] at *
    split at h
    · obtain ⟨h1, h2, h3⟩ := lineL_tok n no _ r y h; exact ⟨h1, by omega, by omega⟩
    · split at h
      · rcases hT _ _ h with e | h
        · rw [e]; exact ⟨rfl, by show at_ < at_ + 1; omega, by show at_ + 1 ≤ _; omega⟩
        · obtain ⟨h1, h2, h3⟩ := lineL_tok n no _ r y h; exact ⟨h1, by omega, by omega⟩
      · split at h
        · rcases hT _ _ h with e | h
          · rw [e]; exact ⟨rfl, by show at_ < at_ + 1; omega, by show at_ + 1 ≤ _; omega⟩
          · obtain ⟨h1, h2, h3⟩ := lineL_tok n no _ r y h; exact ⟨h1, by omega, by omega⟩
        · split at h
          · rcases hT _ _ h with e | h
            · rw [e]; exact ⟨rfl, by show at_ < at_ + 1; omega, by show at_ + 1 ≤ _; omega⟩
            · obtain ⟨h1, h2, h3⟩ := lineL_tok n no _ _ y h; exact ⟨h1, by omega, by omega⟩
          · simp at h
theorem linesL_tok (B : Int) : ∀ (ls : List (List Int)) (no : Int), (∀ s ∈ ls, (s.length : Int) ≤ B) → ∀ y ∈ (linesL no ls).1, no ≤ y.2.2.1 ∧ y.2.2.1 < no + ls.length ∧ 1 ≤ y.2.2.2 ∧ y.2.2.2 ≤ B + 1
  | [], no, _, y, h => by simp [linesL] at h
  | s :: r, no, hb, y, h => by
    have ih := linesL_tok B r (no + 1) (fun s h => hb s (List.mem_cons_of_mem _ h))
    have hs := hb s (List.mem_cons_self ..)
    have ht := drop_len (p := noMk) s
    rw [List.length_cons]
    rw [linesL] at h
    split at h
    · unfold consS at h
      split at h
      · rcases List.mem_append.1 h with h | h
        · rcases List.mem_append.1 h with h | h
          · obtain ⟨h1, h2, h3⟩ := lineL_tok _ _ _ _ y h; exact ⟨by omega, by omega, by omega, by omega⟩
          · rw [List.mem_singleton.1 h]
            exact ⟨by show no ≤ no; omega, by show no < _; omega, by show 1 ≤ (s.length : Int) + 1; omega, by show (s.length : Int) + 1 ≤ _; omega⟩
        · obtain ⟨h1, h2, h3, h4⟩ := ih y h; exact ⟨by omega, by omega, h3, h4⟩
      · simp at h
    · simp at h
theorem linesL_ne : ∀ (ls : List (List Int)) (no : Int), 0 < no → ls ≠ [] → (linesL no ls).2.1 = 0 → (linesL no ls).1 ≠ []
  | [], _, _, h, _ => absurd rfl h
  | s :: r, no, h0, _, h => by
    rw [linesL] at h ⊢
    split at h
    · rename_i hc
      rw [if_pos hc, consS_1 _ (by rw [consS_2] at h; exact h)]; simp
    · exact absurd h (by show ¬ no = 0; omega)
abbrev TK4 : Type := List Tok × Int × Int × Int
def tkS (q : Scn) : TK4 := (q.1, q.2.1, q.2.2, if q.2.1 = 0 then 0 else 2)
theorem tokS_nl (s : ByteArray) : tokS (s ++ nlB) = tkS (linesL 1 (splitL (bI s))) := by
  have hz : 0 < (s ++ nlB).size := by rw [ByteArray.size_append]; show 0 < s.size + 1; omega
  have hb : bI (s ++ nlB) = bI s ++ [10] := by rw [bI_app, bI_nl]
  have hl : (s ++ nlB).size = s.size + 1 := by rw [ByteArray.size_append]; rfl
  have h1 := (last_bI hz).1
  rw [hb, List.drop_append_of_le_length (by rw [bI_len]; omega), List.drop_eq_nil_of_le (by rw [bI_len]; omega), List.nil_append] at h1
  have h2 : addNl (s ++ nlB) = s ++ nlB := by rw [addNl, if_neg (fun h => h.2 (List.cons.inj h1).1.symm)]
  have h3 := add_bI hz
  rw [h2, hb] at h3
  have h4 := List.append_cancel_right h3
  rw [tok_ref, ref_is hz, linesAt, pieces_split, ← h4, show Int.toNat 0 = 0 from rfl, List.drop_zero]
  rfl
theorem tok_two (a b : ByteArray) : tokS ((a ++ nlB) ++ (b ++ nlB)) = tkS (if (linesL 1 (splitL (bI a))).2.1 = 0 then
    (if (linesL 1 (splitL (bI b))).2.1 = 0 then ((linesL 1 (splitL (bI a))).1 ++ (linesL 1 (splitL (bI b))).1.map (shT (cnt10 (bI (a ++ nlB)))), 0, 0) else ([], (linesL 1 (splitL (bI b))).2.1 + cnt10 (bI (a ++ nlB)), (linesL 1 (splitL (bI b))).2.2)) else linesL 1 (splitL (bI a))) := by
  have e : (a ++ nlB) ++ (b ++ nlB) = (a ++ nlB ++ b) ++ nlB := by rw [← ByteArray.append_assoc]
  have hn := (cnt10_nn (bI (a ++ nlB))).1
  have hc : ((splitL (bI a)).length : Int) = cnt10 (bI (a ++ nlB)) := by
    rw [splitL_cnt, bI_app, bI_nl, cnt10_app]; rfl
  generalize cnt10 (bI (a ++ nlB)) = K at *
  rw [e, tokS_nl, bI_app, bI_app, bI_nl, List.append_assoc, show [(10 : Int)] ++ bI b = 10 :: bI b from rfl, splitL_app, linesL_app _ _ _ (by decide), hc, linesL_no _ hn _ _ (by decide)]
  have hf := linesL_fact (splitL (bI b)) 1 (by decide)
  congr 1
  split
  · split
    · rename_i h; unfold consS; rw [if_pos (by show addZ _ _ = 0; rw [h]; rfl)]
    · rename_i h
      have := hf.2 h
      unfold consS; rw [if_neg (by show ¬ addZ _ _ = 0; rw [addZ, if_neg h]; omega)]
      show ([], addZ _ _, _) = _
      rw [addZ, if_neg h]
  · rfl
theorem splitL_pre : ∀ (X L : List Int), 10 ∉ X → ∀ s t, splitL L = s :: t → splitL (X ++ L) = (X ++ s) :: t
  | [], L, _, s, t, h => h
  | c :: X, L, hn, s, t, h => by
    have ih := splitL_pre X L (fun h => hn (List.mem_cons_of_mem _ h)) s t h
    rw [List.cons_append, splitL, if_neg (fun e => hn (by rw [e]; exact List.mem_cons_self ..)), ih]
    rfl
theorem lineL_bl (no : Int) (L : List Int) (n : Nat) : ∀ (k : Nat) (at_ : Int), lineL (n + k) no at_ (List.replicate k 32 ++ L) = lineL n no (at_ + k) L
  | 0, at_ => by rw [show at_ + ((0 : Nat) : Int) = at_ by omega]; rfl
  | k + 1, at_ => by
    rw [List.replicate_succ, List.cons_append, show n + (k + 1) = (n + k) + 1 by omega, lineL, if_pos rfl, lineL_bl no L n k (at_ + 1), show at_ + 1 + (k : Int) = at_ + ((k + 1 : Nat) : Int) by omega]
theorem tw_bl (s : List Int) : ∀ k : Nat, (List.replicate k 32 ++ s).takeWhile noMk = List.replicate k 32 ++ s.takeWhile noMk
  | 0 => rfl
  | k + 1 => by rw [List.replicate_succ, List.cons_append, List.takeWhile, tw_bl s k]; rfl
theorem getD_map0 (l : List Tok) (r r' : List Tok) (x y d : Tok) (k : Int) (h : x.2.2.2 = y.2.2.2 + k) : ((l.map (shC k) ++ [x] ++ r).getD 0 d).2.2.2 = ((l ++ [y] ++ r').getD 0 d).2.2.2 + k := by
  cases l with
  | nil => exact h
  | cons a l => rfl
theorem tok_blank (b X : ByteArray) (k : Nat) (d : Tok) (hX : bI X = List.replicate k 32) (h : (linesL 1 (splitL (bI b))).2.1 = 0) :
    (tokS (X ++ (b ++ nlB))).2.2.2 = 0 ∧ (tokS (X ++ (b ++ nlB))).1.length = (linesL 1 (splitL (bI b))).1.length ∧ ((tokS (X ++ (b ++ nlB))).1.getD 0 d).2.2.2 = ((linesL 1 (splitL (bI b))).1.getD 0 d).2.2.2 + k := by
  have e : X ++ (b ++ nlB) = (X ++ b) ++ nlB := by rw [ByteArray.append_assoc]
  have hn : (10 : Int) ∉ List.replicate k (32 : Int) := fun h => by have := List.eq_of_mem_replicate h; omega
  obtain ⟨s, t, hs⟩ : ∃ s t, splitL (bI b) = s :: t := by
    cases hs : splitL (bI b) with
    | nil => exact absurd hs (splitL_ne _)
    | cons s t => exact ⟨s, t, rfl⟩
  rw [e, tokS_nl, bI_app, hX, splitL_pre _ _ hn s t hs, hs] 
  rw [hs] at h
  have hk : (0 : Int) ≤ k := by omega
  have hl : lineL ((List.replicate k (32 : Int) ++ s).length + 1) 1 0 ((List.replicate k (32 : Int) ++ s).takeWhile noMk) = ((lineL (s.length + 1) 1 0 (s.takeWhile noMk)).1.map (shC k), addZ (lineL (s.length + 1) 1 0 (s.takeWhile noMk)).2 k) := by
    rw [tw_bl, List.length_append, List.length_replicate, show k + s.length + 1 = (s.length + 1) + k by omega, lineL_bl]
    exact lineL_at k hk _ _ _ _ (Int.le_refl _)
  have h1 : (lineL (s.length + 1) 1 0 (s.takeWhile noMk)).2 = 0 ∧ (linesL (1 + 1) t).2.1 = 0 := by
    rw [linesL] at h
    split at h
    · rename_i h1; rw [consS_2] at h; exact ⟨h1, h⟩
    · exact absurd h (by show ¬ (1 : Int) = 0; decide)
  rw [linesL, linesL, hl, if_pos h1.1, if_pos (show addZ _ _ = 0 by rw [h1.1]; rfl)]
  unfold tkS
  refine ⟨?_, ?_, ?_⟩
  · show (if (consS _ _).2.1 = 0 then (0 : Int) else 2) = 0
    rw [consS_2, if_pos h1.2]
  · show (consS _ _).1.length = _
    rw [consS_1 _ h1.2, consS_1 _ h1.2]
    simp only [List.length_append, List.length_map, List.length_singleton]
  · show ((consS _ _).1.getD 0 d).2.2.2 = _
    rw [consS_1 _ h1.2, consS_1 _ h1.2]
    refine getD_map0 _ _ _ _ _ _ _ ?_
    show (((List.replicate k (32 : Int) ++ s).length : Nat) : Int) + 1 = (s.length : Int) + 1 + k
    rw [List.length_append, List.length_replicate]; omega
theorem cnt10_no : ∀ {X : List Int}, 10 ∉ X → cnt10 X = 0
  | [], _ => rfl
  | c :: X, h => by rw [cnt10, if_neg (fun e => h (by rw [e]; exact List.mem_cons_self ..)), cnt10_no (fun h2 => h (List.mem_cons_of_mem _ h2))]; rfl
theorem tok_mark (b a : ByteArray) (Z : List Int) (ha : bI a = 35 :: Z) (hn : 10 ∉ bI a) (h : (linesL 1 (splitL (bI b))).2.1 = 0) :
    tokS ((a ++ nlB) ++ (b ++ nlB)) = ((5, ofB [], 1, ((bI a).length : Int) + 1) :: (linesL 1 (splitL (bI b))).1.map (shT 1), 0, 0, 0) := by
  have h1 : splitL (bI a) = [bI a] := by
    have := splitL_pre (bI a) [] hn [] [] rfl
    rwa [List.append_nil] at this
  have h2 : linesL 1 [bI a] = ([(5, ofB [], 1, ((bI a).length : Int) + 1)], 0, 0) := by
    rw [linesL, ha]; rfl
  have h3 : cnt10 (bI (a ++ nlB)) = 1 := by rw [bI_app, bI_nl, cnt10_app, cnt10_no hn]; rfl
  rw [tok_two, h1, h2, h3, if_pos rfl, if_pos h]
  rfl
noncomputable def spL0  : LFace := ⟨[2, 6, 7, 8, 9, 13, 21, 22], [.v (.int .i64), .v .bool, .v .str, .v .str, .v (.sl TK), .v (.sl TK), .v (.int .i64), .v (.int .i64)], fun (p, z, a, b, l, m, k, i) => some (0 ≤ i ∧ i ≤ a.size ∧ a.size ≤ 2000 ∧ 0 ≤ k ∧ k ≤ i),
  [⟨.normal, [2, 6, 7, 8, 9, 13, 21], [.v (.int .i64), .v .bool, .v .str, .v .str, .v (.sl TK), .v (.sl TK), .v (.int .i64)], fun (p, z, a, b, l, m, k, i) => (p, z, a, b, l, m, k + cnt10 ((bI a).drop i.toNat)), fun (p, z, a, b, l, m, k, i) => none⟩]⟩
noncomputable def spL0.mu  : dens spL0.sh → Nat := fun (p, z, a, b, l, m, k, i) => ((a.size : Int) - i).toNat
noncomputable def spL0.g  (p : Int) (z : Bool) (a : ByteArray) (b : ByteArray) (l : List (Int × ByteArray × Int × Int)) (m : List (Int × ByteArray × Int × Int)) (k : Int) (i : Int) : Prop := GoodLA Tryd.prog (cfOf []) [] 1000 6 0 spL0 spL0.mu (p, z, a, b, l, m, k, i)
noncomputable def spL0.T (p : Int) (z : Bool) (a : ByteArray) (b : ByteArray) (l : List (Int × ByteArray × Int × Int)) (m : List (Int × ByteArray × Int × Int)) (k : Int) (i : Int) : Prop := (((True ∧ decide (i < (↑a.size : Int)) = true) ∧ (0 : Int) ≤ i ∧ i < (↑a.size : Int)) ∧ (XW.bt a i == (10 : Int)) = true →
  ((0 : Int) ≤ IntKind.i64.wrap (i + (1 : Int)) ∧ IntKind.i64.wrap (i + (1 : Int)) ≤ (↑a.size : Int) ∧ a.size ≤ (2000 : Nat) ∧ (0 : Int) ≤ IntKind.i64.wrap (k + (1 : Int)) ∧ IntKind.i64.wrap (k + (1 : Int)) ≤ IntKind.i64.wrap (i + (1 : Int))) ∧ spL0.mu (p, z, a, b, l, m, IntKind.i64.wrap (k + (1 : Int)), IntKind.i64.wrap (i + (1 : Int))) < spL0.mu (p, z, a, b, l, m, k, i) ∧ (True → True ∧ (p, z, a, b, l, m, IntKind.i64.wrap (k + (1 : Int)) + cnt10 (List.drop (IntKind.i64.wrap (i + (1 : Int))).toNat (bI a))) = (p, z, a, b, l, m, k + cnt10 (List.drop i.toNat (bI a)))) ∧ True) ∧ (((True ∧ decide (i < (↑a.size : Int)) = true) ∧ (0 : Int) ≤ i ∧ i < (↑a.size : Int)) ∧ (XW.bt a i == (10 : Int)) = false →
  ((0 : Int) ≤ IntKind.i64.wrap (i + (1 : Int)) ∧ IntKind.i64.wrap (i + (1 : Int)) ≤ (↑a.size : Int) ∧ a.size ≤ (2000 : Nat) ∧ (0 : Int) ≤ k ∧ k ≤ IntKind.i64.wrap (i + (1 : Int))) ∧ spL0.mu (p, z, a, b, l, m, k, IntKind.i64.wrap (i + (1 : Int))) < spL0.mu (p, z, a, b, l, m, k, i) ∧ (True → True ∧ (p, z, a, b, l, m, k + cnt10 (List.drop (IntKind.i64.wrap (i + (1 : Int))).toNat (bI a))) = (p, z, a, b, l, m, k + cnt10 (List.drop i.toNat (bI a)))) ∧ True) ∧ ((True ∧ decide (i < (↑a.size : Int)) = true) ∧ ¬((0 : Int) ≤ i ∧ i < (↑a.size : Int)) → False) ∧ (True ∧ decide (i < (↑a.size : Int)) = false → True ∧ (p, z, a, b, l, m, k) = (p, z, a, b, l, m, k + cnt10 (List.drop i.toNat (bI a)))) ∧ (True)
theorem spL0.eq  (p : Int) (z : Bool) (a : ByteArray) (b : ByteArray) (l : List (Int × ByteArray × Int × Int)) (m : List (Int × ByteArray × Int × Int)) (k : Int) (i : Int) : spL0.g  p z a b l m k i = spL0.T  p z a b l m k i := by kernel_rfl
theorem spL0.ok  (p : Int) (z : Bool) (a : ByteArray) (b : ByteArray) (l : List (Int × ByteArray × Int × Int)) (m : List (Int × ByteArray × Int × Int)) (k : Int) (i : Int) (hx : 0 ≤ i ∧ i ≤ a.size ∧ a.size ≤ 2000 ∧ 0 ≤ k ∧ k ≤ i) : spL0.T  p z a b l m k i := by
  obtain ⟨h0, h1, h2, h3, h4⟩ := hx
  rw [spL0.T, wrapI64 (x := i + 1) (by omega) (by omega), wrapI64 (x := k + 1) (by omega) (by omega)]
  by_cases hi : i < (a.size : Int)
  · have hd : (bI a).drop i.toNat = XW.bt a i :: (bI a).drop (i + 1).toNat := by
      rw [bt_bI h0 hi]; exact drop_int 0 h0 (by rw [bI_len]; exact hi)
    rw [hd, cnt10]
    ((repeat' (first | exact trivial | apply And.intro)) <;> (intro hw; (try (simp only [true_and, and_true, decide_eq_true_eq, decide_eq_false_iff_not, beq_iff_eq, bne_iff_ne, beq_eq_false_iff_ne, bne_eq_false_iff_eq, ne_eq, Bool.not_eq_true, Bool.not_eq_false, not_true_eq_false, not_false_eq_true, Bool.not_eq_eq_eq_not, Bool.not_true, Bool.not_false, forall_const, imp_self, Bool.true_eq_false, Bool.false_eq_true, reduceCtorEq] at hw)); (try first | (exfalso; omega) | exact ⟨trivial, rfl⟩ | exact (hw hx).elim | exact (hw.2 hx).elim)))
    all_goals first
      | (exfalso; omega)
      | (rw [if_pos hw.2]; exact ⟨⟨by omega, by omega, h2, by omega, by omega⟩, by simp only [spL0.mu]; omega, fun _ => ⟨trivial, by rw [Int.add_assoc]⟩, trivial⟩)
      | (rw [if_neg hw.2, Int.zero_add]; exact ⟨⟨by omega, by omega, h2, by omega, by omega⟩, by simp only [spL0.mu]; omega, fun _ => ⟨trivial, rfl⟩, trivial⟩)
      | trace_state
  · rw [show (bI a).drop i.toNat = [] from drop_int_end (by rw [bI_len]; exact hi), cnt10]
    ((repeat' (first | exact trivial | apply And.intro)) <;> (intro hw; (try (simp only [true_and, and_true, decide_eq_true_eq, decide_eq_false_iff_not, beq_iff_eq, bne_iff_ne, beq_eq_false_iff_ne, bne_eq_false_iff_eq, ne_eq, Bool.not_eq_true, Bool.not_eq_false, not_true_eq_false, not_false_eq_true, Bool.not_eq_eq_eq_not, Bool.not_true, Bool.not_false, forall_const, imp_self, Bool.true_eq_false, Bool.false_eq_true, reduceCtorEq] at hw)); (try first | (exfalso; omega) | exact ⟨trivial, rfl⟩ | exact (hw hx).elim | exact (hw.2 hx).elim)))
    all_goals first
      | (exfalso; omega)
      | exact ⟨trivial, by rw [Int.add_zero]⟩
      | trace_state
theorem spL0.lp   : LpAt Tryd.prog 6 0 spL0 := lp_evalH (l := []) (lf := 1000) (fun _ => cfOf_ok (fns_nil _)) (lps_nil _ _) (by kernel_rfl) _ (spL0.mu ) (fun ⟨p, z, a, b, l, m, k, i⟩ hx => Hid.of (spL0.eq  p z a b l m k i) (spL0.ok  p z a b l m k i hx))
def okM (m : List Tok) : Prop := ∀ y ∈ m, 0 ≤ y.2.2.1 ∧ y.2.2.1 ≤ 2000
noncomputable def spL2  : LFace := ⟨[2, 8, 9, 13, 21, 116, 117, 118], [.v (.int .i64), .v .str, .v (.sl TK), .v (.sl TK), .v (.int .i64), .v (.sl TK), .v (.int .i64), .v (.int .i64)], fun (p, b, l, m, k, a, n, i) => some (a = l ++ m.map (shT k) ∧ n = a.length ∧ 0 ≤ i ∧ i ≤ n ∧ okM m ∧ 0 ≤ k ∧ k ≤ 2000 ∧ a.length ≤ 4000000),
  [⟨.normal, [2, 8, 13], [.v (.int .i64), .v .str, .v (.sl TK)], fun (p, b, l, m, k, a, n, i) => (p, b, m), fun (p, b, l, m, k, a, n, i) => none⟩]⟩
noncomputable def spL2.mu  : dens spL2.sh → Nat := fun (p, b, l, m, k, a, n, i) => (n - i).toNat
noncomputable def spL2.g  (p : Int) (b : ByteArray) (l : List (Int × ByteArray × Int × Int)) (m : List (Int × ByteArray × Int × Int)) (k : Int) (a : List (Int × ByteArray × Int × Int)) (n : Int) (i : Int) : Prop := GoodLA Tryd.prog (cfOf []) [] 1000 6 2 spL2 spL2.mu (p, b, l, m, k, a, n, i)
noncomputable def spL2.q0 (l : List (Int × ByteArray × Int × Int)) (a : List (Int × ByteArray × Int × Int)) (n : Int) (i : Int) : Prop := ((True ∧ decide (i < n) = true) ∧ (0 : Int) ≤ i ∧ i < (↑a.length : Int)) ∧ l.length ≤ (9223372036854775807 : Nat)
noncomputable def spL2.q1 (l : List (Int × ByteArray × Int × Int)) (m : List (Int × ByteArray × Int × Int)) (a : List (Int × ByteArray × Int × Int)) (n : Int) (i : Int) : Prop := (((spL2.q0 l a n i) ∧ decide (i < (↑l.length : Int)) = false) ∧ l.length ≤ (9223372036854775807 : Nat)) ∧ (0 : Int) ≤ IntKind.i64.wrap (i - (↑l.length : Int)) ∧ IntKind.i64.wrap (i - (↑l.length : Int)) < (↑m.length : Int)
noncomputable def spL2.q2 (l : List (Int × ByteArray × Int × Int)) (m : List (Int × ByteArray × Int × Int)) (k : Int) (a : List (Int × ByteArray × Int × Int)) (n : Int) (i : Int) : Prop := a = l ++ List.map (shT k) m ∧ n = (↑a.length : Int) ∧ (0 : Int) ≤ IntKind.i64.wrap (i + (1 : Int)) ∧ IntKind.i64.wrap (i + (1 : Int)) ≤ n ∧ okM m ∧ (0 : Int) ≤ k ∧ k ≤ (2000 : Int) ∧ a.length ≤ (4000000 : Nat)
noncomputable def spL2.T (p : Int) (b : ByteArray) (l : List (Int × ByteArray × Int × Int)) (m : List (Int × ByteArray × Int × Int)) (k : Int) (a : List (Int × ByteArray × Int × Int)) (n : Int) (i : Int) : Prop := (((spL2.q0 l a n i) ∧ decide (i < (↑l.length : Int)) = true) ∧ ¬((0 : Int) ≤ i ∧ i < (↑l.length : Int)) → False) ∧ ((((spL2.q0 l a n i) ∧ decide (i < (↑l.length : Int)) = true) ∧ (0 : Int) ≤ i ∧ i < (↑l.length : Int)) ∧ (!((a.getD i.toNat ((0 : Int), ByteArray.empty, (0 : Int), (0 : Int))).1 == (l.getD i.toNat ((0 : Int), ByteArray.empty, (0 : Int), (0 : Int))).1 && ((a.getD i.toNat ((0 : Int), ByteArray.empty, (0 : Int), (0 : Int))).2.1 == (l.getD i.toNat ((0 : Int), ByteArray.empty, (0 : Int), (0 : Int))).2.1 && ((a.getD i.toNat ((0 : Int), ByteArray.empty, (0 : Int), (0 : Int))).2.2.1 == (l.getD i.toNat ((0 : Int), ByteArray.empty, (0 : Int), (0 : Int))).2.2.1 && (a.getD i.toNat ((0 : Int), ByteArray.empty, (0 : Int), (0 : Int))).2.2.2 == (l.getD i.toNat ((0 : Int), ByteArray.empty, (0 : Int), (0 : Int))).2.2.2)))) = true → False) ∧ ((((spL2.q0 l a n i) ∧ decide (i < (↑l.length : Int)) = true) ∧ (0 : Int) ≤ i ∧ i < (↑l.length : Int)) ∧ (!((a.getD i.toNat ((0 : Int), ByteArray.empty, (0 : Int), (0 : Int))).1 == (l.getD i.toNat ((0 : Int), ByteArray.empty, (0 : Int), (0 : Int))).1 && ((a.getD i.toNat ((0 : Int), ByteArray.empty, (0 : Int), (0 : Int))).2.1 == (l.getD i.toNat ((0 : Int), ByteArray.empty, (0 : Int), (0 : Int))).2.1 && ((a.getD i.toNat ((0 : Int), ByteArray.empty, (0 : Int), (0 : Int))).2.2.1 == (l.getD i.toNat ((0 : Int), ByteArray.empty, (0 : Int), (0 : Int))).2.2.1 && (a.getD i.toNat ((0 : Int), ByteArray.empty, (0 : Int), (0 : Int))).2.2.2 == (l.getD i.toNat ((0 : Int), ByteArray.empty, (0 : Int), (0 : Int))).2.2.2)))) = false → (spL2.q2 l m k a n i) ∧ spL2.mu (p, b, l, m, k, a, n, IntKind.i64.wrap (i + (1 : Int))) < spL2.mu (p, b, l, m, k, a, n, i) ∧ (True → True ∧ (p, b, m) = (p, b, m)) ∧ True) ∧ ((spL2.q1 l m a n i) ∧ (!((a.getD i.toNat ((0 : Int), ByteArray.empty, (0 : Int), (0 : Int))).1 == (m.getD (IntKind.i64.wrap (i - (↑l.length : Int))).toNat ((0 : Int), ByteArray.empty, (0 : Int), (0 : Int))).1 && ((a.getD i.toNat ((0 : Int), ByteArray.empty, (0 : Int), (0 : Int))).2.1 == (m.getD (IntKind.i64.wrap (i - (↑l.length : Int))).toNat ((0 : Int), ByteArray.empty, (0 : Int), (0 : Int))).2.1 && ((a.getD i.toNat ((0 : Int), ByteArray.empty, (0 : Int), (0 : Int))).2.2.1 == IntKind.i64.wrap ((m.getD (IntKind.i64.wrap (i - (↑l.length : Int))).toNat ((0 : Int), ByteArray.empty, (0 : Int), (0 : Int))).2.2.1 + k) && (a.getD i.toNat ((0 : Int), ByteArray.empty, (0 : Int), (0 : Int))).2.2.2 == (m.getD (IntKind.i64.wrap (i - (↑l.length : Int))).toNat ((0 : Int), ByteArray.empty, (0 : Int), (0 : Int))).2.2.2)))) = true → False) ∧ ((spL2.q1 l m a n i) ∧ (!((a.getD i.toNat ((0 : Int), ByteArray.empty, (0 : Int), (0 : Int))).1 == (m.getD (IntKind.i64.wrap (i - (↑l.length : Int))).toNat ((0 : Int), ByteArray.empty, (0 : Int), (0 : Int))).1 && ((a.getD i.toNat ((0 : Int), ByteArray.empty, (0 : Int), (0 : Int))).2.1 == (m.getD (IntKind.i64.wrap (i - (↑l.length : Int))).toNat ((0 : Int), ByteArray.empty, (0 : Int), (0 : Int))).2.1 && ((a.getD i.toNat ((0 : Int), ByteArray.empty, (0 : Int), (0 : Int))).2.2.1 == IntKind.i64.wrap ((m.getD (IntKind.i64.wrap (i - (↑l.length : Int))).toNat ((0 : Int), ByteArray.empty, (0 : Int), (0 : Int))).2.2.1 + k) && (a.getD i.toNat ((0 : Int), ByteArray.empty, (0 : Int), (0 : Int))).2.2.2 == (m.getD (IntKind.i64.wrap (i - (↑l.length : Int))).toNat ((0 : Int), ByteArray.empty, (0 : Int), (0 : Int))).2.2.2)))) = false → (spL2.q2 l m k a n i) ∧ spL2.mu (p, b, l, m, k, a, n, IntKind.i64.wrap (i + (1 : Int))) < spL2.mu (p, b, l, m, k, a, n, i) ∧ (True → True ∧ (p, b, m) = (p, b, m)) ∧ True) ∧ ((((spL2.q0 l a n i) ∧ decide (i < (↑l.length : Int)) = false) ∧ l.length ≤ (9223372036854775807 : Nat)) ∧ ¬((0 : Int) ≤ IntKind.i64.wrap (i - (↑l.length : Int)) ∧ IntKind.i64.wrap (i - (↑l.length : Int)) < (↑m.length : Int)) → False) ∧ ((True ∧ decide (i < n) = true) ∧ ¬((0 : Int) ≤ i ∧ i < (↑a.length : Int)) → False) ∧ (True ∧ decide (i < n) = false → True ∧ (p, b, m) = (p, b, m)) ∧ (True)
theorem spL2.eq  (p : Int) (b : ByteArray) (l : List (Int × ByteArray × Int × Int)) (m : List (Int × ByteArray × Int × Int)) (k : Int) (a : List (Int × ByteArray × Int × Int)) (n : Int) (i : Int) : spL2.g  p b l m k a n i = spL2.T  p b l m k a n i := by kernel_rfl
theorem spL2.ok  (p : Int) (b : ByteArray) (l : List (Int × ByteArray × Int × Int)) (m : List (Int × ByteArray × Int × Int)) (k : Int) (a : List (Int × ByteArray × Int × Int)) (n : Int) (i : Int) (hx : a = l ++ m.map (shT k) ∧ n = a.length ∧ 0 ≤ i ∧ i ≤ n ∧ okM m ∧ 0 ≤ k ∧ k ≤ 2000 ∧ a.length ≤ 4000000) : spL2.T  p b l m k a n i := by
  obtain ⟨ha, rfl, h2, h3, h4, h5, h6, h7⟩ := hx
  have hl : a.length = l.length + m.length := by rw [ha, List.length_append, List.length_map]
  delta spL2.T spL2.q0 spL2.q1 spL2.q2
  by_cases hi : i < (a.length : Int)
  · rw [wrapI64 (x := i + 1) (by omega) (by omega), wrapI64 (x := i - (l.length : Int)) (by omega) (by omega)]
    by_cases hj : i < (l.length : Int)
    · have e : a.getD i.toNat (0, ByteArray.empty, 0, 0) = l.getD i.toNat (0, ByteArray.empty, 0, 0) := by
        rw [ha, List.getD_eq_getElem?_getD, List.getElem?_append_left (by omega), ← List.getD_eq_getElem?_getD]
      rw [e]
      generalize l.getD i.toNat (0, ByteArray.empty, 0, 0) = q
      simp only [beq_self_eq_true, ba_self, Bool.and_self, Bool.not_true]
      ((repeat' (first | exact trivial | apply And.intro)) <;> (intro hw; (try (simp only [true_and, and_true, decide_eq_true_eq, decide_eq_false_iff_not, beq_iff_eq, bne_iff_ne, beq_eq_false_iff_ne, bne_eq_false_iff_eq, ne_eq, Bool.not_eq_true, Bool.not_eq_false, not_true_eq_false, not_false_eq_true, Bool.not_eq_eq_eq_not, Bool.not_true, Bool.not_false, forall_const, imp_self, Bool.true_eq_false, Bool.false_eq_true, reduceCtorEq] at hw)); (try first | (exfalso; omega) | exact ⟨trivial, rfl⟩ | exact (hw hx).elim | exact (hw.2 hx).elim)))
      all_goals first
        | (exfalso; omega)
        | (simp only [and_false, false_and] at hw; done)
        | exact ⟨⟨ha, by first | rfl | trivial, by omega, by omega, h4, h5, h6, h7⟩, by simp only [spL2.mu]; omega, fun _ => ⟨trivial, by first | rfl | trivial⟩, trivial⟩
        | trace_state
    · have hk : (i - (l.length : Int)).toNat < m.length := by omega
      have e : a.getD i.toNat (0, ByteArray.empty, 0, 0) = shT k (m.getD (i - (l.length : Int)).toNat (0, ByteArray.empty, 0, 0)) := by
        rw [ha, List.getD_eq_getElem?_getD, List.getElem?_append_right (by omega), show i.toNat - l.length = (i - (l.length : Int)).toNat by omega, List.getElem?_map, List.getD_eq_getElem?_getD, List.getElem?_eq_getElem hk]; rfl
      have hy : 0 ≤ (m.getD (i - (l.length : Int)).toNat (0, ByteArray.empty, 0, 0)).2.2.1 ∧ (m.getD (i - (l.length : Int)).toNat (0, ByteArray.empty, 0, 0)).2.2.1 ≤ 2000 := by
        rw [List.getD_eq_getElem?_getD, List.getElem?_eq_getElem hk]; exact h4 _ (List.getElem_mem hk)
      rw [e]
      generalize m.getD (i - (l.length : Int)).toNat (0, ByteArray.empty, 0, 0) = q at *
      rw [wrapI64 (x := q.2.2.1 + k) (by omega) (by omega)]
      simp only [shT, beq_self_eq_true, ba_self, Bool.and_self, Bool.not_true]
      ((repeat' (first | exact trivial | apply And.intro)) <;> (intro hw; (try (simp only [true_and, and_true, decide_eq_true_eq, decide_eq_false_iff_not, beq_iff_eq, bne_iff_ne, beq_eq_false_iff_ne, bne_eq_false_iff_eq, ne_eq, Bool.not_eq_true, Bool.not_eq_false, not_true_eq_false, not_false_eq_true, Bool.not_eq_eq_eq_not, Bool.not_true, Bool.not_false, forall_const, imp_self, Bool.true_eq_false, Bool.false_eq_true, reduceCtorEq] at hw)); (try first | (exfalso; omega) | exact ⟨trivial, rfl⟩ | exact (hw hx).elim | exact (hw.2 hx).elim)))
      all_goals first
        | (exfalso; omega)
        | (simp only [and_false, false_and] at hw; done)
        | exact ⟨⟨ha, by first | rfl | trivial, by omega, by omega, h4, h5, h6, h7⟩, by simp only [spL2.mu]; omega, fun _ => ⟨trivial, by first | rfl | trivial⟩, trivial⟩
        | trace_state
  · ((repeat' (first | exact trivial | apply And.intro)) <;> (intro hw; (try (simp only [true_and, and_true, decide_eq_true_eq, decide_eq_false_iff_not, beq_iff_eq, bne_iff_ne, beq_eq_false_iff_ne, bne_eq_false_iff_eq, ne_eq, Bool.not_eq_true, Bool.not_eq_false, not_true_eq_false, not_false_eq_true, Bool.not_eq_eq_eq_not, Bool.not_true, Bool.not_false, forall_const, imp_self, Bool.true_eq_false, Bool.false_eq_true, reduceCtorEq] at hw)); (try first | (exfalso; omega) | exact ⟨trivial, rfl⟩ | exact (hw hx).elim | exact (hw.2 hx).elim)))
    all_goals first
      | (exfalso; omega)
      | exact ⟨trivial, rfl⟩
      | trace_state
theorem spL2.lp   : LpAt Tryd.prog 6 2 spL2 := lp_evalH (l := []) (lf := 1000) (fun _ => cfOf_ok (fns_nil _)) (lps_nil _ _) (by kernel_rfl) _ (spL2.mu ) (fun ⟨p, b, l, m, k, a, n, i⟩ hx => Hid.of (spL2.eq  p b l m k a n i) (spL2.ok  p b l m k a n i hx))
def blank16 : ByteArray := ⟨#[32, 32, 32, 32, 32, 32, 32, 32, 32, 32, 32, 32, 32, 32, 32, 32]⟩
def cmtB : ByteArray := ⟨#[35, 32, 195, 169, 32, 59, 32, 49, 97]⟩
theorem linesL_len : ∀ (ls : List (List Int)) (no : Int), (linesL no ls).1.length ≤ (joinL ls).length
  | [], _ => Nat.le_refl _
  | s :: r, no => by
    have ih := linesL_len r (no + 1)
    have h1 := lineL_len (s.length + 1) no 0 (s.takeWhile noMk)
    have h2 := drop_len (p := noMk) s
    have e : (joinL (s :: r)).length = s.length + ((joinL r).length + 1) := by rw [joinL, List.length_append, List.length_cons]
    rw [e, linesL]
    split
    · by_cases hc : (linesL (no + 1) r).2.1 = 0
      · rw [consS_1 _ hc, List.length_append, List.length_append, List.length_singleton]; omega
      · rw [consS, if_neg hc]; exact Nat.zero_le _
    · exact Nat.zero_le _
theorem bl_all : ∀ n < 17, bI (blank16.extract 0 n) = List.replicate n 32 := by decide
theorem bl_bI {k : Int} (h0 : 0 ≤ k) (h : k < 16) : bI (blank16.extract (Int.toNat 0) k.toNat) = List.replicate k.toNat 32 := bl_all _ (by omega)
theorem bl_size {k : Int} (h0 : 0 ≤ k) (h : k < 16) : (blank16.extract (Int.toNat 0) k.toNat).size = k.toNat := by
  rw [← bI_len, bl_bI h0 h, List.length_replicate]
theorem cm_bI : bI cmtB = [35, 32, 195, 169, 32, 59, 32, 49, 97] := by decide
theorem tk_zero {R : Scn} (h : R.2.1 = 0) (h2 : R.2.1 = 0 → R.2.2 = 0) : tkS R = (R.1, 0, 0, 0) := by
  rw [tkS, if_pos h, h, h2 h]
theorem tk_one {R : Scn} (h : ¬ R.2.1 = 0) : tkS R = (R.1, R.2.1, R.2.2, 2) := by
  rw [tkS, if_neg h]
theorem tok_okM (b : ByteArray) (h : b.size ≤ 200) : okM (linesL 1 (splitL (bI b))).1 ∧ (∀ y ∈ (linesL 1 (splitL (bI b))).1, 1 ≤ y.2.2.2 ∧ y.2.2.2 ≤ 201) ∧ (linesL 1 (splitL (bI b))).1.length ≤ 201 := by
  have h1 := linesL_tok 200 (splitL (bI b)) 1 (fun s hs => by have := splitL_le _ s hs; rw [bI_len] at this; omega)
  have h2 := linesL_len (splitL (bI b)) 1
  rw [join_split, List.length_append, bI_len, List.length_singleton] at h2
  have h3 := splitL_cnt (bI b)
  have h4 := cnt10_nn (bI b)
  rw [bI_len] at h4
  exact ⟨fun y hy => by have := h1 y hy; omega, fun y hy => by have := h1 y hy; omega, by omega⟩
theorem getD0_mem {B : List Tok} (h : B ≠ []) (d : Tok) : B.getD 0 d ∈ B := by
  cases B with
  | nil => exact absurd rfl h
  | cons a r => exact List.mem_cons_self ..
noncomputable def scanParts  : Face := ⟨6, [.v (.sl (.int .i64)), .v (.sl (.int .i64)), .v (.int .i64)], fun (l, m, p) => none,
  [⟨false, [.v .bool], fun (l, m, p) => true, fun (l, m, p) => none⟩]⟩
noncomputable def scanParts.g  (l : List Int) (m : List Int) (p : Int) : Prop := GoodFA Tryd.prog (cfOf [textF, tokF, within, wakes]) [(0, spL0), (2, spL2)] 1000 scanParts (l, m, p)
noncomputable def scanParts.q5 (m : List Int) : ByteArray := textS (ByteArray.mk #[]) m false ++ nlB
noncomputable def scanParts.q7 (l : List Int) (m : List Int) : ByteArray := textS (ByteArray.mk #[]) l false ++ nlB ++ (scanParts.q5 m)
noncomputable def scanParts.q12 (l : List Int) : ByteArray := textS (ByteArray.mk #[]) l false ++ nlB
noncomputable def scanParts.q20 (l : List Int) (m : List Int) : Prop := (True ∧ (textS (ByteArray.mk #[]) l false).size + (nlB).size ≤ (9223372036854775807 : Nat)) ∧ (textS (ByteArray.mk #[]) m false).size + (nlB).size ≤ (9223372036854775807 : Nat)
noncomputable def scanParts.q3 (l : List Int) (m : List Int) : Prop := ((scanParts.q20 l m) ∧ (scanParts.q12 l).size ≤ (900 : Nat)) ∧ (scanParts.q5 m).size ≤ (900 : Nat)
noncomputable def scanParts.q24 (l : List Int) (m : List Int) : Prop := (scanParts.q3 l m) ∧ ((tokS (scanParts.q12 l)).2.2.2 != (0 : Int)) = false
noncomputable def scanParts.q11 (l : List Int) (m : List Int) : Prop := ((scanParts.q24 l m) ∧ ((tokS (scanParts.q5 m)).2.2.2 != (0 : Int)) = false) ∧ (0 : Int) ≤ (0 : Int) ∧ (0 : Int) ≤ (↑(scanParts.q12 l).size : Int) ∧ (scanParts.q12 l).size ≤ (2000 : Nat) ∧ (0 : Int) ≤ (0 : Int) ∧ (0 : Int) ≤ (0 : Int)
noncomputable def scanParts.q25 (l : List Int) (m : List Int) : Prop := (scanParts.q11 l m) ∧ (scanParts.q12 l).size + (scanParts.q5 m).size ≤ (9223372036854775807 : Nat)
noncomputable def scanParts.q6 (l : List Int) (m : List Int) : Prop := (((((scanParts.q25 l m) ∧ (scanParts.q7 l m).size ≤ (900 : Nat)) ∧ ((tokS (scanParts.q7 l m)).2.2.2 != (0 : Int)) = false) ∧ List.length (tokS (scanParts.q7 l m)).1 ≤ (9223372036854775807 : Nat)) ∧ List.length (tokS (scanParts.q12 l)).1 ≤ (9223372036854775807 : Nat)) ∧ List.length (tokS (scanParts.q5 m)).1 ≤ (9223372036854775807 : Nat)
noncomputable def scanParts.q21 (l : List Int) (m : List Int) : Prop := ((scanParts.q6 l m) ∧ ((↑(List.length (tokS (scanParts.q7 l m)).1) : Int) != IntKind.i64.wrap ((↑(List.length (tokS (scanParts.q12 l)).1) : Int) + (↑(List.length (tokS (scanParts.q5 m)).1) : Int))) = false) ∧ List.length (tokS (scanParts.q7 l m)).1 ≤ (9223372036854775807 : Nat)
noncomputable def scanParts.q0 (l : List Int) (m : List Int) : Prop := (scanParts.q21 l m) ∧ (tokS (scanParts.q7 l m)).1 = (tokS (scanParts.q12 l)).1 ++ List.map (shT ((0 : Int) + cnt10 (List.drop (Int.toNat (0 : Int)) (bI (scanParts.q12 l))))) (tokS (scanParts.q5 m)).1 ∧ (↑(List.length (tokS (scanParts.q7 l m)).1) : Int) = (↑(List.length (tokS (scanParts.q7 l m)).1) : Int) ∧ (0 : Int) ≤ (0 : Int) ∧ (0 : Int) ≤ (↑(List.length (tokS (scanParts.q7 l m)).1) : Int) ∧ okM (tokS (scanParts.q5 m)).1 ∧ (0 : Int) ≤ (0 : Int) + cnt10 (List.drop (Int.toNat (0 : Int)) (bI (scanParts.q12 l))) ∧ (0 : Int) + cnt10 (List.drop (Int.toNat (0 : Int)) (bI (scanParts.q12 l))) ≤ (2000 : Int) ∧ List.length (tokS (scanParts.q7 l m)).1 ≤ (4000000 : Nat)
noncomputable def scanParts.q18 (l : List Int) (m : List Int) (p : Int) : Prop := ((scanParts.q0 l m) ∧ (0 : Int) < (16 : Int) ∧ (16 : Int) ≤ (9223372036854775807 : Int)) ∧ (0 : Int) ≤ (0 : Int) ∧ (0 : Int) ≤ p % (16 : Int) ∧ p % (16 : Int) ≤ (↑(blank16).size : Int)
noncomputable def scanParts.q10 (l : List Int) (m : List Int) (p : Int) : Prop := ((scanParts.q18 l m p) ∧ ((blank16).extract (Int.toNat (0 : Int)) (p % (16 : Int)).toNat).size + (scanParts.q5 m).size ≤ (9223372036854775807 : Nat)) ∧ ((blank16).extract (Int.toNat (0 : Int)) (p % (16 : Int)).toNat ++ (scanParts.q5 m)).size ≤ (900 : Nat)
noncomputable def scanParts.q23 (l : List Int) (m : List Int) (p : Int) : Prop := ((scanParts.q10 l m p) ∧ (cmtB).size + ((blank16).extract (Int.toNat (0 : Int)) (p % (16 : Int)).toNat).size ≤ (9223372036854775807 : Nat)) ∧ (cmtB ++ (blank16).extract (Int.toNat (0 : Int)) (p % (16 : Int)).toNat).size + (nlB).size ≤ (9223372036854775807 : Nat)
noncomputable def scanParts.q4 (l : List Int) (m : List Int) (p : Int) : Prop := (scanParts.q23 l m p) ∧ (cmtB ++ (blank16).extract (Int.toNat (0 : Int)) (p % (16 : Int)).toNat ++ nlB).size + (scanParts.q5 m).size ≤ (9223372036854775807 : Nat)
noncomputable def scanParts.q22 (l : List Int) (m : List Int) (p : Int) : Prop := (scanParts.q4 l m p) ∧ (cmtB ++ (blank16).extract (Int.toNat (0 : Int)) (p % (16 : Int)).toNat ++ nlB ++ (scanParts.q5 m)).size ≤ (900 : Nat)
noncomputable def scanParts.q8 (l : List Int) (m : List Int) (p : Int) : Prop := ((((scanParts.q22 l m p) ∧ ((tokS ((blank16).extract (Int.toNat (0 : Int)) (p % (16 : Int)).toNat ++ (scanParts.q5 m))).2.2.2 == (0 : Int)) = true) ∧ ((if (linesAt (piecesP (tsufS (cmtB ++ (blank16).extract (Int.toNat (0 : Int)) (p % (16 : Int)).toNat ++ nlB ++ (scanParts.q5 m)) nlB) nlB) (0 : Int)).2.1 = (0 : Int) then (0 : Int) else (2 : Int)) == (0 : Int)) = true) ∧ List.length (tokS ((blank16).extract (Int.toNat (0 : Int)) (p % (16 : Int)).toNat ++ (scanParts.q5 m))).1 ≤ (9223372036854775807 : Nat)) ∧ List.length (tokS (scanParts.q5 m)).1 ≤ (9223372036854775807 : Nat)
noncomputable def scanParts.q17 (l : List Int) (m : List Int) (p : Int) : Prop := (((scanParts.q8 l m p) ∧ ((↑(List.length (tokS ((blank16).extract (Int.toNat (0 : Int)) (p % (16 : Int)).toNat ++ (scanParts.q5 m))).1) : Int) == (↑(List.length (tokS (scanParts.q5 m)).1) : Int)) = true) ∧ List.length (tokS (cmtB ++ (blank16).extract (Int.toNat (0 : Int)) (p % (16 : Int)).toNat ++ nlB ++ (scanParts.q5 m))).1 ≤ (9223372036854775807 : Nat)) ∧ List.length (tokS (scanParts.q5 m)).1 ≤ (9223372036854775807 : Nat)
noncomputable def scanParts.q1 (l : List Int) (m : List Int) (p : Int) : Prop := ((scanParts.q17 l m p) ∧ ((↑(List.length (tokS (cmtB ++ (blank16).extract (Int.toNat (0 : Int)) (p % (16 : Int)).toNat ++ nlB ++ (scanParts.q5 m))).1) : Int) == IntKind.i64.wrap ((↑(List.length (tokS (scanParts.q5 m)).1) : Int) + (1 : Int))) = true) ∧ List.length (tokS (scanParts.q5 m)).1 ≤ (9223372036854775807 : Nat)
noncomputable def scanParts.q15 (l : List Int) (m : List Int) (p : Int) : Prop := ((scanParts.q1 l m p) ∧ ((↑(List.length (tokS (scanParts.q5 m)).1) : Int) == (0 : Int)) = false) ∧ (0 : Int) ≤ (0 : Int) ∧ (0 : Int) < (↑(List.length (tokS ((blank16).extract (Int.toNat (0 : Int)) (p % (16 : Int)).toNat ++ (scanParts.q5 m))).1) : Int)
noncomputable def scanParts.q13 (l : List Int) (m : List Int) (p : Int) : Prop := ((scanParts.q15 l m p) ∧ (0 : Int) ≤ (0 : Int) ∧ (0 : Int) < (↑(List.length (tokS (scanParts.q5 m)).1) : Int)) ∧ ((List.getD (tokS ((blank16).extract (Int.toNat (0 : Int)) (p % (16 : Int)).toNat ++ (scanParts.q5 m))).1 (Int.toNat (0 : Int)) ((0 : Int), ByteArray.empty, (0 : Int), (0 : Int))).2.2.2 == IntKind.i64.wrap ((List.getD (tokS (scanParts.q5 m)).1 (Int.toNat (0 : Int)) ((0 : Int), ByteArray.empty, (0 : Int), (0 : Int))).2.2.2 + (↑((blank16).extract (Int.toNat (0 : Int)) (p % (16 : Int)).toNat).size : Int))) = true
noncomputable def scanParts.q2 (l : List Int) (m : List Int) (p : Int) : Prop := (scanParts.q13 l m p) ∧ (0 : Int) ≤ (1 : Int) ∧ (1 : Int) < (↑(List.length (tokS (cmtB ++ (blank16).extract (Int.toNat (0 : Int)) (p % (16 : Int)).toNat ++ nlB ++ (scanParts.q5 m))).1) : Int)
noncomputable def scanParts.q9 (l : List Int) (m : List Int) (p : Int) : Prop := ((scanParts.q2 l m p) ∧ (0 : Int) ≤ (0 : Int) ∧ (0 : Int) < (↑(List.length (tokS (scanParts.q5 m)).1) : Int)) ∧ ((List.getD (tokS (cmtB ++ (blank16).extract (Int.toNat (0 : Int)) (p % (16 : Int)).toNat ++ nlB ++ (scanParts.q5 m))).1 (Int.toNat (1 : Int)) ((0 : Int), ByteArray.empty, (0 : Int), (0 : Int))).2.2.2 == (List.getD (tokS (scanParts.q5 m)).1 (Int.toNat (0 : Int)) ((0 : Int), ByteArray.empty, (0 : Int), (0 : Int))).2.2.2) = true
noncomputable def scanParts.q14 (l : List Int) (m : List Int) : Prop := ((scanParts.q24 l m) ∧ ((tokS (scanParts.q5 m)).2.2.2 != (0 : Int)) = true) ∧ (scanParts.q12 l).size + (scanParts.q5 m).size ≤ (9223372036854775807 : Nat)
noncomputable def scanParts.q16 (l : List Int) (m : List Int) : Prop := ((scanParts.q3 l m) ∧ ((tokS (scanParts.q12 l)).2.2.2 != (0 : Int)) = true) ∧ (scanParts.q12 l).size + (scanParts.q5 m).size ≤ (9223372036854775807 : Nat)
noncomputable def scanParts.q19 (l : List Int) (m : List Int) (p : Int) : Prop := (scanParts.q9 l m p) ∧ (0 : Int) ≤ (1 : Int) ∧ (1 : Int) < (↑(List.length (tokS (cmtB ++ (blank16).extract (Int.toNat (0 : Int)) (p % (16 : Int)).toNat ++ nlB ++ (scanParts.q5 m))).1) : Int)
noncomputable def scanParts.q26 (m : List Int) (p : Int) : Prop := (0 : Int) ≤ (1 : Int) ∧ (1 : Int) < (↑(List.length (tokS (cmtB ++ (blank16).extract (Int.toNat (0 : Int)) (p % (16 : Int)).toNat ++ nlB ++ (scanParts.q5 m))).1) : Int)
noncomputable def scanParts.q27 (m : List Int) : Prop := (0 : Int) ≤ (0 : Int) ∧ (0 : Int) < (↑(List.length (tokS (scanParts.q5 m)).1) : Int)
noncomputable def scanParts.T (l : List Int) (m : List Int) (p : Int) : Prop := ((scanParts.q20 l m) ∧ ¬(scanParts.q12 l).size ≤ (900 : Nat) → False) ∧ (((scanParts.q20 l m) ∧ (scanParts.q12 l).size ≤ (900 : Nat)) ∧ ¬(scanParts.q5 m).size ≤ (900 : Nat) → False) ∧ ((scanParts.q16 l m) ∧ ¬(scanParts.q7 l m).size ≤ (900 : Nat) → False) ∧ ((((scanParts.q16 l m) ∧ (scanParts.q7 l m).size ≤ (900 : Nat)) ∧ ((tokS (scanParts.q7 l m)).2.2.2 == (2 : Int)) = true) ∧ decide ((tokS (scanParts.q7 l m)).2.1 > (0 : Int)) = true → True ∧ true = true) ∧ ((((scanParts.q16 l m) ∧ (scanParts.q7 l m).size ≤ (900 : Nat)) ∧ ((tokS (scanParts.q7 l m)).2.2.2 == (2 : Int)) = true) ∧ decide ((tokS (scanParts.q7 l m)).2.1 > (0 : Int)) = false → True ∧ false = true) ∧ (((scanParts.q16 l m) ∧ (scanParts.q7 l m).size ≤ (900 : Nat)) ∧ ((tokS (scanParts.q7 l m)).2.2.2 == (2 : Int)) = false → True ∧ false = true) ∧ (((scanParts.q3 l m) ∧ ((tokS (scanParts.q12 l)).2.2.2 != (0 : Int)) = true) ∧ ¬(scanParts.q12 l).size + (scanParts.q5 m).size ≤ (9223372036854775807 : Nat) → False) ∧ ((scanParts.q14 l m) ∧ ¬(scanParts.q7 l m).size ≤ (900 : Nat) → False) ∧ ((((scanParts.q14 l m) ∧ (scanParts.q7 l m).size ≤ (900 : Nat)) ∧ ((tokS (scanParts.q7 l m)).2.2.2 == (2 : Int)) = true) ∧ decide ((tokS (scanParts.q7 l m)).2.1 > (0 : Int)) = true → True ∧ true = true) ∧ ((((scanParts.q14 l m) ∧ (scanParts.q7 l m).size ≤ (900 : Nat)) ∧ ((tokS (scanParts.q7 l m)).2.2.2 == (2 : Int)) = true) ∧ decide ((tokS (scanParts.q7 l m)).2.1 > (0 : Int)) = false → True ∧ false = true) ∧ (((scanParts.q14 l m) ∧ (scanParts.q7 l m).size ≤ (900 : Nat)) ∧ ((tokS (scanParts.q7 l m)).2.2.2 == (2 : Int)) = false → True ∧ false = true) ∧ (((scanParts.q24 l m) ∧ ((tokS (scanParts.q5 m)).2.2.2 != (0 : Int)) = true) ∧ ¬(scanParts.q12 l).size + (scanParts.q5 m).size ≤ (9223372036854775807 : Nat) → False) ∧ (((scanParts.q24 l m) ∧ ((tokS (scanParts.q5 m)).2.2.2 != (0 : Int)) = false) ∧ ¬((0 : Int) ≤ (0 : Int) ∧ (0 : Int) ≤ (↑(scanParts.q12 l).size : Int) ∧ (scanParts.q12 l).size ≤ (2000 : Nat) ∧ (0 : Int) ≤ (0 : Int) ∧ (0 : Int) ≤ (0 : Int)) → False) ∧ ((scanParts.q25 l m) ∧ ¬(scanParts.q7 l m).size ≤ (900 : Nat) → False) ∧ (((scanParts.q25 l m) ∧ (scanParts.q7 l m).size ≤ (900 : Nat)) ∧ ((tokS (scanParts.q7 l m)).2.2.2 != (0 : Int)) = true → True ∧ false = true) ∧ ((scanParts.q6 l m) ∧ ((↑(List.length (tokS (scanParts.q7 l m)).1) : Int) != IntKind.i64.wrap ((↑(List.length (tokS (scanParts.q12 l)).1) : Int) + (↑(List.length (tokS (scanParts.q5 m)).1) : Int))) = true → True ∧ false = true) ∧ ((scanParts.q21 l m) ∧ ¬((tokS (scanParts.q7 l m)).1 = (tokS (scanParts.q12 l)).1 ++ List.map (shT ((0 : Int) + cnt10 (List.drop (Int.toNat (0 : Int)) (bI (scanParts.q12 l))))) (tokS (scanParts.q5 m)).1 ∧ (↑(List.length (tokS (scanParts.q7 l m)).1) : Int) = (↑(List.length (tokS (scanParts.q7 l m)).1) : Int) ∧ (0 : Int) ≤ (0 : Int) ∧ (0 : Int) ≤ (↑(List.length (tokS (scanParts.q7 l m)).1) : Int) ∧ okM (tokS (scanParts.q5 m)).1 ∧ (0 : Int) ≤ (0 : Int) + cnt10 (List.drop (Int.toNat (0 : Int)) (bI (scanParts.q12 l))) ∧ (0 : Int) + cnt10 (List.drop (Int.toNat (0 : Int)) (bI (scanParts.q12 l))) ≤ (2000 : Int) ∧ List.length (tokS (scanParts.q7 l m)).1 ≤ (4000000 : Nat)) → False) ∧ ((scanParts.q0 l m) ∧ ¬((0 : Int) < (16 : Int) ∧ (16 : Int) ≤ (9223372036854775807 : Int)) → False) ∧ (((scanParts.q18 l m p) ∧ ((blank16).extract (Int.toNat (0 : Int)) (p % (16 : Int)).toNat).size + (scanParts.q5 m).size ≤ (9223372036854775807 : Nat)) ∧ ¬((blank16).extract (Int.toNat (0 : Int)) (p % (16 : Int)).toNat ++ (scanParts.q5 m)).size ≤ (900 : Nat) → False) ∧ ((scanParts.q4 l m p) ∧ ¬(cmtB ++ (blank16).extract (Int.toNat (0 : Int)) (p % (16 : Int)).toNat ++ nlB ++ (scanParts.q5 m)).size ≤ (900 : Nat) → False) ∧ ((scanParts.q1 l m p) ∧ ((↑(List.length (tokS (scanParts.q5 m)).1) : Int) == (0 : Int)) = true → True ∧ true = true) ∧ (((scanParts.q1 l m p) ∧ ((↑(List.length (tokS (scanParts.q5 m)).1) : Int) == (0 : Int)) = false) ∧ ¬((0 : Int) ≤ (0 : Int) ∧ (0 : Int) < (↑(List.length (tokS ((blank16).extract (Int.toNat (0 : Int)) (p % (16 : Int)).toNat ++ (scanParts.q5 m))).1) : Int)) → False) ∧ ((scanParts.q15 l m p) ∧ ¬(scanParts.q27 m) → False) ∧ ((scanParts.q13 l m p) ∧ ¬(scanParts.q26 m p) → False) ∧ ((scanParts.q2 l m p) ∧ ¬(scanParts.q27 m) → False) ∧ ((scanParts.q9 l m p) ∧ ¬(scanParts.q26 m p) → False) ∧ ((scanParts.q19 l m p) ∧ ¬(scanParts.q27 m) → False) ∧ (((scanParts.q19 l m p) ∧ (0 : Int) ≤ (0 : Int) ∧ (0 : Int) < (↑(List.length (tokS (scanParts.q5 m)).1) : Int)) ∧ ((List.getD (tokS (cmtB ++ (blank16).extract (Int.toNat (0 : Int)) (p % (16 : Int)).toNat ++ nlB ++ (scanParts.q5 m))).1 (Int.toNat (1 : Int)) ((0 : Int), ByteArray.empty, (0 : Int), (0 : Int))).2.2.1 == IntKind.i64.wrap ((List.getD (tokS (scanParts.q5 m)).1 (Int.toNat (0 : Int)) ((0 : Int), ByteArray.empty, (0 : Int), (0 : Int))).2.2.1 + (1 : Int))) = true → True ∧ true = true) ∧ (((scanParts.q19 l m p) ∧ (0 : Int) ≤ (0 : Int) ∧ (0 : Int) < (↑(List.length (tokS (scanParts.q5 m)).1) : Int)) ∧ ((List.getD (tokS (cmtB ++ (blank16).extract (Int.toNat (0 : Int)) (p % (16 : Int)).toNat ++ nlB ++ (scanParts.q5 m))).1 (Int.toNat (1 : Int)) ((0 : Int), ByteArray.empty, (0 : Int), (0 : Int))).2.2.1 == IntKind.i64.wrap ((List.getD (tokS (scanParts.q5 m)).1 (Int.toNat (0 : Int)) ((0 : Int), ByteArray.empty, (0 : Int), (0 : Int))).2.2.1 + (1 : Int))) = false → True ∧ false = true) ∧ (((scanParts.q2 l m p) ∧ (0 : Int) ≤ (0 : Int) ∧ (0 : Int) < (↑(List.length (tokS (scanParts.q5 m)).1) : Int)) ∧ ((List.getD (tokS (cmtB ++ (blank16).extract (Int.toNat (0 : Int)) (p % (16 : Int)).toNat ++ nlB ++ (scanParts.q5 m))).1 (Int.toNat (1 : Int)) ((0 : Int), ByteArray.empty, (0 : Int), (0 : Int))).2.2.2 == (List.getD (tokS (scanParts.q5 m)).1 (Int.toNat (0 : Int)) ((0 : Int), ByteArray.empty, (0 : Int), (0 : Int))).2.2.2) = false → True ∧ false = true) ∧ (((scanParts.q15 l m p) ∧ (0 : Int) ≤ (0 : Int) ∧ (0 : Int) < (↑(List.length (tokS (scanParts.q5 m)).1) : Int)) ∧ ((List.getD (tokS ((blank16).extract (Int.toNat (0 : Int)) (p % (16 : Int)).toNat ++ (scanParts.q5 m))).1 (Int.toNat (0 : Int)) ((0 : Int), ByteArray.empty, (0 : Int), (0 : Int))).2.2.2 == IntKind.i64.wrap ((List.getD (tokS (scanParts.q5 m)).1 (Int.toNat (0 : Int)) ((0 : Int), ByteArray.empty, (0 : Int), (0 : Int))).2.2.2 + (↑((blank16).extract (Int.toNat (0 : Int)) (p % (16 : Int)).toNat).size : Int))) = false → True ∧ false = true) ∧ ((scanParts.q17 l m p) ∧ ((↑(List.length (tokS (cmtB ++ (blank16).extract (Int.toNat (0 : Int)) (p % (16 : Int)).toNat ++ nlB ++ (scanParts.q5 m))).1) : Int) == IntKind.i64.wrap ((↑(List.length (tokS (scanParts.q5 m)).1) : Int) + (1 : Int))) = false → True ∧ false = true) ∧ ((scanParts.q8 l m p) ∧ ((↑(List.length (tokS ((blank16).extract (Int.toNat (0 : Int)) (p % (16 : Int)).toNat ++ (scanParts.q5 m))).1) : Int) == (↑(List.length (tokS (scanParts.q5 m)).1) : Int)) = false → True ∧ false = true) ∧ (((scanParts.q22 l m p) ∧ ((tokS ((blank16).extract (Int.toNat (0 : Int)) (p % (16 : Int)).toNat ++ (scanParts.q5 m))).2.2.2 == (0 : Int)) = true) ∧ ((if (linesAt (piecesP (tsufS (cmtB ++ (blank16).extract (Int.toNat (0 : Int)) (p % (16 : Int)).toNat ++ nlB ++ (scanParts.q5 m)) nlB) nlB) (0 : Int)).2.1 = (0 : Int) then (0 : Int) else (2 : Int)) == (0 : Int)) = false → True ∧ false = true) ∧ ((scanParts.q22 l m p) ∧ ((tokS ((blank16).extract (Int.toNat (0 : Int)) (p % (16 : Int)).toNat ++ (scanParts.q5 m))).2.2.2 == (0 : Int)) = false → True ∧ false = true) ∧ ((scanParts.q23 l m p) ∧ ¬(cmtB ++ (blank16).extract (Int.toNat (0 : Int)) (p % (16 : Int)).toNat ++ nlB).size + (scanParts.q5 m).size ≤ (9223372036854775807 : Nat) → False) ∧ (((scanParts.q10 l m p) ∧ (cmtB).size + ((blank16).extract (Int.toNat (0 : Int)) (p % (16 : Int)).toNat).size ≤ (9223372036854775807 : Nat)) ∧ ¬(cmtB ++ (blank16).extract (Int.toNat (0 : Int)) (p % (16 : Int)).toNat).size + (nlB).size ≤ (9223372036854775807 : Nat) → False) ∧ ((scanParts.q10 l m p) ∧ ¬(cmtB).size + ((blank16).extract (Int.toNat (0 : Int)) (p % (16 : Int)).toNat).size ≤ (9223372036854775807 : Nat) → False) ∧ ((scanParts.q18 l m p) ∧ ¬((blank16).extract (Int.toNat (0 : Int)) (p % (16 : Int)).toNat).size + (scanParts.q5 m).size ≤ (9223372036854775807 : Nat) → False) ∧ (((scanParts.q0 l m) ∧ (0 : Int) < (16 : Int) ∧ (16 : Int) ≤ (9223372036854775807 : Int)) ∧ ¬((0 : Int) ≤ (0 : Int) ∧ (0 : Int) ≤ p % (16 : Int) ∧ p % (16 : Int) ≤ (↑(blank16).size : Int)) → False) ∧ ((scanParts.q11 l m) ∧ ¬(scanParts.q12 l).size + (scanParts.q5 m).size ≤ (9223372036854775807 : Nat) → False) ∧ ((True ∧ (textS (ByteArray.mk #[]) l false).size + (nlB).size ≤ (9223372036854775807 : Nat)) ∧ ¬(textS (ByteArray.mk #[]) m false).size + (nlB).size ≤ (9223372036854775807 : Nat) → False) ∧ (True ∧ ¬(textS (ByteArray.mk #[]) l false).size + (nlB).size ≤ (9223372036854775807 : Nat) → False) ∧ (True)
theorem scanParts.eq  (l : List Int) (m : List Int) (p : Int) : scanParts.g  l m p = scanParts.T  l m p := by kernel_rfl
theorem scanParts.ok  (l : List Int) (m : List Int) (p : Int) : scanParts.T  l m p := by
  have ha := textS_size ⟨#[]⟩ l false
  have hb := textS_size ⟨#[]⟩ m false
  have hp0 := Int.emod_nonneg p (show (16 : Int) ≠ 0 by decide)
  have hp1 := Int.emod_lt_of_pos p (show (0 : Int) < 16 by decide)
  delta scanParts.T scanParts.q5 scanParts.q7 scanParts.q12 scanParts.q20 scanParts.q3 scanParts.q24 scanParts.q11 scanParts.q25 scanParts.q6 scanParts.q21 scanParts.q0 scanParts.q18 scanParts.q10 scanParts.q23 scanParts.q4 scanParts.q22 scanParts.q8 scanParts.q17 scanParts.q1 scanParts.q15 scanParts.q13 scanParts.q2 scanParts.q9 scanParts.q14 scanParts.q16 scanParts.q19 scanParts.q26 scanParts.q27
  generalize textS ⟨#[]⟩ l false = a at *
  generalize textS ⟨#[]⟩ m false = b at *
  generalize p % 16 = k at *
  have n1 : nlB.size = 1 := rfl
  have hA := linesL_fact (splitL (bI a)) 1 (by decide)
  have hB := linesL_fact (splitL (bI b)) 1 (by decide)
  have hK := cnt10_nn (bI (a ++ nlB))
  have hab := tok_two a b
  have s1 : (a ++ nlB).size = a.size + 1 := by rw [ByteArray.size_append]; rfl
  have s2 : (b ++ nlB).size = b.size + 1 := by rw [ByteArray.size_append]; rfl
  have s3 : (a ++ nlB ++ (b ++ nlB)).size = a.size + b.size + 2 := by rw [ByteArray.size_append, s1, s2]; omega
  by_cases h1 : (linesL 1 (splitL (bI a))).2.1 = 0
  · have ta : tokS (a ++ nlB) = ((linesL 1 (splitL (bI a))).1, 0, 0, 0) := by rw [tokS_nl, tk_zero h1 hA.1]
    by_cases h2 : (linesL 1 (splitL (bI b))).2.1 = 0
    · have tb : tokS (b ++ nlB) = ((linesL 1 (splitL (bI b))).1, 0, 0, 0) := by rw [tokS_nl, tk_zero h2 hB.1]
      have hb16 := bl_bI hp0 hp1
      have hz16 := bl_size hp0 hp1
      have hbl := tok_blank b (blank16.extract (Int.toNat 0) k.toNat) k.toNat (0, ByteArray.empty, 0, 0) hb16 h2
      have hcm : bI (cmtB ++ blank16.extract (Int.toNat 0) k.toNat) = 35 :: ([32, 195, 169, 32, 59, 32, 49, 97] ++ List.replicate k.toNat 32) := by rw [bI_app, hb16, cm_bI]; rfl
      have hmk := tok_mark b (cmtB ++ blank16.extract (Int.toNat 0) k.toNat) _ hcm (fun h => by
        rw [hcm] at h
        rcases List.mem_cons.1 h with e | h
        · revert e; decide
        · rcases List.mem_append.1 h with h | h
          · revert h; decide
          · have := List.eq_of_mem_replicate h; revert this; decide) h2
      have hmk2 := congrArg (fun z => z.2.2.2) hmk
      rw [tokS, if_neg (by rw [ByteArray.size_append, s2]; omega)] at hmk2
      have hne := linesL_ne _ 1 (by decide) (splitL_ne (bI b)) h2
      obtain ⟨o1, o2, o3⟩ := tok_okM b hb
      obtain ⟨-, -, p3⟩ := tok_okM a ha
      rw [if_pos h1, if_pos h2, tkS, if_pos rfl] at hab
      rw [bI_len, s1] at hK
      have q1 : cmtB.size = 9 := rfl
      have q2 : (cmtB ++ blank16.extract (Int.toNat 0) k.toNat).size = 9 + k.toNat := by rw [ByteArray.size_append, hz16]; rfl
      have q3 : (cmtB ++ blank16.extract (Int.toNat 0) k.toNat ++ nlB).size = 10 + k.toNat := by rw [ByteArray.size_append, q2, n1]; omega
      have q4 : (cmtB ++ blank16.extract (Int.toNat 0) k.toNat ++ nlB ++ (b ++ nlB)).size = 11 + k.toNat + b.size := by rw [ByteArray.size_append, q3, s2]; omega
      have q5 : (blank16.extract (Int.toNat 0) k.toNat ++ (b ++ nlB)).size = k.toNat + b.size + 1 := by rw [ByteArray.size_append, hz16, s2]; omega
      have q6 : blank16.size = 16 := rfl
      have gd := getD0_mem hne (0, ByteArray.empty, 0, 0)
      have o4 := o1 _ gd
      have o5 := o2 _ gd
      rw [hab, ta, tb, hmk, hz16]
      simp only [show Int.toNat 0 = 0 from rfl, show Int.toNat 1 = 1 from rfl, List.drop_zero, Int.zero_add] at *
      generalize tokS (blank16.extract 0 k.toNat ++ (b ++ nlB)) = c at *
      generalize cnt10 (bI (a ++ nlB)) = K at *
      generalize (linesL 1 (splitL (bI a))).1 = A at *
      generalize (linesL 1 (splitL (bI b))).1 = B at *
      have hl : ((A ++ B.map (shT K)).length : Int) = (A.length : Int) + B.length := by rw [List.length_append, List.length_map]; omega
      have hg : (((5, ofB [], 1, ((bI (cmtB ++ blank16.extract 0 k.toNat)).length : Int) + 1) :: B.map (shT 1)).getD 1 (0, ByteArray.empty, 0, 0)) = shT 1 (B.getD 0 (0, ByteArray.empty, 0, 0)) := by
        cases B with
        | nil => exact absurd rfl hne
        | cons x r => rfl
      have hlc : ((((5, ofB [], 1, ((bI (cmtB ++ blank16.extract 0 k.toNat)).length : Int) + 1) : Tok) :: B.map (shT 1)).length : Int) = (B.length : Int) + 1 := by rw [List.length_cons, List.length_map]; omega
      have hl0 : 0 < B.length := List.length_pos_iff.2 hne
      rw [hg, hlc, hl, hbl.1, hbl.2.1, hbl.2.2, wrapI64 (x := (A.length : Int) + B.length) (by omega) (by omega), wrapI64 (x := (B.length : Int) + 1) (by omega) (by omega), wrapI64 (x := (B.getD 0 (0, ByteArray.empty, 0, 0)).2.2.2 + ((k.toNat : Nat) : Int)) (by omega) (by omega), wrapI64 (x := (B.getD 0 (0, ByteArray.empty, 0, 0)).2.2.1 + 1) (by omega) (by omega)]
      ((repeat' (first | exact trivial | apply And.intro)) <;> (intro hw; (try (simp only [true_and, and_true, decide_eq_true_eq, decide_eq_false_iff_not, beq_iff_eq, bne_iff_ne, beq_eq_false_iff_ne, bne_eq_false_iff_eq, ne_eq, Bool.not_eq_true, Bool.not_eq_false, not_true_eq_false, not_false_eq_true, Bool.not_eq_eq_eq_not, Bool.not_true, Bool.not_false, forall_const, imp_self, Bool.true_eq_false, Bool.false_eq_true, reduceCtorEq] at hw)); (try first | (exfalso; omega) | exact ⟨trivial, rfl⟩ | exact (hw hx).elim | exact (hw.2 hx).elim)))
      all_goals first
        | (exfalso; omega)
        | exact hw.2.elim
        | (simp only [and_false, false_and] at hw; done)
        | exact ⟨trivial, trivial⟩
        | exact ⟨trivial, rfl⟩
        | exact hw.2 ⟨by omega, by omega, o1, by omega, by omega, by omega⟩
        | exact (hw.2 rfl).elim
        | exact (hw.2 hmk2).elim
        | (exfalso; exact absurd hw.1.2 (by decide))
        | (exfalso; simp only [shT, not_true_eq_false, and_false] at hw; done)
        | trace_state
    · simp only [tokS_nl, hab, if_pos h1, tk_one h2, tk_zero h1 hA.1]
      have h3 := (hB.2 h2).2
      rw [if_neg h2]
      have h4 : ¬ (linesL 1 (splitL (bI b))).2.1 + cnt10 (bI (a ++ nlB)) = 0 := by omega
      rw [tkS, if_neg h4]
      ((repeat' (first | exact trivial | apply And.intro)) <;> (intro hw; (try (simp only [true_and, and_true, decide_eq_true_eq, decide_eq_false_iff_not, beq_iff_eq, bne_iff_ne, beq_eq_false_iff_ne, bne_eq_false_iff_eq, ne_eq, Bool.not_eq_true, Bool.not_eq_false, not_true_eq_false, not_false_eq_true, Bool.not_eq_eq_eq_not, Bool.not_true, Bool.not_false, forall_const, imp_self, Bool.true_eq_false, Bool.false_eq_true, reduceCtorEq] at hw)); (try first | (exfalso; omega) | exact ⟨trivial, rfl⟩ | exact (hw hx).elim | exact (hw.2 hx).elim)))
      all_goals first
        | (exfalso; omega)
        | exact hw.2.elim
        | exact ⟨trivial, trivial⟩
        | (exfalso; exact absurd hw.1.2 (by decide))
        | trace_state
  · have h3 := (hA.2 h1).2
    simp only [hab, if_neg h1, tokS_nl, tk_one h1]
    ((repeat' (first | exact trivial | apply And.intro)) <;> (intro hw; (try (simp only [true_and, and_true, decide_eq_true_eq, decide_eq_false_iff_not, beq_iff_eq, bne_iff_ne, beq_eq_false_iff_ne, bne_eq_false_iff_eq, ne_eq, Bool.not_eq_true, Bool.not_eq_false, not_true_eq_false, not_false_eq_true, Bool.not_eq_eq_eq_not, Bool.not_true, Bool.not_false, forall_const, imp_self, Bool.true_eq_false, Bool.false_eq_true, reduceCtorEq] at hw)); (try first | (exfalso; omega) | exact ⟨trivial, rfl⟩ | exact (hw hx).elim | exact (hw.2 hx).elim)))
    all_goals first
      | (exfalso; omega)
      | exact hw.2.elim
      | exact ⟨trivial, trivial⟩
      | trace_state
theorem scanParts.fn   : FnOk Tryd.prog scanParts := fn_evalH (l := [(0, spL0), (2, spL2)]) (lf := 1000) (fun _ => cfOf_ok (fns_cons textF.fn (fns_cons tokF.fn (fns_cons within.fn (fns_cons wakes.fn (fns_nil _)))))) _ (lps_cons (spL0.lp) (lps_cons (spL2.lp) (lps_nil _ _))) (by kernel_rfl) (fun ⟨l, m, p⟩ hx => Hid.of (scanParts.eq  l m p) (scanParts.ok  l m p))
theorem scanParts_pre (l m : List Int) (p : Int) (h0 : rng (.sl (.int .i64)) l) (h1 : rng (.sl (.int .i64)) m) (h2 : rng (.int .i64) p) : holds (scanParts.pre (l, m, p)) := trivial
end Go.Proofs.YtcmffeaoailoiaaDoor.D
