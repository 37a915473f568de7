/- Texts that the proof of a law rests on, put together: part 46. -/
import Derived.Test.YtajnboigikdefaaDoorFg45
import Derived.Shelf.Strings.Count
import Derived.Shelf.Strings.Search3
import Derived.Shelf.Strings.SlTrimAscii
import Derived.Test.YtajnboigikdefaaDoorProg
namespace Go.Proofs.YtajnboigikdefaaDoor.D
open Go Go.EV Go.Proofs
set_option linter.unusedVariables false
set_option linter.unusedSimpArgs false
set_option maxRecDepth 100000
theorem zP : (∀ p : Prop, (True ∧ p) = p) ∧ (∀ p : Prop, (p ∧ True) = p) ∧ (∀ (p : Prop) [Decidable p], (decide p = true) = p) ∧ (∀ (p : Prop) [Decidable p], decide p = false ↔ ¬ p) ∧
  (∀ (α : Type) [BEq α] [LawfulBEq α] (a b : α), ((a == b) = true) ↔ a = b) ∧ (∀ (α : Type) [BEq α] [LawfulBEq α] (a b : α), ((a != b) = true) ↔ a ≠ b) ∧
  (∀ (α : Type) [BEq α] [LawfulBEq α] (a b : α), ((a == b) = false) ↔ a ≠ b) ∧ (∀ (α : Type) [BEq α] [LawfulBEq α] (a b : α), ((a != b) = false) ↔ a = b) ∧
  (∀ (α : Type) (a b : α), (a ≠ b) = ¬ (a = b)) ∧ (∀ b : Bool, (¬ b = true) = (b = false)) ∧ (∀ b : Bool, (¬ b = false) = (b = true)) ∧ ((¬ True) = False) ∧ ((¬ False) = True) ∧
  (∀ a b : Bool, ((!a) = b) ↔ (a = !b)) ∧ ((!true) = false) ∧ ((!false) = true) ∧ (∀ (α : Prop) [Nonempty α] (b : Prop), (α → b) ↔ b) ∧ (∀ a : Prop, (a → a) ↔ True) ∧ ((true = false) = False) ∧ ((false = true) = False) :=
  ⟨true_and, and_true, fun p _ => decide_eq_true_eq, fun p _ => decide_eq_false_iff_not, fun _ _ _ _ _ => beq_iff_eq, fun _ _ _ _ _ => bne_iff_ne, fun _ _ _ _ _ => beq_eq_false_iff_ne, fun _ _ _ _ _ => bne_eq_false_iff_eq, fun _ => ne_eq, Bool.not_eq_true, Bool.not_eq_false, not_true_eq_false, not_false_eq_true, fun _ _ => Bool.not_eq_eq_eq_not, Bool.not_true, Bool.not_false, fun α _ b => forall_const α, fun _ => imp_self, Bool.true_eq_false, Bool.false_eq_true⟩
def lays160_ren : Go.Shelf.Ren := ⟨fun | 160 => 105 | 232 => 111 | 231 => 110 | 227 => 112 | 234 => 114 | 233 => 113 | 236 => 116 | 235 => 115 | 228 => 118 | 271 => 121 | 151 => 120 | 197 => 119 | 120 => 125 | 152 => 124 | 260 => 123 | 137 => 130 | 119 => 131 | 224 => 128 | 225 => 127 | 217 => 126 | 266 => 132 | n => n, fun | 9 => 9 | 4 => 4 | 3 => 3 | 5 => 5 | 117 => 140 | 116 => 139 | 0 => 0 | 124 => 143 | 21 => 21 | 105 => 145 | 46 => 112 | 119 => 151 | 139 => 154 | 138 => 153 | n => n, fun | 3 => 2 | 4 => 3 | n => n⟩
theorem lays160 : Go.Proofs.Lays.n160 Tryd.prog lays160_ren where
  mixed := by kernel_rfl
  f119 := Tryd.func131.trans (congrArg some (by kernel_rfl))
  f120 := Tryd.func125.trans (congrArg some (by kernel_rfl))
  f137 := Tryd.func130.trans (congrArg some (by kernel_rfl))
  f151 := Tryd.func120.trans (congrArg some (by kernel_rfl))
  f152 := Tryd.func124.trans (congrArg some (by kernel_rfl))
  f160 := Tryd.func105.trans (congrArg some (by kernel_rfl))
  f197 := Tryd.func119.trans (congrArg some (by kernel_rfl))
  f217 := Tryd.func126.trans (congrArg some (by kernel_rfl))
  f224 := Tryd.func128.trans (congrArg some (by kernel_rfl))
  f225 := Tryd.func127.trans (congrArg some (by kernel_rfl))
  f227 := Tryd.func112.trans (congrArg some (by kernel_rfl))
  f228 := Tryd.func118.trans (congrArg some (by kernel_rfl))
  f231 := Tryd.func110.trans (congrArg some (by kernel_rfl))
  f232 := Tryd.func111.trans (congrArg some (by kernel_rfl))
  f233 := Tryd.func113.trans (congrArg some (by kernel_rfl))
  f234 := Tryd.func114.trans (congrArg some (by kernel_rfl))
  f235 := Tryd.func115.trans (congrArg some (by kernel_rfl))
  f236 := Tryd.func116.trans (congrArg some (by kernel_rfl))
  f260 := Tryd.func123.trans (congrArg some (by kernel_rfl))
  f266 := Tryd.func132.trans (congrArg some (by kernel_rfl))
  f271 := Tryd.func121.trans (congrArg some (by kernel_rfl))
  t0 := Tryd.underlying0
  a0 := Tryd.isAgg0
  z0 := Tryd.sizeOf0
  v0 := Tryd.zeroValue0
  t3 := Tryd.underlying3
  a3 := Tryd.isAgg3
  z3 := Tryd.sizeOf3
  v3 := Tryd.zeroValue3
  t4 := Tryd.underlying4
  a4 := Tryd.isAgg4
  z4 := Tryd.sizeOf4
  v4 := Tryd.zeroValue4
  t5 := Tryd.underlying5
  a5 := Tryd.isAgg5
  z5 := Tryd.sizeOf5
  v5 := Tryd.zeroValue5
  t9 := Tryd.underlying9
  a9 := Tryd.isAgg9
  z9 := Tryd.sizeOf9
  v9 := Tryd.zeroValue9
  t21 := Tryd.underlying21
  a21 := Tryd.isAgg21
  z21 := Tryd.sizeOf21
  v21 := Tryd.zeroValue21
  t46 := Tryd.underlying112
  a46 := Tryd.isAgg112
  z46 := Tryd.sizeOf112
  v46 := Tryd.zeroValue112
  t105 := Tryd.underlying145
  a105 := Tryd.isAgg145
  z105 := Tryd.sizeOf145
  v105 := Tryd.zeroValue145
  t116 := Tryd.underlying139
  a116 := Tryd.isAgg139
  z116 := Tryd.sizeOf139
  t117 := Tryd.underlying140
  a117 := Tryd.isAgg140
  z117 := Tryd.sizeOf140
  v117 := Tryd.zeroValue140
  t119 := Tryd.underlying151
  a119 := Tryd.isAgg151
  z119 := Tryd.sizeOf151
  t124 := Tryd.underlying143
  a124 := Tryd.isAgg143
  z124 := Tryd.sizeOf143
  v124 := Tryd.zeroValue143
  t138 := Tryd.underlying153
  a138 := Tryd.isAgg153
  z138 := Tryd.sizeOf153
  v138 := Tryd.zeroValue153
  t139 := Tryd.underlying154
  a139 := Tryd.isAgg154
  z139 := Tryd.sizeOf154
  v139 := Tryd.zeroValue154
  g3 := by kernel_rfl
  g4 := by kernel_rfl
def lays144_ren : Go.Shelf.Ren := ⟨fun | 144 => 106 | 143 => 117 | 219 => 122 | 217 => 126 | 225 => 127 | 224 => 128 | 267 => 129 | 266 => 132 | 314 => 133 | n => n, fun | 9 => 9 | 4 => 4 | 3 => 3 | 5 => 5 | 46 => 112 | 146 => 157 | 51 => 156 | n => n, fun | 1 => 1 | n => n⟩
theorem lays144 : Go.Proofs.Lays.n144 Tryd.prog lays144_ren where
  mixed := by kernel_rfl
  f143 := Tryd.func117.trans (congrArg some (by kernel_rfl))
  f144 := Tryd.func106.trans (congrArg some (by kernel_rfl))
  f217 := Tryd.func126.trans (congrArg some (by kernel_rfl))
  f219 := Tryd.func122.trans (congrArg some (by kernel_rfl))
  f224 := Tryd.func128.trans (congrArg some (by kernel_rfl))
  f225 := Tryd.func127.trans (congrArg some (by kernel_rfl))
  f266 := Tryd.func132.trans (congrArg some (by kernel_rfl))
  f267 := Tryd.func129.trans (congrArg some (by kernel_rfl))
  f314 := Tryd.func133.trans (congrArg some (by kernel_rfl))
  t3 := Tryd.underlying3
  a3 := Tryd.isAgg3
  z3 := Tryd.sizeOf3
  v3 := Tryd.zeroValue3
  t4 := Tryd.underlying4
  a4 := Tryd.isAgg4
  z4 := Tryd.sizeOf4
  v4 := Tryd.zeroValue4
  t5 := Tryd.underlying5
  a5 := Tryd.isAgg5
  z5 := Tryd.sizeOf5
  v5 := Tryd.zeroValue5
  t9 := Tryd.underlying9
  a9 := Tryd.isAgg9
  z9 := Tryd.sizeOf9
  v9 := Tryd.zeroValue9
  t46 := Tryd.underlying112
  a46 := Tryd.isAgg112
  z46 := Tryd.sizeOf112
  v46 := Tryd.zeroValue112
  t51 := Tryd.underlying156
  a51 := Tryd.isAgg156
  z51 := Tryd.sizeOf156
  v51 := Tryd.zeroValue156
  t146 := Tryd.underlying157
  a146 := Tryd.isAgg157
  z146 := Tryd.sizeOf157
  v146 := Tryd.zeroValue157
  g1 := by kernel_rfl
theorem set160 : (Tryd.prog.info? (lays160_ren.t 116)).map (fun i => (i.zero, i.size)) = some (some (.agg (Array.replicate 256 (.bool false))), 256) := by kernel_rfl
def toB (l : List UInt8) : ByteArray := ⟨l.toArray⟩
theorem toB_list (l : List UInt8) : (toB l).data.toList = l := by simp [toB]
theorem size_list (s : ByteArray) : s.size = s.data.toList.length := (Array.length_toList (xs := s.data)).symm
theorem ext_toB (s : ByteArray) (a b : Nat) : s.extract a b = toB ((s.data.toList.take b).drop a) := by
  apply ByteArray.ext
  apply Array.toList_inj.1
  rw [toB_list]
  simp [ByteArray.data_extract, Array.toList_extract, List.extract, List.drop_take]
def idxB (s c : ByteArray) : Int := Lib.indexByte s.data.toList (c.get! 0)
theorem toList_data (s : ByteArray) : s.toList = s.data.toList := Go.Lib.toList_data s
def asciiS (c : ByteArray) : Bool := c.data.toList.all fun b => decide (b.toNat < 128)
def trim (s c : ByteArray) : ByteArray := ⟨(Lib.trimS s.data.toList c.data.toList).toArray⟩
theorem one_byte {c : ByteArray} (h : c.size = 1) : c = ⟨#[c.get! 0]⟩ := by
  obtain ⟨⟨l⟩⟩ := c
  match l, h with
  | [x], _ => rfl
noncomputable def trimA : Face := ⟨105, [.v .str, .v .str], fun (s, c) => some (s.size ≤ 9223372036854775807 ∧ c.size < 4294967281 ∧ asciiS c = true), [⟨false, [.v .str], fun (s, c) => trim s c, fun _ => none⟩]⟩
noncomputable def hasA : Face := ⟨106, [.v .str, .v .str], fun (s, c) => some (c.size = 1), [⟨false, [.v .bool], fun (s, c) => decide (0 ≤ idxB s c), fun _ => none⟩]⟩
theorem two_args {C : Cx} {s c : ByteArray} {vs : List Value} (h : Dens C [.sym (.str s), .sym (.str c)] vs) : vs = [.string s, .string c] := by
  obtain ⟨u, us, rfl, h1, h2⟩ := h.cons_inv
  obtain ⟨u', us', rfl, h3, h4⟩ := h2.cons_inv
  rw [h4.nil_inv]
  cases sym_inv h1
  cases sym_inv h3
  rfl
theorem trimA.fn : FnOk Tryd.prog trimA := fn_lib (ps := [.v .str, .v .str]) (t := .str) (val := fun (s, c) => trim s c) (fun _ => rfl) rfl fun ⟨s, c⟩ C vs w hp hD => by
  obtain ⟨h0, h1, h2⟩ : s.size ≤ 9223372036854775807 ∧ c.size < 4294967281 ∧ asciiS c = true := hp
  rw [two_args hD]
  exact (Any.strings_Trim_laid lays160 set160 s c w h0 h1 (ascii_of_all h2)).mono fun e w' ⟨h, hB⟩ => ⟨_, h, hB, fun C' => .sym (.str _)⟩
theorem hasA.fn : FnOk Tryd.prog hasA := fn_lib (ps := [.v .str, .v .str]) (t := .bool) (val := fun (s, c) => decide (0 ≤ idxB s c)) (fun _ => rfl) rfl fun ⟨s, c⟩ C vs w hp hD => by
  have h1 : c.size = 1 := hp
  rw [two_args hD, one_byte h1]
  exact (Any.strings_Contains_one lays144 s (c.get! 0) w).mono fun e w' ⟨h, hB⟩ => ⟨_, h, hB ▸ Go.RowKit.Below.refl _ _, fun C' => .sym (.bool _)⟩
def letC (c : Int) : Bool := decide (97 ≤ c ∧ c ≤ 122) || decide (65 ≤ c ∧ c ≤ 90)
def digC (c : Int) : Bool := decide (48 ≤ c ∧ c ≤ 57)
def alnC (c : Int) : Bool := letC c || digC c
def nameL (w : List Int) : Bool := decide (1 ≤ w.length) && (decide (w.length ≤ 8) && (letC (w.headD 0) && w.all alnC))
def bI (s : ByteArray) : List Int := s.data.toList.map fun b => (b.toNat : Int)
def dgB : ByteArray := ⟨#[48, 49, 50, 51, 52, 53, 54, 55, 56, 57]⟩
def anB : ByteArray := ⟨#[65, 66, 67, 68, 69, 70, 71, 72, 73, 74, 75, 76, 77, 78, 79, 80, 81, 82, 83, 84, 85, 86, 87, 88, 89, 90, 97, 98, 99, 100, 101, 102, 103, 104, 105, 106, 107, 108, 109, 110, 111, 112, 113, 114, 115, 116, 117, 118, 119, 120, 121, 122, 48, 49, 50, 51, 52, 53, 54, 55, 56, 57]⟩
theorem bI_len (s : ByteArray) : (bI s).length = s.size := by rw [bI, List.length_map, size_list]
theorem aln_all : ∀ n < 256, anB.data.toList.contains (UInt8.ofNat n) = alnC (n : Int) := by decide
theorem dg_all : ∀ n < 256, decide (0 ≤ Lib.indexByte dgB.data.toList (UInt8.ofNat n)) = digC (n : Int) := by decide
theorem aln_b (b : UInt8) : anB.data.toList.contains b = alnC (b.toNat : Int) := by
  have h := aln_all b.toNat (UInt8.toNat_lt b)
  rwa [UInt8.ofNat_toNat] at h
theorem get0 (c : ByteArray) : c.get! 0 = c.data.toList.headD 0 := by
  obtain ⟨⟨l⟩⟩ := c
  cases l <;> rfl
theorem head_bI (s : ByteArray) : (bI s).headD 0 = ((s.get! 0).toNat : Int) := by
  rw [get0, bI]
  cases s.data.toList <;> rfl
theorem get0_ext {s : ByteArray} (h : 1 ≤ s.size) : (s.extract 0 1).get! 0 = s.get! 0 := by
  rw [get0, get0, ext_toB, toB_list]
  rw [size_list] at h
  cases hl : s.data.toList with
  | nil => rw [hl] at h; simp at h
  | cons a r => rfl
theorem dg_b {s : ByteArray} (h : 1 ≤ s.size) : decide (0 ≤ idxB dgB (s.extract 0 1)) = digC ((bI s).headD 0) := by
  have e := dg_all (s.get! 0).toNat (UInt8.toNat_lt _)
  rw [UInt8.ofNat_toNat] at e
  rw [idxB, get0_ext h, head_bI, e]
theorem dropWhile_nil {α : Type} {p : α → Bool} : ∀ {l : List α}, l.dropWhile p = [] ↔ ∀ x ∈ l, p x = true
  | [] => by simp
  | a :: r => by
    rw [List.dropWhile]
    cases h : p a with
    | true => simp [dropWhile_nil (l := r), h]
    | false => simp [h]
theorem trim_nil (l cs : List UInt8) : Lib.trimS l cs = [] ↔ ∀ x ∈ l, cs.contains x = true := by
  have hd : ∀ {m : List UInt8} {x : UInt8} {r}, m.dropWhile (cs.contains ·) = x :: r → cs.contains x = false := by
    intro m
    induction m with
    | nil => intro x r h; simp at h
    | cons a m ih =>
      intro x r h
      rw [List.dropWhile] at h
      cases ha : cs.contains a with
      | true => rw [ha] at h; exact ih h
      | false => rw [ha] at h; simp only [List.cons.injEq] at h; rw [← h.1]; exact ha
  rw [Lib.trimS, Lib.trimLeftS, dropWhile_nil, Lib.trimRightS]
  constructor
  · intro h
    cases hq : l.reverse.dropWhile (cs.contains ·) with
    | nil =>
      have := dropWhile_nil.1 hq
      intro x hx; exact this x (List.mem_reverse.2 hx)
    | cons x r =>
      have h1 := h x (by rw [hq]; simp)
      rw [hd hq] at h1; cases h1
  · intro h x hx
    have : x ∈ l.reverse := (List.dropWhile_sublist _).subset (List.mem_reverse.1 hx)
    exact h x (List.mem_reverse.1 this)
theorem trim_an (s : ByteArray) : ((trim s anB).toList == (ByteArray.mk #[]).toList) = (bI s).all alnC := by
  rw [Bool.eq_iff_iff, beq_iff_eq, toList_data, toList_data, trim]
  show Lib.trimS _ _ = [] ↔ _
  rw [trim_nil, List.all_eq_true, bI]
  simp only [aln_b, List.mem_map]
  constructor
  · rintro h x ⟨b, hb, rfl⟩; exact h b hb
  · intro h b hb; exact h _ ⟨b, hb, rfl⟩
theorem emp_eq (s : ByteArray) : (s.toList == (ByteArray.mk #[]).toList) = decide (s.size = 0) := by
  rw [Bool.eq_iff_iff, beq_iff_eq, decide_eq_true_eq, toList_data, toList_data, size_list]
  show s.data.toList = [] ↔ _
  rw [List.length_eq_zero_iff]
theorem let_dig {c : Int} (h : alnC c = true) : letC c = !digC c := by
  simp only [alnC, letC, digC, Bool.or_eq_true, decide_eq_true_eq] at h
  rw [Bool.eq_iff_iff]
  simp only [letC, digC, Bool.or_eq_true, decide_eq_true_eq, Bool.not_eq_true', decide_eq_false_iff_not]
  omega
theorem head_all {p : Int → Bool} {l : List Int} (h : l.all p = true) (h1 : 1 ≤ l.length) : p (l.headD 0) = true := by
  cases l with
  | nil => simp at h1
  | cons a r => simp only [List.all_cons, Bool.and_eq_true] at h; exact h.1
theorem nameL_eq {s : ByteArray} (h1 : 1 ≤ s.size) (h8 : s.size ≤ 8) (ha : (bI s).all alnC = true) : nameL (bI s) = !digC ((bI s).headD 0) := by
  have hl := bI_len s
  rw [nameL, ha, let_dig (head_all ha (by omega)), decide_eq_true (by omega), decide_eq_true (by omega), Bool.and_true]; rfl
theorem nameL_no {s : ByteArray} (h : ¬ (1 ≤ s.size ∧ s.size ≤ 8 ∧ (bI s).all alnC = true)) : nameL (bI s) = false := by
  rw [← Bool.not_eq_true]
  intro hn
  apply h
  simp only [nameL, Bool.and_eq_true, decide_eq_true_eq, bI_len] at hn
  exact ⟨hn.1, hn.2.1, hn.2.2.2⟩
theorem an_ok : (anB.size < 4294967281 ∧ asciiS anB = true) := by decide
theorem ext1 {s : ByteArray} (h : 1 ≤ s.size) : (s.extract 0 1).size = 1 := by
  rw [ByteArray.size_extract]; omega
noncomputable def nameF  : Face := ⟨93, [.v .str], fun s => some (s.size ≤ 4000000),
  [⟨false, [.v .bool], fun s => nameL (bI s), fun s => none⟩]⟩
noncomputable def nameF.g  (s : ByteArray) : Prop := GoodFA Tryd.prog (cfOf [trimA, hasA]) [] 1000 nameF s
noncomputable def nameF.q0 (s : ByteArray) : Prop := ((True ∧ (!s.toList == (ByteArray.mk #[]).toList) = true) ∧ decide ((↑s.size : Int) ≤ (8 : Int)) = true) ∧ s.size ≤ (9223372036854775807 : Nat) ∧ (anB).size < (4294967281 : Nat) ∧ asciiS (anB) = true
noncomputable def nameF.q1 (s : ByteArray) : Prop := ((nameF.q0 s) ∧ ((trim s (anB)).toList == (ByteArray.mk #[]).toList) = true) ∧ (0 : Int) ≤ (0 : Int) ∧ (0 : Int) ≤ (1 : Int) ∧ (1 : Int) ≤ (↑s.size : Int)
noncomputable def nameF.T (s : ByteArray) : Prop := (((True ∧ (!s.toList == (ByteArray.mk #[]).toList) = true) ∧ decide ((↑s.size : Int) ≤ (8 : Int)) = true) ∧ ¬(s.size ≤ (9223372036854775807 : Nat) ∧ (anB).size < (4294967281 : Nat) ∧ asciiS (anB) = true) → False) ∧ ((nameF.q1 s) ∧ ¬(s.extract (Int.toNat (0 : Int)) (Int.toNat (1 : Int))).size = (1 : Nat) → False) ∧ ((nameF.q1 s) ∧ (s.extract (Int.toNat (0 : Int)) (Int.toNat (1 : Int))).size = (1 : Nat) → True ∧ (!decide ((0 : Int) ≤ idxB (dgB) (s.extract (Int.toNat (0 : Int)) (Int.toNat (1 : Int))))) = nameL (bI s)) ∧ (((nameF.q0 s) ∧ ((trim s (anB)).toList == (ByteArray.mk #[]).toList) = true) ∧ ¬((0 : Int) ≤ (0 : Int) ∧ (0 : Int) ≤ (1 : Int) ∧ (1 : Int) ≤ (↑s.size : Int)) → False) ∧ ((nameF.q0 s) ∧ ((trim s (anB)).toList == (ByteArray.mk #[]).toList) = false → True ∧ false = nameL (bI s)) ∧ ((True ∧ (!s.toList == (ByteArray.mk #[]).toList) = true) ∧ decide ((↑s.size : Int) ≤ (8 : Int)) = false → True ∧ false = nameL (bI s)) ∧ (True ∧ (!s.toList == (ByteArray.mk #[]).toList) = false → True ∧ false = nameL (bI s)) ∧ (True)
theorem nameF.eq  (s : ByteArray) : nameF.g  s = nameF.T  s := by kernel_rfl
theorem nameF.ok  (s : ByteArray) (hx : s.size ≤ 4000000) : nameF.T  s := by
  have ha := an_ok.1
  have hb := an_ok.2
  delta nameF.T nameF.q0 nameF.q1
  rw [trim_an]
  simp only [emp_eq, show Int.toNat 0 = 0 from rfl, show Int.toNat 1 = 1 from rfl]
  by_cases h1 : 1 ≤ s.size
  · rw [ext1 h1, dg_b h1]
    ((repeat' (first | exact trivial | apply And.intro)) <;> (intro hw; (try (simp only [zP, reduceCtorEq] at hw)); (try first | (exfalso; omega) | exact ⟨trivial, rfl⟩ | exact (hw hx).elim | exact (hw.2 hx).elim)))
    all_goals first
      | (exfalso; omega)
      | exact hw.2 ⟨by omega, ha, hb⟩
      | exact hw.2.elim
      | exact ⟨trivial, (nameL_eq h1 (by omega) hw.1.2).symm⟩
      | exact ⟨trivial, (nameL_no (fun h => by first | omega | (have := hw.2; rw [h.2.2] at this; cases this))).symm⟩
      | trace_state
  · ((repeat' (first | exact trivial | apply And.intro)) <;> (intro hw; (try (simp only [zP, reduceCtorEq] at hw)); (try first | (exfalso; omega) | exact ⟨trivial, rfl⟩ | exact (hw hx).elim | exact (hw.2 hx).elim)))
    all_goals first
      | (exfalso; omega)
      | exact ⟨trivial, (nameL_no (fun h => by omega)).symm⟩
      | trace_state
theorem nameF.fn   : FnOk Tryd.prog nameF := fn_evalH (l := []) (lf := 1000) (fun _ => cfOf_ok (fns_cons trimA.fn (fns_cons hasA.fn (fns_nil _)))) _ (lps_nil _ _) (by kernel_rfl) (fun s hx => Hid.of (nameF.eq  s) (nameF.ok  s hx))
theorem bt_bI {s : ByteArray} {i : Int} (h0 : 0 ≤ i) (h : i < (s.size : Int)) : XW.bt s i = (bI s).getD i.toNat 0 := by
  have hi : i.toNat < s.size := by omega
  have hl : i.toNat < s.data.toList.length := by rw [← size_list]; exact hi
  rw [XW.bt, dif_pos hi, List.getD_eq_getElem?_getD, bI, List.getElem?_map, List.getElem?_eq_getElem hl]
  rfl
theorem headD_getD (l : List Int) : l.getD 0 0 = l.headD 0 := by cases l <;> rfl
noncomputable def letF  : Face := ⟨84, [.v (.int .u8)], fun c => none,
  [⟨false, [.v .bool], fun c => letC c, fun c => none⟩]⟩
noncomputable def letF.g  (c : Int) : Prop := GoodFA Tryd.prog (cfOf []) [] 1000 letF c
noncomputable def letF.T (c : Int) : Prop := ((True ∧ decide (c ≥ (97 : Int)) = true) ∧ decide (c ≤ (122 : Int)) = true → True ∧ true = letC c) ∧ (((True ∧ decide (c ≥ (97 : Int)) = true) ∧ decide (c ≤ (122 : Int)) = false) ∧ decide (c ≥ (65 : Int)) = true → True ∧ decide (c ≤ (90 : Int)) = letC c) ∧ (((True ∧ decide (c ≥ (97 : Int)) = true) ∧ decide (c ≤ (122 : Int)) = false) ∧ decide (c ≥ (65 : Int)) = false → True ∧ false = letC c) ∧ ((True ∧ decide (c ≥ (97 : Int)) = false) ∧ decide (c ≥ (65 : Int)) = true → True ∧ decide (c ≤ (90 : Int)) = letC c) ∧ ((True ∧ decide (c ≥ (97 : Int)) = false) ∧ decide (c ≥ (65 : Int)) = false → True ∧ false = letC c) ∧ (True)
theorem letF.eq  (c : Int) : letF.g  c = letF.T  c := by kernel_rfl
theorem letF.ok  (c : Int) : letF.T  c := by
  rw [letF.T, letC]
  ((repeat' (first | exact trivial | apply And.intro)) <;> (intro hw; (try (simp only [zP, reduceCtorEq] at hw)); (try first | (exfalso; omega) | exact ⟨trivial, rfl⟩ | exact (hw hx).elim | exact (hw.2 hx).elim)))
  all_goals first
    | (refine ⟨trivial, ?_⟩; rw [Bool.eq_iff_iff]; simp only [Bool.or_eq_true, decide_eq_true_eq, true_iff, false_iff, Bool.false_eq_true]; omega)
    | trace_state
theorem letF.fn   : FnOk Tryd.prog letF := fn_evalH (l := []) (lf := 1000) (fun _ => cfOf_ok (fns_nil _)) _ (lps_nil _ _) (by kernel_rfl) (fun c hx => Hid.of (letF.eq  c) (letF.ok  c))
noncomputable def digF  : Face := ⟨85, [.v (.int .u8)], fun c => none,
  [⟨false, [.v .bool], fun c => digC c, fun c => none⟩]⟩
noncomputable def digF.g  (c : Int) : Prop := GoodFA Tryd.prog (cfOf []) [] 1000 digF c
noncomputable def digF.T (c : Int) : Prop := (True ∧ decide (c ≥ (48 : Int)) = true → True ∧ decide (c ≤ (57 : Int)) = digC c) ∧ (True ∧ decide (c ≥ (48 : Int)) = false → True ∧ false = digC c) ∧ (True)
theorem digF.eq  (c : Int) : digF.g  c = digF.T  c := by kernel_rfl
theorem digF.ok  (c : Int) : digF.T  c := by
  rw [digF.T, digC]
  ((repeat' (first | exact trivial | apply And.intro)) <;> (intro hw; (try (simp only [zP, reduceCtorEq] at hw)); (try first | (exfalso; omega) | exact ⟨trivial, rfl⟩ | exact (hw hx).elim | exact (hw.2 hx).elim)))
  all_goals first
    | (refine ⟨trivial, ?_⟩; rw [Bool.eq_iff_iff]; simp only [Bool.or_eq_true, decide_eq_true_eq, true_iff, false_iff, Bool.false_eq_true]; omega)
    | trace_state
theorem digF.fn   : FnOk Tryd.prog digF := fn_evalH (l := []) (lf := 1000) (fun _ => cfOf_ok (fns_nil _)) _ (lps_nil _ _) (by kernel_rfl) (fun c hx => Hid.of (digF.eq  c) (digF.ok  c))
noncomputable def rnL  : LFace := ⟨[0, 3], [.v .str, .v (.int .i64)], fun (s, i) => some (0 ≤ i ∧ i ≤ s.size ∧ s.size ≤ 4000000),
  [⟨.normal, [], [], fun (s, i) => (), fun (s, i) => some (((bI s).drop i.toNat).all alnC = true)⟩,
   ⟨.ret, [2], [.v .bool], fun (s, i) => false, fun (s, i) => some (((bI s).drop i.toNat).all alnC = false)⟩]⟩
noncomputable def rnL.mu  : dens rnL.sh → Nat := fun (s, i) => ((s.size : Int) - i).toNat
noncomputable def rnL.g  (s : ByteArray) (i : Int) : Prop := GoodLA Tryd.prog (cfOf [letF, digF]) [] 1000 65 0 rnL rnL.mu (s, i)
noncomputable def rnL.q0 (s : ByteArray) (i : Int) : Prop := (True ∧ decide (i < (↑s.size : Int)) = true) ∧ (0 : Int) ≤ i ∧ i < (↑s.size : Int)
noncomputable def rnL.q1 (s : ByteArray) (i : Int) : Prop := (List.drop (IntKind.i64.wrap (i + (1 : Int))).toNat (bI s)).all alnC = false → (List.drop i.toNat (bI s)).all alnC = false ∧ false = false
noncomputable def rnL.q2 (s : ByteArray) (i : Int) : Prop := (0 : Int) ≤ IntKind.i64.wrap (i + (1 : Int)) ∧ IntKind.i64.wrap (i + (1 : Int)) ≤ (↑s.size : Int) ∧ s.size ≤ (4000000 : Nat)
noncomputable def rnL.q3 (s : ByteArray) (i : Int) : Prop := (List.drop (IntKind.i64.wrap (i + (1 : Int))).toNat (bI s)).all alnC = true → (List.drop i.toNat (bI s)).all alnC = true ∧ () = ()
noncomputable def rnL.T (s : ByteArray) (i : Int) : Prop := ((((rnL.q0 s i) ∧ (!letC (XW.bt s i)) = true) ∧ (0 : Int) ≤ i ∧ i < (↑s.size : Int)) ∧ (!digC (XW.bt s i)) = true → (List.drop i.toNat (bI s)).all alnC = false ∧ false = false) ∧ ((((rnL.q0 s i) ∧ (!letC (XW.bt s i)) = true) ∧ (0 : Int) ≤ i ∧ i < (↑s.size : Int)) ∧ (!digC (XW.bt s i)) = false → (rnL.q2 s i) ∧ rnL.mu (s, IntKind.i64.wrap (i + (1 : Int))) < rnL.mu (s, i) ∧ (rnL.q3 s i) ∧ (rnL.q1 s i) ∧ True) ∧ (((rnL.q0 s i) ∧ (!letC (XW.bt s i)) = true) ∧ ¬((0 : Int) ≤ i ∧ i < (↑s.size : Int)) → False) ∧ ((rnL.q0 s i) ∧ (!letC (XW.bt s i)) = false → (rnL.q2 s i) ∧ rnL.mu (s, IntKind.i64.wrap (i + (1 : Int))) < rnL.mu (s, i) ∧ (rnL.q3 s i) ∧ (rnL.q1 s i) ∧ True) ∧ ((True ∧ decide (i < (↑s.size : Int)) = true) ∧ ¬((0 : Int) ≤ i ∧ i < (↑s.size : Int)) → False) ∧ (True ∧ decide (i < (↑s.size : Int)) = false → (List.drop i.toNat (bI s)).all alnC = true ∧ () = ()) ∧ (True)
theorem rnL.eq  (s : ByteArray) (i : Int) : rnL.g  s i = rnL.T  s i := by kernel_rfl
theorem rnL.ok  (s : ByteArray) (i : Int) (hx : 0 ≤ i ∧ i ≤ s.size ∧ s.size ≤ 4000000) : rnL.T  s i := by
  obtain ⟨h0, h1, h2⟩ := hx
  delta rnL.T rnL.q0 rnL.q1 rnL.q2 rnL.q3
  rw [wrapI64 (x := i + 1) (by omega) (by omega)]
  by_cases hi : i < (s.size : Int)
  · have hd : (bI s).drop i.toNat = XW.bt s i :: (bI s).drop (i + 1).toNat := by
      rw [bt_bI h0 hi]; exact drop_int 0 h0 (by rw [bI_len]; exact hi)
    rw [hd, List.all_cons]
    generalize XW.bt s i = c
    have ha : alnC c = (letC c || digC c) := rfl
    rw [ha]
    ((repeat' (first | exact trivial | apply And.intro)) <;> (intro hw; (try (simp only [zP, reduceCtorEq] at hw)); (try first | (exfalso; omega) | exact ⟨trivial, rfl⟩ | exact (hw hx).elim | exact (hw.2 hx).elim)))
    all_goals first
      | (exfalso; omega)
      | (rw [hw.1.1.2, hw.2]; exact ⟨rfl, rfl⟩)
      | (rw [show (letC c || digC c) = true by (have := hw.2; simp [this]), Bool.true_and]; exact ⟨⟨by omega, by omega, h2⟩, by simp only [rnL.mu]; omega, fun h => ⟨h, rfl⟩, fun h => ⟨h, rfl⟩, trivial⟩)
      | trace_state
  · rw [drop_int_end (by rw [bI_len]; exact hi)]
    ((repeat' (first | exact trivial | apply And.intro)) <;> (intro hw; (try (simp only [zP, reduceCtorEq] at hw)); (try first | (exfalso; omega) | exact ⟨trivial, rfl⟩ | exact (hw hx).elim | exact (hw.2 hx).elim)))
    all_goals first
      | (exfalso; omega)
      | exact ⟨rfl, rfl⟩
      | trace_state
theorem rnL.lp   : LpAt Tryd.prog 65 0 rnL := lp_evalH (l := []) (lf := 1000) (fun _ => cfOf_ok (fns_cons letF.fn (fns_cons digF.fn (fns_nil _)))) (lps_nil _ _) (by kernel_rfl) _ (rnL.mu ) (fun ⟨s, i⟩ hx => Hid.of (rnL.eq  s i) (rnL.ok  s i hx))
noncomputable def rnF  : Face := ⟨65, [.v .str], fun s => some (s.size ≤ 4000000),
  [⟨false, [.v .bool], fun s => nameL (bI s), fun s => none⟩]⟩
noncomputable def rnF.g  (s : ByteArray) : Prop := GoodFA Tryd.prog (cfOf [letF]) [(0, rnL)] 1000 rnF s
noncomputable def rnF.q0 (s : ByteArray) : Prop := ((True ∧ decide ((↑s.size : Int) < (1 : Int)) = false) ∧ decide ((↑s.size : Int) > (8 : Int)) = false) ∧ (0 : Int) ≤ (0 : Int) ∧ (0 : Int) < (↑s.size : Int)
noncomputable def rnF.q1 (s : ByteArray) : Prop := ((rnF.q0 s) ∧ (!letC (XW.bt s (0 : Int))) = false) ∧ (0 : Int) ≤ (0 : Int) ∧ (0 : Int) ≤ (↑s.size : Int) ∧ s.size ≤ (4000000 : Nat)
noncomputable def rnF.T (s : ByteArray) : Prop := (True ∧ decide ((↑s.size : Int) < (1 : Int)) = true → True ∧ false = nameL (bI s)) ∧ ((True ∧ decide ((↑s.size : Int) < (1 : Int)) = false) ∧ decide ((↑s.size : Int) > (8 : Int)) = true → True ∧ false = nameL (bI s)) ∧ ((rnF.q0 s) ∧ (!letC (XW.bt s (0 : Int))) = true → True ∧ false = nameL (bI s)) ∧ (((rnF.q0 s) ∧ (!letC (XW.bt s (0 : Int))) = false) ∧ ¬((0 : Int) ≤ (0 : Int) ∧ (0 : Int) ≤ (↑s.size : Int) ∧ s.size ≤ (4000000 : Nat)) → False) ∧ ((rnF.q1 s) ∧ (List.drop (Int.toNat (0 : Int)) (bI s)).all alnC = true → True ∧ true = nameL (bI s)) ∧ ((rnF.q1 s) ∧ (List.drop (Int.toNat (0 : Int)) (bI s)).all alnC = false → True ∧ false = nameL (bI s)) ∧ (((True ∧ decide ((↑s.size : Int) < (1 : Int)) = false) ∧ decide ((↑s.size : Int) > (8 : Int)) = false) ∧ ¬((0 : Int) ≤ (0 : Int) ∧ (0 : Int) < (↑s.size : Int)) → False) ∧ (True)
theorem rnF.eq  (s : ByteArray) : rnF.g  s = rnF.T  s := by kernel_rfl
theorem rnF.ok  (s : ByteArray) (hx : s.size ≤ 4000000) : rnF.T  s := by
  have hl := bI_len s
  delta rnF.T rnF.q0 rnF.q1
  simp only [show Int.toNat 0 = 0 from rfl, List.drop_zero]
  by_cases h1 : 1 ≤ s.size
  · rw [bt_bI (Int.le_refl 0) (by omega), show (bI s).getD (Int.toNat 0) 0 = (bI s).headD 0 from headD_getD _]
    unfold nameL
    rw [hl]
    ((repeat' (first | exact trivial | apply And.intro)) <;> (intro hw; (try (simp only [zP, reduceCtorEq] at hw)); (try first | (exfalso; omega) | exact ⟨trivial, rfl⟩ | exact (hw hx).elim | exact (hw.2 hx).elim)))
    all_goals first
      | (exfalso; omega)
      | (refine ⟨trivial, ?_⟩; rw [decide_eq_true h1, Bool.true_and, decide_eq_false (by omega)]; rfl)
      | (refine ⟨trivial, ?_⟩; rw [hw.2, Bool.false_and, Bool.and_false, Bool.and_false])
      | (refine ⟨trivial, ?_⟩; rw [hw.2, Bool.and_false, Bool.and_false, Bool.and_false])
      | (refine ⟨trivial, ?_⟩; rw [hw.2, hw.1.1.2, decide_eq_true h1, decide_eq_true (by omega)]; rfl)
      | trace_state
  · have : nameL (bI s) = false := nameL_no (fun h => h1 h.1)
    rw [this]
    ((repeat' (first | exact trivial | apply And.intro)) <;> (intro hw; (try (simp only [zP, reduceCtorEq] at hw)); (try first | (exfalso; omega) | exact ⟨trivial, rfl⟩ | exact (hw hx).elim | exact (hw.2 hx).elim)))
    all_goals first
      | (exfalso; omega)
      | exact ⟨trivial, rfl⟩
      | trace_state
theorem rnF.fn   : FnOk Tryd.prog rnF := fn_evalH (l := [(0, rnL)]) (lf := 1000) (fun _ => cfOf_ok (fns_cons letF.fn (fns_nil _))) _ (lps_cons (rnL.lp) (lps_nil _ _)) (by kernel_rfl) (fun s hx => Hid.of (rnF.eq  s) (rnF.ok  s hx))
end Go.Proofs.YtajnboigikdefaaDoor.D
