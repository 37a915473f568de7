/- Texts that the proof of a law rests on, put together: part 45. -/
import Derived.Test.YtdmljeaigjfenaaMg44
import Derived.KernelRfl
import Derived.Test.YtdmljeaigjfenaaProg
namespace Go.Proofs.Ytdmljeaigjfenaa.D
open Go Go.EV Go.TL Go.Proofs
set_option linter.unusedVariables false
set_option maxRecDepth 100000
def gr0 : Gr := ([sb [97]], [sb [83]], [(100, [1])])
def gr1 : Gr := ([sb [97], sb [98]], [sb [83]], [(100, [1, 100]), (100, [2])])
def gr2 : Gr := ([sb [97], sb [98]], [sb [83]], [(100, [100, 1]), (100, [2])])
def gr3 : Gr := ([sb [97], sb [98]], [sb [83]], [(100, [1, 100, 2]), (100, [])])
def gr4 : Gr := ([sb [97], sb [98]], [sb [83], sb [65]], [(100, [101, 101]), (101, [1, 101]), (101, [2])])
def gr5 : Gr := ([sb [112], sb [109], sb [105], sb [108], sb [114]], [sb [69], sb [84], sb [70]], [(100, [100, 1, 101]), (100, [101]), (101, [101, 2, 102]), (101, [102]), (102, [3]), (102, [4, 100, 5])])
def gr6 : Gr := ([sb [97], sb [98], sb [99], sb [100]], [sb [83], sb [65]], [(100, [101, 1]), (100, [2, 101, 3]), (100, [4, 3]), (100, [2, 4, 1]), (101, [4])])
def gr7 : Gr := ([sb [97], sb [100], sb [98], sb [101], sb [99]], [sb [83], sb [65], sb [66]], [(100, [1, 101, 2]), (100, [3, 102, 2]), (100, [1, 102, 4]), (100, [3, 101, 4]), (101, [5]), (102, [5])])
def gr8 : Gr := ([sb [97], sb [98]], [sb [83], sb [65], sb [66]], [(100, [101, 102]), (101, [1, 101]), (101, []), (102, [2, 102]), (102, [])])
def gr9 : Gr := ([sb [113], sb [109], sb [105]], [sb [83], sb [76], sb [82]], [(100, [101, 1, 102]), (100, [102]), (101, [2, 102]), (101, [3]), (102, [101])])
def gr10 : Gr := ([sb [97], sb [98]], [sb [83], sb [85]], [(100, [1, 101]), (100, [2]), (101, [101, 1])])
def gr11 : Gr := ([sb [97], sb [98]], [sb [83], sb [84], sb [86]], [(100, [1, 101]), (100, [2]), (101, [2, 100]), (101, [1]), (102, [1, 1])])
def gr12 : Gr := ([sb [97]], [sb [83], sb [84]], [(100, []), (101, [1])])
def gr13 : Gr := ([sb [98], sb [97]], [sb [83], sb [65], sb [66]], [(100, [101, 1]), (101, [2]), (101, [102]), (102, [])])
def gr14 : Gr := ([sb [108], sb [114]], [sb [83]], [(100, [1, 100, 2, 100]), (100, [])])
def gr15 : Gr := ([sb [97], sb [98], sb [99], sb [100]], [sb [83], sb [65], sb [66]], [(100, [1, 101]), (101, [2, 102]), (101, [3]), (102, [1, 101]), (102, [4, 100])])
def gr16 : Gr := ([sb [99], sb [97], sb [98]], [sb [83], sb [65], sb [66]], [(100, [101, 1]), (101, [102, 2]), (101, [2, 3]), (102, [2]), (102, [3])])
def gr17 : Gr := ([sb [97]], [sb [83]], [(100, [100, 100]), (100, [1])])
def gr18 : Gr := ([sb [97], sb [98]], [sb [83]], [(100, [1, 100]), (100, [100, 2]), (100, [1])])
def gr19 : Gr := ([sb [105], sb [101], sb [97]], [sb [83]], [(100, [1, 100]), (100, [1, 100, 2, 100]), (100, [3])])
def gr20 : Gr := ([sb [97]], [sb [83], sb [65], sb [66]], [(100, [101]), (100, [102]), (101, [1]), (102, [1])])
def gr21 : Gr := ([sb [112], sb [109], sb [105]], [sb [69]], [(100, [100, 1, 100]), (100, [100, 2, 100]), (100, [3])])
def gr22 : Gr := ([sb [97]], [sb [83]], [(100, [100]), (100, [1])])
def gr23 : Gr := ([sb [97]], [sb [83], sb [65]], [(100, [101, 100]), (100, [1]), (101, [])])
def gr24 : Gr := ([sb [99], sb [97]], [sb [83], sb [65], sb [66]], [(100, [101, 102, 1]), (101, [2]), (101, []), (102, [2]), (102, [])])
def gr25 : Gr := ([sb [97]], [sb [83]], [(100, [100, 1]), (100, [1, 100]), (100, [1])])
def gr26 : Gr := ([sb [97], sb [98]], [sb [83], sb [65], sb [66]], [(100, [101, 1]), (100, [102, 1]), (101, [2]), (102, [2])])
def grL : List Gr := [gr0, gr1, gr2, gr3, gr4, gr5, gr6, gr7, gr8, gr9, gr10, gr11, gr12, gr13, gr14, gr15, gr16, gr17, gr18, gr19, gr20, gr21, gr22, gr23, gr24, gr25, gr26]
def grS (k : Nat) : Gr := grL.getD k ([], [], [])
noncomputable def wakes : Face := ⟨20, [], fun _ => none, [⟨false, [.v .bool], fun _ => true, fun _ => none⟩]⟩
theorem wakes.fn : FnOk Try.prog wakes := fn_at fun s _ => hok_at E.hTexts48_ok wakes () _ [⟨.bool, true⟩] (List.mem_singleton_self _) (by kernel_rfl) (by kernel_rfl) (by kernel_rfl) (by kernel_rfl) (by kernel_rfl) (by kernel_rfl) (by kernel_rfl) (by kernel_rfl) (outIs_of rfl rfl (dec_cons (by kernel_rfl) (dec_nil _))) (by kernel_rfl)
end Go.Proofs.Ytdmljeaigjfenaa.D

namespace Go.Proofs.Ytdmljeaigjfenaa.D
open Go Go.EV Go.TL Go.Proofs
set_option linter.unusedVariables false
set_option linter.unusedSimpArgs false
set_option maxRecDepth 100000
theorem puts1_len : ∀ (n : Nat) (i : Int) (g : Gr), (puts1 n i g).1 = g.1 ∧ (puts1 n i g).2.1 = g.2.1 ∧ (puts1 n i g).2.2.length ≤ g.2.2.length + n
  | 0, _, g => ⟨rfl, rfl, Nat.le_refl _⟩
  | n + 1, i, g => by
    obtain ⟨h1, h2, h3⟩ := puts1_len n (i + 1) (putS g (100 + i) [i])
    obtain ⟨p1, p2, p3⟩ := putS_len g (100 + i) [i]
    exact ⟨h1.trans p1, h2.trans p2, by rw [puts1]; omega⟩
noncomputable def any  : Face := ⟨27, [.v RAW], fun r => none,
  [⟨false, [.v GR], fun r => anyS r, fun r => none⟩]⟩
noncomputable def any.g  (r : Int × Int × Int × Int × List (List Int) × ByteArray) : Prop := GoodFA Try.prog (cfOf [within]) [(1000003, any.R3), (0, any.L0), (2, any.L2)] 1000 any r
noncomputable def any.T (r : Int × Int × Int × Int × List (List Int) × ByteArray) : Prop := (True ∧ ¬((0 : Int) < (3 : Int) ∧ (3 : Int) ≤ (9223372036854775807 : Int)) → False) ∧ ((True ∧ (0 : Int) < (3 : Int) ∧ (3 : Int) ≤ (9223372036854775807 : Int)) ∧ ¬((0 : Int) < (3 : Int) ∧ (3 : Int) ≤ (9223372036854775807 : Int)) → False) ∧ (((True ∧ (0 : Int) < (3 : Int) ∧ (3 : Int) ≤ (9223372036854775807 : Int)) ∧ (0 : Int) < (3 : Int) ∧ (3 : Int) ≤ (9223372036854775807 : Int)) ∧ ¬((0 : Int) ≤ IntKind.i64.wrap ((1 : Int) + r.snd.fst % (3 : Int)) ∧ IntKind.i64.wrap ((1 : Int) + r.snd.fst % (3 : Int)) ≤ (3 : Int) ∧ (0 : Int) ≤ IntKind.i64.wrap ((1 : Int) + r.snd.snd.fst % (3 : Int)) ∧ IntKind.i64.wrap ((1 : Int) + r.snd.snd.fst % (3 : Int)) ≤ (3 : Int)) →
  False) ∧ ((((((True ∧ (0 : Int) < (3 : Int) ∧ (3 : Int) ≤ (9223372036854775807 : Int)) ∧ (0 : Int) < (3 : Int) ∧ (3 : Int) ≤ (9223372036854775807 : Int)) ∧ (0 : Int) ≤ IntKind.i64.wrap ((1 : Int) + r.snd.fst % (3 : Int)) ∧ IntKind.i64.wrap ((1 : Int) + r.snd.fst % (3 : Int)) ≤ (3 : Int) ∧ (0 : Int) ≤ IntKind.i64.wrap ((1 : Int) + r.snd.snd.fst % (3 : Int)) ∧ IntKind.i64.wrap ((1 : Int) + r.snd.snd.fst % (3 : Int)) ≤ (3 : Int)) ∧ (List.take (IntKind.i64.wrap ((1 : Int) + r.snd.fst % (3 : Int))).toNat [bA, bB, bC]).length * (16 : Nat) ≤ (140737488355328 : Nat)) ∧ (List.take (IntKind.i64.wrap ((1 : Int) + r.snd.snd.fst % (3 : Int))).toNat [bS, bUA, bUB]).length * (16 : Nat) ≤ (140737488355328 : Nat)) ∧ ¬((0 : Int) ≤ (0 : Int) ∧ (0 : Int) ≤ IntKind.i64.wrap ((1 : Int) + r.snd.snd.fst % (3 : Int)) ∧ IntKind.i64.wrap ((1 : Int) + r.snd.snd.fst % (3 : Int)) ≤ (9 : Int) ∧ (1 : Nat) ≤ (List.take (IntKind.i64.wrap ((1 : Int) + r.snd.fst % (3 : Int))).toNat [bA, bB, bC]).length ∧ (List.take (IntKind.i64.wrap ((1 : Int) + r.snd.fst % (3 : Int))).toNat [bA, bB, bC]).length ≤ (99 : Nat) ∧ (List.take (IntKind.i64.wrap ((1 : Int) + r.snd.snd.fst % (3 : Int))).toNat [bS, bUA, bUB]).length ≤ (99 : Nat) ∧ (0 : Nat) ≤ Int.toNat (0 : Int)) →
  False) ∧ (((((((True ∧ (0 : Int) < (3 : Int) ∧ (3 : Int) ≤ (9223372036854775807 : Int)) ∧ (0 : Int) < (3 : Int) ∧ (3 : Int) ≤ (9223372036854775807 : Int)) ∧ (0 : Int) ≤ IntKind.i64.wrap ((1 : Int) + r.snd.fst % (3 : Int)) ∧ IntKind.i64.wrap ((1 : Int) + r.snd.fst % (3 : Int)) ≤ (3 : Int) ∧ (0 : Int) ≤ IntKind.i64.wrap ((1 : Int) + r.snd.snd.fst % (3 : Int)) ∧ IntKind.i64.wrap ((1 : Int) + r.snd.snd.fst % (3 : Int)) ≤ (3 : Int)) ∧ (List.take (IntKind.i64.wrap ((1 : Int) + r.snd.fst % (3 : Int))).toNat [bA, bB, bC]).length * (16 : Nat) ≤ (140737488355328 : Nat)) ∧ (List.take (IntKind.i64.wrap ((1 : Int) + r.snd.snd.fst % (3 : Int))).toNat [bS, bUA, bUB]).length * (16 : Nat) ≤ (140737488355328 : Nat)) ∧ (0 : Int) ≤ (0 : Int) ∧ (0 : Int) ≤ IntKind.i64.wrap ((1 : Int) + r.snd.snd.fst % (3 : Int)) ∧ IntKind.i64.wrap ((1 : Int) + r.snd.snd.fst % (3 : Int)) ≤ (9 : Int) ∧ (1 : Nat) ≤ (List.take (IntKind.i64.wrap ((1 : Int) + r.snd.fst % (3 : Int))).toNat [bA, bB, bC]).length ∧ (List.take (IntKind.i64.wrap ((1 : Int) + r.snd.fst % (3 : Int))).toNat [bA, bB, bC]).length ≤ (99 : Nat) ∧ (List.take (IntKind.i64.wrap ((1 : Int) + r.snd.snd.fst % (3 : Int))).toNat [bS, bUA, bUB]).length ≤ (99 : Nat) ∧ (0 : Nat) ≤ Int.toNat (0 : Int)) ∧ ¬((0 : Int) ≤ (0 : Int) ∧ (0 : Int) ≤ (5 : Int) ∧ (1 : Int) ≤ IntKind.i64.wrap ((1 : Int) + r.snd.snd.fst % (3 : Int)) ∧ IntKind.i64.wrap ((1 : Int) + r.snd.snd.fst % (3 : Int)) ≤ (9 : Int) ∧ (1 : Nat) ≤ List.length (puts1 (IntKind.i64.wrap ((1 : Int) + r.snd.snd.fst % (3 : Int)) - (0 : Int)).toNat (0 : Int) (List.take (IntKind.i64.wrap ((1 : Int) + r.snd.fst % (3 : Int))).toNat [bA, bB, bC], List.take (IntKind.i64.wrap ((1 : Int) + r.snd.snd.fst % (3 : Int))).toNat [bS, bUA, bUB], ([] : List (Int × List Int)))).fst ∧ List.length (puts1 (IntKind.i64.wrap ((1 : Int) + r.snd.snd.fst % (3 : Int)) - (0 : Int)).toNat (0 : Int) (List.take (IntKind.i64.wrap ((1 : Int) + r.snd.fst % (3 : Int))).toNat [bA, bB, bC], List.take (IntKind.i64.wrap ((1 : Int) + r.snd.snd.fst % (3 : Int))).toNat [bS, bUA, bUB], ([] : List (Int × List Int)))).fst ≤ (99 : Nat) ∧ List.length (puts1 (IntKind.i64.wrap ((1 : Int) + r.snd.snd.fst % (3 : Int)) - (0 : Int)).toNat (0 : Int) (List.take (IntKind.i64.wrap ((1 : Int) + r.snd.fst % (3 : Int))).toNat [bA, bB, bC], List.take (IntKind.i64.wrap ((1 : Int) + r.snd.snd.fst % (3 : Int))).toNat [bS, bUA, bUB], ([] : List (Int × List Int)))).snd.fst ≤ (99 : Nat) ∧ List.length (puts1 (IntKind.i64.wrap ((1 : Int) + r.snd.snd.fst % (3 : Int)) - (0 : Int)).toNat (0 : Int) (List.take (IntKind.i64.wrap ((1 : Int) + r.snd.fst % (3 : Int))).toNat [bA, bB, bC], List.take (IntKind.i64.wrap ((1 : Int) + r.snd.snd.fst % (3 : Int))).toNat [bS, bUA, bUB], ([] : List (Int × List Int)))).snd.snd ≤ (20 : Nat) + Int.toNat (0 : Int)) →
  False) ∧ (((((((True ∧ (0 : Int) < (3 : Int) ∧ (3 : Int) ≤ (9223372036854775807 : Int)) ∧ (0 : Int) < (3 : Int) ∧ (3 : Int) ≤ (9223372036854775807 : Int)) ∧ (0 : Int) ≤ IntKind.i64.wrap ((1 : Int) + r.snd.fst % (3 : Int)) ∧ IntKind.i64.wrap ((1 : Int) + r.snd.fst % (3 : Int)) ≤ (3 : Int) ∧ (0 : Int) ≤ IntKind.i64.wrap ((1 : Int) + r.snd.snd.fst % (3 : Int)) ∧ IntKind.i64.wrap ((1 : Int) + r.snd.snd.fst % (3 : Int)) ≤ (3 : Int)) ∧ (List.take (IntKind.i64.wrap ((1 : Int) + r.snd.fst % (3 : Int))).toNat [bA, bB, bC]).length * (16 : Nat) ≤ (140737488355328 : Nat)) ∧ (List.take (IntKind.i64.wrap ((1 : Int) + r.snd.snd.fst % (3 : Int))).toNat [bS, bUA, bUB]).length * (16 : Nat) ≤ (140737488355328 : Nat)) ∧ (0 : Int) ≤ (0 : Int) ∧ (0 : Int) ≤ IntKind.i64.wrap ((1 : Int) + r.snd.snd.fst % (3 : Int)) ∧ IntKind.i64.wrap ((1 : Int) + r.snd.snd.fst % (3 : Int)) ≤ (9 : Int) ∧ (1 : Nat) ≤ (List.take (IntKind.i64.wrap ((1 : Int) + r.snd.fst % (3 : Int))).toNat [bA, bB, bC]).length ∧ (List.take (IntKind.i64.wrap ((1 : Int) + r.snd.fst % (3 : Int))).toNat [bA, bB, bC]).length ≤ (99 : Nat) ∧ (List.take (IntKind.i64.wrap ((1 : Int) + r.snd.snd.fst % (3 : Int))).toNat [bS, bUA, bUB]).length ≤ (99 : Nat) ∧ (0 : Nat) ≤ Int.toNat (0 : Int)) ∧ (0 : Int) ≤ (0 : Int) ∧ (0 : Int) ≤ (5 : Int) ∧ (1 : Int) ≤ IntKind.i64.wrap ((1 : Int) + r.snd.snd.fst % (3 : Int)) ∧ IntKind.i64.wrap ((1 : Int) + r.snd.snd.fst % (3 : Int)) ≤ (9 : Int) ∧ (1 : Nat) ≤ List.length (puts1 (IntKind.i64.wrap ((1 : Int) + r.snd.snd.fst % (3 : Int)) - (0 : Int)).toNat (0 : Int) (List.take (IntKind.i64.wrap ((1 : Int) + r.snd.fst % (3 : Int))).toNat [bA, bB, bC], List.take (IntKind.i64.wrap ((1 : Int) + r.snd.snd.fst % (3 : Int))).toNat [bS, bUA, bUB], ([] : List (Int × List Int)))).fst ∧ List.length (puts1 (IntKind.i64.wrap ((1 : Int) + r.snd.snd.fst % (3 : Int)) - (0 : Int)).toNat (0 : Int) (List.take (IntKind.i64.wrap ((1 : Int) + r.snd.fst % (3 : Int))).toNat [bA, bB, bC], List.take (IntKind.i64.wrap ((1 : Int) + r.snd.snd.fst % (3 : Int))).toNat [bS, bUA, bUB], ([] : List (Int × List Int)))).fst ≤ (99 : Nat) ∧ List.length (puts1 (IntKind.i64.wrap ((1 : Int) + r.snd.snd.fst % (3 : Int)) - (0 : Int)).toNat (0 : Int) (List.take (IntKind.i64.wrap ((1 : Int) + r.snd.fst % (3 : Int))).toNat [bA, bB, bC], List.take (IntKind.i64.wrap ((1 : Int) + r.snd.snd.fst % (3 : Int))).toNat [bS, bUA, bUB], ([] : List (Int × List Int)))).snd.fst ≤ (99 : Nat) ∧ List.length (puts1 (IntKind.i64.wrap ((1 : Int) + r.snd.snd.fst % (3 : Int)) - (0 : Int)).toNat (0 : Int) (List.take (IntKind.i64.wrap ((1 : Int) + r.snd.fst % (3 : Int))).toNat [bA, bB, bC], List.take (IntKind.i64.wrap ((1 : Int) + r.snd.snd.fst % (3 : Int))).toNat [bS, bUA, bUB], ([] : List (Int × List Int)))).snd.snd ≤ (20 : Nat) + Int.toNat (0 : Int) →
  True ∧ puts2 (IntKind.i64.wrap ((1 : Int) + r.snd.snd.fst % (3 : Int))) (0 : Int) (puts1 (IntKind.i64.wrap ((1 : Int) + r.snd.snd.fst % (3 : Int)) - (0 : Int)).toNat (0 : Int) (List.take (IntKind.i64.wrap ((1 : Int) + r.snd.fst % (3 : Int))).toNat [bA, bB, bC], List.take (IntKind.i64.wrap ((1 : Int) + r.snd.snd.fst % (3 : Int))).toNat [bS, bUA, bUB], ([] : List (Int × List Int)))) (List.drop (Int.toNat (0 : Int)) (List.take (5 : Nat) r.snd.snd.snd.snd.fst)) = anyS r) ∧ (((((True ∧ (0 : Int) < (3 : Int) ∧ (3 : Int) ≤ (9223372036854775807 : Int)) ∧ (0 : Int) < (3 : Int) ∧ (3 : Int) ≤ (9223372036854775807 : Int)) ∧ (0 : Int) ≤ IntKind.i64.wrap ((1 : Int) + r.snd.fst % (3 : Int)) ∧ IntKind.i64.wrap ((1 : Int) + r.snd.fst % (3 : Int)) ≤ (3 : Int) ∧ (0 : Int) ≤ IntKind.i64.wrap ((1 : Int) + r.snd.snd.fst % (3 : Int)) ∧ IntKind.i64.wrap ((1 : Int) + r.snd.snd.fst % (3 : Int)) ≤ (3 : Int)) ∧ (List.take (IntKind.i64.wrap ((1 : Int) + r.snd.fst % (3 : Int))).toNat [bA, bB, bC]).length * (16 : Nat) ≤ (140737488355328 : Nat)) ∧ ¬(List.take (IntKind.i64.wrap ((1 : Int) + r.snd.snd.fst % (3 : Int))).toNat [bS, bUA, bUB]).length * (16 : Nat) ≤ (140737488355328 : Nat) →
  False) ∧ ((((True ∧ (0 : Int) < (3 : Int) ∧ (3 : Int) ≤ (9223372036854775807 : Int)) ∧ (0 : Int) < (3 : Int) ∧ (3 : Int) ≤ (9223372036854775807 : Int)) ∧ (0 : Int) ≤ IntKind.i64.wrap ((1 : Int) + r.snd.fst % (3 : Int)) ∧ IntKind.i64.wrap ((1 : Int) + r.snd.fst % (3 : Int)) ≤ (3 : Int) ∧ (0 : Int) ≤ IntKind.i64.wrap ((1 : Int) + r.snd.snd.fst % (3 : Int)) ∧ IntKind.i64.wrap ((1 : Int) + r.snd.snd.fst % (3 : Int)) ≤ (3 : Int)) ∧ ¬(List.take (IntKind.i64.wrap ((1 : Int) + r.snd.fst % (3 : Int))).toNat [bA, bB, bC]).length * (16 : Nat) ≤ (140737488355328 : Nat) →
  False) ∧ (True)
theorem any.eq  (r : Int × Int × Int × Int × List (List Int) × ByteArray) : any.g  r = any.T  r := by kernel_rfl
theorem any.ok  (r : Int × Int × Int × Int × List (List Int) × ByteArray) : any.T  r := by
  have e1 := Int.emod_nonneg r.2.1 (show (3 : Int) ≠ 0 by omega)
  have e2 := Int.emod_lt_of_pos r.2.1 (show (0 : Int) < 3 by omega)
  have e3 := Int.emod_nonneg r.2.2.1 (show (3 : Int) ≠ 0 by omega)
  have e4 := Int.emod_lt_of_pos r.2.2.1 (show (0 : Int) < 3 by omega)
  rw [any.T, wrapI64 (x := 1 + r.2.1 % 3) (by omega) (by omega), wrapI64 (x := 1 + r.2.2.1 % 3) (by omega) (by omega)]
  simp only [Int.sub_zero, show Int.toNat 0 = 0 from rfl, List.drop_zero]
  rw [anyS]
  have hT : ([bA, bB, bC].take (1 + r.2.1 % 3).toNat).length = (1 + r.2.1 % 3).toNat := by rw [List.length_take]; show min _ 3 = _; omega
  have hN : ([bS, bUA, bUB].take (1 + r.2.2.1 % 3).toNat).length = (1 + r.2.2.1 % 3).toNat := by rw [List.length_take]; show min _ 3 = _; omega
  obtain ⟨p1, p2, p3⟩ := puts1_len (1 + r.2.2.1 % 3).toNat 0 ([bA, bB, bC].take (1 + r.2.1 % 3).toNat, [bS, bUA, bUB].take (1 + r.2.2.1 % 3).toNat, [])
  rw [p1, p2]
  generalize puts1 (1 + r.2.2.1 % 3).toNat 0 ([bA, bB, bC].take (1 + r.2.1 % 3).toNat, [bS, bUA, bUB].take (1 + r.2.2.1 % 3).toNat, []) = g at *
  simp only [hT, hN, List.length_nil] at *
  ((repeat' (first | exact trivial | apply And.intro)) <;> (intro hw; (try (simp only [true_and, and_true, decide_eq_true_eq, decide_eq_false_iff_not, beq_iff_eq, bne_iff_ne, beq_eq_false_iff_ne, bne_eq_false_iff_eq, ne_eq, Bool.not_eq_true, Bool.not_eq_false, not_true_eq_false, not_false_eq_true, Bool.not_eq_eq_eq_not, Bool.not_true, Bool.not_false, forall_const, imp_self, Bool.true_eq_false, Bool.false_eq_true, reduceCtorEq] at hw)); (try first | (exfalso; omega) | exact ⟨trivial, rfl⟩ | exact (hw hx).elim | exact (hw.2 hx).elim)))
  exact ⟨trivial, trivial⟩
theorem any.fn   : FnOk Try.prog any := fn_eval (l := [(1000003, any.R3), (0, any.L0), (2, any.L2)]) (lf := 1000) (fun _ => cfOf_ok (fns_cons within.fn (fns_nil _))) _ (lps_cons (any.R3.lp) (lps_cons (any.L0.lp) (lps_cons (any.L2.lp) (lps_nil _ _)))) (by kernel_rfl) (fun r hx => (any.eq  r).mpr (any.ok  r))
end Go.Proofs.Ytdmljeaigjfenaa.D

namespace Go.Proofs.Ytdmljeaigjfenaa.D
open Go Go.EV Go.TL Go.Proofs
set_option linter.unusedVariables false
set_option linter.unusedSimpArgs false
set_option maxRecDepth 100000
def gramS (r : Raw) : Gr := if r.1 % 5 = 0 ∨ r.1 % 5 = 1 then grS (r.2.1 % 17).toNat else if r.1 % 5 = 2 then grS (17 + (r.2.1 % 10).toNat) else anyS r
noncomputable def grammar0  : Face := ⟨11, [.v RAW], fun r => some (r.2.2.2.1 = 0),
  [⟨false, [.v GR], fun r => gramS r, fun r => none⟩]⟩
noncomputable def grammar0.T (r : Int × Int × Int × Int × List (List Int) × ByteArray) : Prop := (True ∧ ¬((0 : Int) < (5 : Int) ∧ (5 : Int) ≤ (9223372036854775807 : Int)) → False) ∧ ((((((True ∧ (0 : Int) < (5 : Int) ∧ (5 : Int) ≤ (9223372036854775807 : Int)) ∧ (r.fst % (5 : Int) == (0 : Int)) = true) ∧ List.length (grS (r.snd.fst % (17 : Int)).toNat).snd.snd ≤ (9223372036854775807 : Nat)) ∧ decide ((↑(List.length (grS (r.snd.fst % (17 : Int)).toNat).snd.snd) : Int) > (0 : Int)) = true) ∧ List.length (grS (r.snd.fst % (17 : Int)).toNat).snd.snd ≤ (9223372036854775807 : Nat)) ∧ ¬((0 : Int) < (↑(List.length (grS (r.snd.fst % (17 : Int)).toNat).snd.snd) : Int) ∧ (↑(List.length (grS (r.snd.fst % (17 : Int)).toNat).snd.snd) : Int) ≤ (9223372036854775807 : Int)) →
  False) ∧ (((((((True ∧ (0 : Int) < (5 : Int) ∧ (5 : Int) ≤ (9223372036854775807 : Int)) ∧ (r.fst % (5 : Int) == (0 : Int)) = true) ∧ List.length (grS (r.snd.fst % (17 : Int)).toNat).snd.snd ≤ (9223372036854775807 : Nat)) ∧ decide ((↑(List.length (grS (r.snd.fst % (17 : Int)).toNat).snd.snd) : Int) > (0 : Int)) = true) ∧ List.length (grS (r.snd.fst % (17 : Int)).toNat).snd.snd ≤ (9223372036854775807 : Nat)) ∧ (0 : Int) < (↑(List.length (grS (r.snd.fst % (17 : Int)).toNat).snd.snd) : Int) ∧ (↑(List.length (grS (r.snd.fst % (17 : Int)).toNat).snd.snd) : Int) ≤ (9223372036854775807 : Int)) ∧ ¬((0 : Int) < (40 : Int) ∧ (40 : Int) ≤ (9223372036854775807 : Int)) →
  False) ∧ ((((((((True ∧ (0 : Int) < (5 : Int) ∧ (5 : Int) ≤ (9223372036854775807 : Int)) ∧ (r.fst % (5 : Int) == (0 : Int)) = true) ∧ List.length (grS (r.snd.fst % (17 : Int)).toNat).snd.snd ≤ (9223372036854775807 : Nat)) ∧ decide ((↑(List.length (grS (r.snd.fst % (17 : Int)).toNat).snd.snd) : Int) > (0 : Int)) = true) ∧ List.length (grS (r.snd.fst % (17 : Int)).toNat).snd.snd ≤ (9223372036854775807 : Nat)) ∧ (0 : Int) < (↑(List.length (grS (r.snd.fst % (17 : Int)).toNat).snd.snd) : Int) ∧ (↑(List.length (grS (r.snd.fst % (17 : Int)).toNat).snd.snd) : Int) ≤ (9223372036854775807 : Int)) ∧ (0 : Int) < (40 : Int) ∧ (40 : Int) ≤ (9223372036854775807 : Int)) ∧ decide (r.snd.snd.snd.fst % (40 : Int) < (28 : Int)) = true →
  True ∧ grS (r.snd.fst % (17 : Int)).toNat = gramS r) ∧ ((((((((((True ∧ (0 : Int) < (5 : Int) ∧ (5 : Int) ≤ (9223372036854775807 : Int)) ∧ (r.fst % (5 : Int) == (0 : Int)) = true) ∧ List.length (grS (r.snd.fst % (17 : Int)).toNat).snd.snd ≤ (9223372036854775807 : Nat)) ∧ decide ((↑(List.length (grS (r.snd.fst % (17 : Int)).toNat).snd.snd) : Int) > (0 : Int)) = true) ∧ List.length (grS (r.snd.fst % (17 : Int)).toNat).snd.snd ≤ (9223372036854775807 : Nat)) ∧ (0 : Int) < (↑(List.length (grS (r.snd.fst % (17 : Int)).toNat).snd.snd) : Int) ∧ (↑(List.length (grS (r.snd.fst % (17 : Int)).toNat).snd.snd) : Int) ≤ (9223372036854775807 : Int)) ∧ (0 : Int) < (40 : Int) ∧ (40 : Int) ≤ (9223372036854775807 : Int)) ∧ decide (r.snd.snd.snd.fst % (40 : Int) < (28 : Int)) = false) ∧ List.length (grS (r.snd.fst % (17 : Int)).toNat).snd.snd ≤ (9223372036854775807 : Nat)) ∧ ((↑(List.length (grS (r.snd.fst % (17 : Int)).toNat).snd.snd) : Int) == (0 : Int)) = true →
  True ∧ grS (r.snd.fst % (17 : Int)).toNat = gramS r) ∧ (((((((((((True ∧ (0 : Int) < (5 : Int) ∧ (5 : Int) ≤ (9223372036854775807 : Int)) ∧ (r.fst % (5 : Int) == (0 : Int)) = true) ∧ List.length (grS (r.snd.fst % (17 : Int)).toNat).snd.snd ≤ (9223372036854775807 : Nat)) ∧ decide ((↑(List.length (grS (r.snd.fst % (17 : Int)).toNat).snd.snd) : Int) > (0 : Int)) = true) ∧ List.length (grS (r.snd.fst % (17 : Int)).toNat).snd.snd ≤ (9223372036854775807 : Nat)) ∧ (0 : Int) < (↑(List.length (grS (r.snd.fst % (17 : Int)).toNat).snd.snd) : Int) ∧ (↑(List.length (grS (r.snd.fst % (17 : Int)).toNat).snd.snd) : Int) ≤ (9223372036854775807 : Int)) ∧ (0 : Int) < (40 : Int) ∧ (40 : Int) ≤ (9223372036854775807 : Int)) ∧ decide (r.snd.snd.snd.fst % (40 : Int) < (28 : Int)) = false) ∧ List.length (grS (r.snd.fst % (17 : Int)).toNat).snd.snd ≤ (9223372036854775807 : Nat)) ∧ ((↑(List.length (grS (r.snd.fst % (17 : Int)).toNat).snd.snd) : Int) == (0 : Int)) = false) ∧ ¬False →
  False) ∧ (((((True ∧ (0 : Int) < (5 : Int) ∧ (5 : Int) ≤ (9223372036854775807 : Int)) ∧ (r.fst % (5 : Int) == (0 : Int)) = true) ∧ List.length (grS (r.snd.fst % (17 : Int)).toNat).snd.snd ≤ (9223372036854775807 : Nat)) ∧ decide ((↑(List.length (grS (r.snd.fst % (17 : Int)).toNat).snd.snd) : Int) > (0 : Int)) = false) ∧ ¬((0 : Int) < (40 : Int) ∧ (40 : Int) ≤ (9223372036854775807 : Int)) →
  False) ∧ ((((((True ∧ (0 : Int) < (5 : Int) ∧ (5 : Int) ≤ (9223372036854775807 : Int)) ∧ (r.fst % (5 : Int) == (0 : Int)) = true) ∧ List.length (grS (r.snd.fst % (17 : Int)).toNat).snd.snd ≤ (9223372036854775807 : Nat)) ∧ decide ((↑(List.length (grS (r.snd.fst % (17 : Int)).toNat).snd.snd) : Int) > (0 : Int)) = false) ∧ (0 : Int) < (40 : Int) ∧ (40 : Int) ≤ (9223372036854775807 : Int)) ∧ decide (r.snd.snd.snd.fst % (40 : Int) < (28 : Int)) = true →
  True ∧ grS (r.snd.fst % (17 : Int)).toNat = gramS r) ∧ ((((((((True ∧ (0 : Int) < (5 : Int) ∧ (5 : Int) ≤ (9223372036854775807 : Int)) ∧ (r.fst % (5 : Int) == (0 : Int)) = true) ∧ List.length (grS (r.snd.fst % (17 : Int)).toNat).snd.snd ≤ (9223372036854775807 : Nat)) ∧ decide ((↑(List.length (grS (r.snd.fst % (17 : Int)).toNat).snd.snd) : Int) > (0 : Int)) = false) ∧ (0 : Int) < (40 : Int) ∧ (40 : Int) ≤ (9223372036854775807 : Int)) ∧ decide (r.snd.snd.snd.fst % (40 : Int) < (28 : Int)) = false) ∧ List.length (grS (r.snd.fst % (17 : Int)).toNat).snd.snd ≤ (9223372036854775807 : Nat)) ∧ ((↑(List.length (grS (r.snd.fst % (17 : Int)).toNat).snd.snd) : Int) == (0 : Int)) = true →
  True ∧ grS (r.snd.fst % (17 : Int)).toNat = gramS r) ∧ (((((((((True ∧ (0 : Int) < (5 : Int) ∧ (5 : Int) ≤ (9223372036854775807 : Int)) ∧ (r.fst % (5 : Int) == (0 : Int)) = true) ∧ List.length (grS (r.snd.fst % (17 : Int)).toNat).snd.snd ≤ (9223372036854775807 : Nat)) ∧ decide ((↑(List.length (grS (r.snd.fst % (17 : Int)).toNat).snd.snd) : Int) > (0 : Int)) = false) ∧ (0 : Int) < (40 : Int) ∧ (40 : Int) ≤ (9223372036854775807 : Int)) ∧ decide (r.snd.snd.snd.fst % (40 : Int) < (28 : Int)) = false) ∧ List.length (grS (r.snd.fst % (17 : Int)).toNat).snd.snd ≤ (9223372036854775807 : Nat)) ∧ ((↑(List.length (grS (r.snd.fst % (17 : Int)).toNat).snd.snd) : Int) == (0 : Int)) = false) ∧ ¬False →
  False) ∧ (((((((True ∧ (0 : Int) < (5 : Int) ∧ (5 : Int) ≤ (9223372036854775807 : Int)) ∧ (r.fst % (5 : Int) == (0 : Int)) = false) ∧ (r.fst % (5 : Int) == (1 : Int)) = true) ∧ List.length (grS (r.snd.fst % (17 : Int)).toNat).snd.snd ≤ (9223372036854775807 : Nat)) ∧ decide ((↑(List.length (grS (r.snd.fst % (17 : Int)).toNat).snd.snd) : Int) > (0 : Int)) = true) ∧ List.length (grS (r.snd.fst % (17 : Int)).toNat).snd.snd ≤ (9223372036854775807 : Nat)) ∧ ¬((0 : Int) < (↑(List.length (grS (r.snd.fst % (17 : Int)).toNat).snd.snd) : Int) ∧ (↑(List.length (grS (r.snd.fst % (17 : Int)).toNat).snd.snd) : Int) ≤ (9223372036854775807 : Int)) →
  False) ∧ ((((((((True ∧ (0 : Int) < (5 : Int) ∧ (5 : Int) ≤ (9223372036854775807 : Int)) ∧ (r.fst % (5 : Int) == (0 : Int)) = false) ∧ (r.fst % (5 : Int) == (1 : Int)) = true) ∧ List.length (grS (r.snd.fst % (17 : Int)).toNat).snd.snd ≤ (9223372036854775807 : Nat)) ∧ decide ((↑(List.length (grS (r.snd.fst % (17 : Int)).toNat).snd.snd) : Int) > (0 : Int)) = true) ∧ List.length (grS (r.snd.fst % (17 : Int)).toNat).snd.snd ≤ (9223372036854775807 : Nat)) ∧ (0 : Int) < (↑(List.length (grS (r.snd.fst % (17 : Int)).toNat).snd.snd) : Int) ∧ (↑(List.length (grS (r.snd.fst % (17 : Int)).toNat).snd.snd) : Int) ≤ (9223372036854775807 : Int)) ∧ ¬((0 : Int) < (40 : Int) ∧ (40 : Int) ≤ (9223372036854775807 : Int)) →
  False) ∧ (((((((((True ∧ (0 : Int) < (5 : Int) ∧ (5 : Int) ≤ (9223372036854775807 : Int)) ∧ (r.fst % (5 : Int) == (0 : Int)) = false) ∧ (r.fst % (5 : Int) == (1 : Int)) = true) ∧ List.length (grS (r.snd.fst % (17 : Int)).toNat).snd.snd ≤ (9223372036854775807 : Nat)) ∧ decide ((↑(List.length (grS (r.snd.fst % (17 : Int)).toNat).snd.snd) : Int) > (0 : Int)) = true) ∧ List.length (grS (r.snd.fst % (17 : Int)).toNat).snd.snd ≤ (9223372036854775807 : Nat)) ∧ (0 : Int) < (↑(List.length (grS (r.snd.fst % (17 : Int)).toNat).snd.snd) : Int) ∧ (↑(List.length (grS (r.snd.fst % (17 : Int)).toNat).snd.snd) : Int) ≤ (9223372036854775807 : Int)) ∧ (0 : Int) < (40 : Int) ∧ (40 : Int) ≤ (9223372036854775807 : Int)) ∧ decide (r.snd.snd.snd.fst % (40 : Int) < (28 : Int)) = true →
  True ∧ grS (r.snd.fst % (17 : Int)).toNat = gramS r) ∧ (((((((((((True ∧ (0 : Int) < (5 : Int) ∧ (5 : Int) ≤ (9223372036854775807 : Int)) ∧ (r.fst % (5 : Int) == (0 : Int)) = false) ∧ (r.fst % (5 : Int) == (1 : Int)) = true) ∧ List.length (grS (r.snd.fst % (17 : Int)).toNat).snd.snd ≤ (9223372036854775807 : Nat)) ∧ decide ((↑(List.length (grS (r.snd.fst % (17 : Int)).toNat).snd.snd) : Int) > (0 : Int)) = true) ∧ List.length (grS (r.snd.fst % (17 : Int)).toNat).snd.snd ≤ (9223372036854775807 : Nat)) ∧ (0 : Int) < (↑(List.length (grS (r.snd.fst % (17 : Int)).toNat).snd.snd) : Int) ∧ (↑(List.length (grS (r.snd.fst % (17 : Int)).toNat).snd.snd) : Int) ≤ (9223372036854775807 : Int)) ∧ (0 : Int) < (40 : Int) ∧ (40 : Int) ≤ (9223372036854775807 : Int)) ∧ decide (r.snd.snd.snd.fst % (40 : Int) < (28 : Int)) = false) ∧ List.length (grS (r.snd.fst % (17 : Int)).toNat).snd.snd ≤ (9223372036854775807 : Nat)) ∧ ((↑(List.length (grS (r.snd.fst % (17 : Int)).toNat).snd.snd) : Int) == (0 : Int)) = true →
  True ∧ grS (r.snd.fst % (17 : Int)).toNat = gramS r) ∧ ((((((((((((True ∧ (0 : Int) < (5 : Int) ∧ (5 : Int) ≤ (9223372036854775807 : Int)) ∧ (r.fst % (5 : Int) == (0 : Int)) = false) ∧ (r.fst % (5 : Int) == (1 : Int)) = true) ∧ List.length (grS (r.snd.fst % (17 : Int)).toNat).snd.snd ≤ (9223372036854775807 : Nat)) ∧ decide ((↑(List.length (grS (r.snd.fst % (17 : Int)).toNat).snd.snd) : Int) > (0 : Int)) = true) ∧ List.length (grS (r.snd.fst % (17 : Int)).toNat).snd.snd ≤ (9223372036854775807 : Nat)) ∧ (0 : Int) < (↑(List.length (grS (r.snd.fst % (17 : Int)).toNat).snd.snd) : Int) ∧ (↑(List.length (grS (r.snd.fst % (17 : Int)).toNat).snd.snd) : Int) ≤ (9223372036854775807 : Int)) ∧ (0 : Int) < (40 : Int) ∧ (40 : Int) ≤ (9223372036854775807 : Int)) ∧ decide (r.snd.snd.snd.fst % (40 : Int) < (28 : Int)) = false) ∧ List.length (grS (r.snd.fst % (17 : Int)).toNat).snd.snd ≤ (9223372036854775807 : Nat)) ∧ ((↑(List.length (grS (r.snd.fst % (17 : Int)).toNat).snd.snd) : Int) == (0 : Int)) = false) ∧ ¬False →
  False) ∧ ((((((True ∧ (0 : Int) < (5 : Int) ∧ (5 : Int) ≤ (9223372036854775807 : Int)) ∧ (r.fst % (5 : Int) == (0 : Int)) = false) ∧ (r.fst % (5 : Int) == (1 : Int)) = true) ∧ List.length (grS (r.snd.fst % (17 : Int)).toNat).snd.snd ≤ (9223372036854775807 : Nat)) ∧ decide ((↑(List.length (grS (r.snd.fst % (17 : Int)).toNat).snd.snd) : Int) > (0 : Int)) = false) ∧ ¬((0 : Int) < (40 : Int) ∧ (40 : Int) ≤ (9223372036854775807 : Int)) →
  False) ∧ (((((((True ∧ (0 : Int) < (5 : Int) ∧ (5 : Int) ≤ (9223372036854775807 : Int)) ∧ (r.fst % (5 : Int) == (0 : Int)) = false) ∧ (r.fst % (5 : Int) == (1 : Int)) = true) ∧ List.length (grS (r.snd.fst % (17 : Int)).toNat).snd.snd ≤ (9223372036854775807 : Nat)) ∧ decide ((↑(List.length (grS (r.snd.fst % (17 : Int)).toNat).snd.snd) : Int) > (0 : Int)) = false) ∧ (0 : Int) < (40 : Int) ∧ (40 : Int) ≤ (9223372036854775807 : Int)) ∧ decide (r.snd.snd.snd.fst % (40 : Int) < (28 : Int)) = true →
  True ∧ grS (r.snd.fst % (17 : Int)).toNat = gramS r) ∧ (((((((((True ∧ (0 : Int) < (5 : Int) ∧ (5 : Int) ≤ (9223372036854775807 : Int)) ∧ (r.fst % (5 : Int) == (0 : Int)) = false) ∧ (r.fst % (5 : Int) == (1 : Int)) = true) ∧ List.length (grS (r.snd.fst % (17 : Int)).toNat).snd.snd ≤ (9223372036854775807 : Nat)) ∧ decide ((↑(List.length (grS (r.snd.fst % (17 : Int)).toNat).snd.snd) : Int) > (0 : Int)) = false) ∧ (0 : Int) < (40 : Int) ∧ (40 : Int) ≤ (9223372036854775807 : Int)) ∧ decide (r.snd.snd.snd.fst % (40 : Int) < (28 : Int)) = false) ∧ List.length (grS (r.snd.fst % (17 : Int)).toNat).snd.snd ≤ (9223372036854775807 : Nat)) ∧ ((↑(List.length (grS (r.snd.fst % (17 : Int)).toNat).snd.snd) : Int) == (0 : Int)) = true →
  True ∧ grS (r.snd.fst % (17 : Int)).toNat = gramS r) ∧ ((((((((((True ∧ (0 : Int) < (5 : Int) ∧ (5 : Int) ≤ (9223372036854775807 : Int)) ∧ (r.fst % (5 : Int) == (0 : Int)) = false) ∧ (r.fst % (5 : Int) == (1 : Int)) = true) ∧ List.length (grS (r.snd.fst % (17 : Int)).toNat).snd.snd ≤ (9223372036854775807 : Nat)) ∧ decide ((↑(List.length (grS (r.snd.fst % (17 : Int)).toNat).snd.snd) : Int) > (0 : Int)) = false) ∧ (0 : Int) < (40 : Int) ∧ (40 : Int) ≤ (9223372036854775807 : Int)) ∧ decide (r.snd.snd.snd.fst % (40 : Int) < (28 : Int)) = false) ∧ List.length (grS (r.snd.fst % (17 : Int)).toNat).snd.snd ≤ (9223372036854775807 : Nat)) ∧ ((↑(List.length (grS (r.snd.fst % (17 : Int)).toNat).snd.snd) : Int) == (0 : Int)) = false) ∧ ¬False →
  False) ∧ ((((((((True ∧ (0 : Int) < (5 : Int) ∧ (5 : Int) ≤ (9223372036854775807 : Int)) ∧ (r.fst % (5 : Int) == (0 : Int)) = false) ∧ (r.fst % (5 : Int) == (1 : Int)) = false) ∧ (r.fst % (5 : Int) == (2 : Int)) = true) ∧ List.length (grS ((17 : Nat) + (r.snd.fst % (10 : Int)).toNat)).snd.snd ≤ (9223372036854775807 : Nat)) ∧ decide ((↑(List.length (grS ((17 : Nat) + (r.snd.fst % (10 : Int)).toNat)).snd.snd) : Int) > (0 : Int)) = true) ∧ List.length (grS ((17 : Nat) + (r.snd.fst % (10 : Int)).toNat)).snd.snd ≤ (9223372036854775807 : Nat)) ∧ ¬((0 : Int) < (↑(List.length (grS ((17 : Nat) + (r.snd.fst % (10 : Int)).toNat)).snd.snd) : Int) ∧ (↑(List.length (grS ((17 : Nat) + (r.snd.fst % (10 : Int)).toNat)).snd.snd) : Int) ≤ (9223372036854775807 : Int)) →
  False) ∧ (((((((((True ∧ (0 : Int) < (5 : Int) ∧ (5 : Int) ≤ (9223372036854775807 : Int)) ∧ (r.fst % (5 : Int) == (0 : Int)) = false) ∧ (r.fst % (5 : Int) == (1 : Int)) = false) ∧ (r.fst % (5 : Int) == (2 : Int)) = true) ∧ List.length (grS ((17 : Nat) + (r.snd.fst % (10 : Int)).toNat)).snd.snd ≤ (9223372036854775807 : Nat)) ∧ decide ((↑(List.length (grS ((17 : Nat) + (r.snd.fst % (10 : Int)).toNat)).snd.snd) : Int) > (0 : Int)) = true) ∧ List.length (grS ((17 : Nat) + (r.snd.fst % (10 : Int)).toNat)).snd.snd ≤ (9223372036854775807 : Nat)) ∧ (0 : Int) < (↑(List.length (grS ((17 : Nat) + (r.snd.fst % (10 : Int)).toNat)).snd.snd) : Int) ∧ (↑(List.length (grS ((17 : Nat) + (r.snd.fst % (10 : Int)).toNat)).snd.snd) : Int) ≤ (9223372036854775807 : Int)) ∧ ¬((0 : Int) < (40 : Int) ∧ (40 : Int) ≤ (9223372036854775807 : Int)) →
  False) ∧ ((((((((((True ∧ (0 : Int) < (5 : Int) ∧ (5 : Int) ≤ (9223372036854775807 : Int)) ∧ (r.fst % (5 : Int) == (0 : Int)) = false) ∧ (r.fst % (5 : Int) == (1 : Int)) = false) ∧ (r.fst % (5 : Int) == (2 : Int)) = true) ∧ List.length (grS ((17 : Nat) + (r.snd.fst % (10 : Int)).toNat)).snd.snd ≤ (9223372036854775807 : Nat)) ∧ decide ((↑(List.length (grS ((17 : Nat) + (r.snd.fst % (10 : Int)).toNat)).snd.snd) : Int) > (0 : Int)) = true) ∧ List.length (grS ((17 : Nat) + (r.snd.fst % (10 : Int)).toNat)).snd.snd ≤ (9223372036854775807 : Nat)) ∧ (0 : Int) < (↑(List.length (grS ((17 : Nat) + (r.snd.fst % (10 : Int)).toNat)).snd.snd) : Int) ∧ (↑(List.length (grS ((17 : Nat) + (r.snd.fst % (10 : Int)).toNat)).snd.snd) : Int) ≤ (9223372036854775807 : Int)) ∧ (0 : Int) < (40 : Int) ∧ (40 : Int) ≤ (9223372036854775807 : Int)) ∧ decide (r.snd.snd.snd.fst % (40 : Int) < (28 : Int)) = true →
  True ∧ grS ((17 : Nat) + (r.snd.fst % (10 : Int)).toNat) = gramS r) ∧ ((((((((((((True ∧ (0 : Int) < (5 : Int) ∧ (5 : Int) ≤ (9223372036854775807 : Int)) ∧ (r.fst % (5 : Int) == (0 : Int)) = false) ∧ (r.fst % (5 : Int) == (1 : Int)) = false) ∧ (r.fst % (5 : Int) == (2 : Int)) = true) ∧ List.length (grS ((17 : Nat) + (r.snd.fst % (10 : Int)).toNat)).snd.snd ≤ (9223372036854775807 : Nat)) ∧ decide ((↑(List.length (grS ((17 : Nat) + (r.snd.fst % (10 : Int)).toNat)).snd.snd) : Int) > (0 : Int)) = true) ∧ List.length (grS ((17 : Nat) + (r.snd.fst % (10 : Int)).toNat)).snd.snd ≤ (9223372036854775807 : Nat)) ∧ (0 : Int) < (↑(List.length (grS ((17 : Nat) + (r.snd.fst % (10 : Int)).toNat)).snd.snd) : Int) ∧ (↑(List.length (grS ((17 : Nat) + (r.snd.fst % (10 : Int)).toNat)).snd.snd) : Int) ≤ (9223372036854775807 : Int)) ∧ (0 : Int) < (40 : Int) ∧ (40 : Int) ≤ (9223372036854775807 : Int)) ∧ decide (r.snd.snd.snd.fst % (40 : Int) < (28 : Int)) = false) ∧ List.length (grS ((17 : Nat) + (r.snd.fst % (10 : Int)).toNat)).snd.snd ≤ (9223372036854775807 : Nat)) ∧ ((↑(List.length (grS ((17 : Nat) + (r.snd.fst % (10 : Int)).toNat)).snd.snd) : Int) == (0 : Int)) = true →
  True ∧ grS ((17 : Nat) + (r.snd.fst % (10 : Int)).toNat) = gramS r) ∧ (((((((((((((True ∧ (0 : Int) < (5 : Int) ∧ (5 : Int) ≤ (9223372036854775807 : Int)) ∧ (r.fst % (5 : Int) == (0 : Int)) = false) ∧ (r.fst % (5 : Int) == (1 : Int)) = false) ∧ (r.fst % (5 : Int) == (2 : Int)) = true) ∧ List.length (grS ((17 : Nat) + (r.snd.fst % (10 : Int)).toNat)).snd.snd ≤ (9223372036854775807 : Nat)) ∧ decide ((↑(List.length (grS ((17 : Nat) + (r.snd.fst % (10 : Int)).toNat)).snd.snd) : Int) > (0 : Int)) = true) ∧ List.length (grS ((17 : Nat) + (r.snd.fst % (10 : Int)).toNat)).snd.snd ≤ (9223372036854775807 : Nat)) ∧ (0 : Int) < (↑(List.length (grS ((17 : Nat) + (r.snd.fst % (10 : Int)).toNat)).snd.snd) : Int) ∧ (↑(List.length (grS ((17 : Nat) + (r.snd.fst % (10 : Int)).toNat)).snd.snd) : Int) ≤ (9223372036854775807 : Int)) ∧ (0 : Int) < (40 : Int) ∧ (40 : Int) ≤ (9223372036854775807 : Int)) ∧ decide (r.snd.snd.snd.fst % (40 : Int) < (28 : Int)) = false) ∧ List.length (grS ((17 : Nat) + (r.snd.fst % (10 : Int)).toNat)).snd.snd ≤ (9223372036854775807 : Nat)) ∧ ((↑(List.length (grS ((17 : Nat) + (r.snd.fst % (10 : Int)).toNat)).snd.snd) : Int) == (0 : Int)) = false) ∧ ¬False →
  False) ∧ (((((((True ∧ (0 : Int) < (5 : Int) ∧ (5 : Int) ≤ (9223372036854775807 : Int)) ∧ (r.fst % (5 : Int) == (0 : Int)) = false) ∧ (r.fst % (5 : Int) == (1 : Int)) = false) ∧ (r.fst % (5 : Int) == (2 : Int)) = true) ∧ List.length (grS ((17 : Nat) + (r.snd.fst % (10 : Int)).toNat)).snd.snd ≤ (9223372036854775807 : Nat)) ∧ decide ((↑(List.length (grS ((17 : Nat) + (r.snd.fst % (10 : Int)).toNat)).snd.snd) : Int) > (0 : Int)) = false) ∧ ¬((0 : Int) < (40 : Int) ∧ (40 : Int) ≤ (9223372036854775807 : Int)) →
  False) ∧ ((((((((True ∧ (0 : Int) < (5 : Int) ∧ (5 : Int) ≤ (9223372036854775807 : Int)) ∧ (r.fst % (5 : Int) == (0 : Int)) = false) ∧ (r.fst % (5 : Int) == (1 : Int)) = false) ∧ (r.fst % (5 : Int) == (2 : Int)) = true) ∧ List.length (grS ((17 : Nat) + (r.snd.fst % (10 : Int)).toNat)).snd.snd ≤ (9223372036854775807 : Nat)) ∧ decide ((↑(List.length (grS ((17 : Nat) + (r.snd.fst % (10 : Int)).toNat)).snd.snd) : Int) > (0 : Int)) = false) ∧ (0 : Int) < (40 : Int) ∧ (40 : Int) ≤ (9223372036854775807 : Int)) ∧ decide (r.snd.snd.snd.fst % (40 : Int) < (28 : Int)) = true →
  True ∧ grS ((17 : Nat) + (r.snd.fst % (10 : Int)).toNat) = gramS r) ∧ ((((((((((True ∧ (0 : Int) < (5 : Int) ∧ (5 : Int) ≤ (9223372036854775807 : Int)) ∧ (r.fst % (5 : Int) == (0 : Int)) = false) ∧ (r.fst % (5 : Int) == (1 : Int)) = false) ∧ (r.fst % (5 : Int) == (2 : Int)) = true) ∧ List.length (grS ((17 : Nat) + (r.snd.fst % (10 : Int)).toNat)).snd.snd ≤ (9223372036854775807 : Nat)) ∧ decide ((↑(List.length (grS ((17 : Nat) + (r.snd.fst % (10 : Int)).toNat)).snd.snd) : Int) > (0 : Int)) = false) ∧ (0 : Int) < (40 : Int) ∧ (40 : Int) ≤ (9223372036854775807 : Int)) ∧ decide (r.snd.snd.snd.fst % (40 : Int) < (28 : Int)) = false) ∧ List.length (grS ((17 : Nat) + (r.snd.fst % (10 : Int)).toNat)).snd.snd ≤ (9223372036854775807 : Nat)) ∧ ((↑(List.length (grS ((17 : Nat) + (r.snd.fst % (10 : Int)).toNat)).snd.snd) : Int) == (0 : Int)) = true →
  True ∧ grS ((17 : Nat) + (r.snd.fst % (10 : Int)).toNat) = gramS r) ∧ (((((((((((True ∧ (0 : Int) < (5 : Int) ∧ (5 : Int) ≤ (9223372036854775807 : Int)) ∧ (r.fst % (5 : Int) == (0 : Int)) = false) ∧ (r.fst % (5 : Int) == (1 : Int)) = false) ∧ (r.fst % (5 : Int) == (2 : Int)) = true) ∧ List.length (grS ((17 : Nat) + (r.snd.fst % (10 : Int)).toNat)).snd.snd ≤ (9223372036854775807 : Nat)) ∧ decide ((↑(List.length (grS ((17 : Nat) + (r.snd.fst % (10 : Int)).toNat)).snd.snd) : Int) > (0 : Int)) = false) ∧ (0 : Int) < (40 : Int) ∧ (40 : Int) ≤ (9223372036854775807 : Int)) ∧ decide (r.snd.snd.snd.fst % (40 : Int) < (28 : Int)) = false) ∧ List.length (grS ((17 : Nat) + (r.snd.fst % (10 : Int)).toNat)).snd.snd ≤ (9223372036854775807 : Nat)) ∧ ((↑(List.length (grS ((17 : Nat) + (r.snd.fst % (10 : Int)).toNat)).snd.snd) : Int) == (0 : Int)) = false) ∧ ¬False →
  False) ∧ ((((((((True ∧ (0 : Int) < (5 : Int) ∧ (5 : Int) ≤ (9223372036854775807 : Int)) ∧ (r.fst % (5 : Int) == (0 : Int)) = false) ∧ (r.fst % (5 : Int) == (1 : Int)) = false) ∧ (r.fst % (5 : Int) == (2 : Int)) = false) ∧ List.length (anyS r).snd.snd ≤ (9223372036854775807 : Nat)) ∧ decide ((↑(List.length (anyS r).snd.snd) : Int) > (0 : Int)) = true) ∧ List.length (anyS r).snd.snd ≤ (9223372036854775807 : Nat)) ∧ ¬((0 : Int) < (↑(List.length (anyS r).snd.snd) : Int) ∧ (↑(List.length (anyS r).snd.snd) : Int) ≤ (9223372036854775807 : Int)) →
  False) ∧ (((((((((True ∧ (0 : Int) < (5 : Int) ∧ (5 : Int) ≤ (9223372036854775807 : Int)) ∧ (r.fst % (5 : Int) == (0 : Int)) = false) ∧ (r.fst % (5 : Int) == (1 : Int)) = false) ∧ (r.fst % (5 : Int) == (2 : Int)) = false) ∧ List.length (anyS r).snd.snd ≤ (9223372036854775807 : Nat)) ∧ decide ((↑(List.length (anyS r).snd.snd) : Int) > (0 : Int)) = true) ∧ List.length (anyS r).snd.snd ≤ (9223372036854775807 : Nat)) ∧ (0 : Int) < (↑(List.length (anyS r).snd.snd) : Int) ∧ (↑(List.length (anyS r).snd.snd) : Int) ≤ (9223372036854775807 : Int)) ∧ ¬((0 : Int) < (40 : Int) ∧ (40 : Int) ≤ (9223372036854775807 : Int)) →
  False) ∧ ((((((((((True ∧ (0 : Int) < (5 : Int) ∧ (5 : Int) ≤ (9223372036854775807 : Int)) ∧ (r.fst % (5 : Int) == (0 : Int)) = false) ∧ (r.fst % (5 : Int) == (1 : Int)) = false) ∧ (r.fst % (5 : Int) == (2 : Int)) = false) ∧ List.length (anyS r).snd.snd ≤ (9223372036854775807 : Nat)) ∧ decide ((↑(List.length (anyS r).snd.snd) : Int) > (0 : Int)) = true) ∧ List.length (anyS r).snd.snd ≤ (9223372036854775807 : Nat)) ∧ (0 : Int) < (↑(List.length (anyS r).snd.snd) : Int) ∧ (↑(List.length (anyS r).snd.snd) : Int) ≤ (9223372036854775807 : Int)) ∧ (0 : Int) < (40 : Int) ∧ (40 : Int) ≤ (9223372036854775807 : Int)) ∧ decide (r.snd.snd.snd.fst % (40 : Int) < (28 : Int)) = true →
  True ∧ anyS r = gramS r) ∧ ((((((((((((True ∧ (0 : Int) < (5 : Int) ∧ (5 : Int) ≤ (9223372036854775807 : Int)) ∧ (r.fst % (5 : Int) == (0 : Int)) = false) ∧ (r.fst % (5 : Int) == (1 : Int)) = false) ∧ (r.fst % (5 : Int) == (2 : Int)) = false) ∧ List.length (anyS r).snd.snd ≤ (9223372036854775807 : Nat)) ∧ decide ((↑(List.length (anyS r).snd.snd) : Int) > (0 : Int)) = true) ∧ List.length (anyS r).snd.snd ≤ (9223372036854775807 : Nat)) ∧ (0 : Int) < (↑(List.length (anyS r).snd.snd) : Int) ∧ (↑(List.length (anyS r).snd.snd) : Int) ≤ (9223372036854775807 : Int)) ∧ (0 : Int) < (40 : Int) ∧ (40 : Int) ≤ (9223372036854775807 : Int)) ∧ decide (r.snd.snd.snd.fst % (40 : Int) < (28 : Int)) = false) ∧ List.length (anyS r).snd.snd ≤ (9223372036854775807 : Nat)) ∧ ((↑(List.length (anyS r).snd.snd) : Int) == (0 : Int)) = true →
  True ∧ anyS r = gramS r) ∧ (((((((((((((True ∧ (0 : Int) < (5 : Int) ∧ (5 : Int) ≤ (9223372036854775807 : Int)) ∧ (r.fst % (5 : Int) == (0 : Int)) = false) ∧ (r.fst % (5 : Int) == (1 : Int)) = false) ∧ (r.fst % (5 : Int) == (2 : Int)) = false) ∧ List.length (anyS r).snd.snd ≤ (9223372036854775807 : Nat)) ∧ decide ((↑(List.length (anyS r).snd.snd) : Int) > (0 : Int)) = true) ∧ List.length (anyS r).snd.snd ≤ (9223372036854775807 : Nat)) ∧ (0 : Int) < (↑(List.length (anyS r).snd.snd) : Int) ∧ (↑(List.length (anyS r).snd.snd) : Int) ≤ (9223372036854775807 : Int)) ∧ (0 : Int) < (40 : Int) ∧ (40 : Int) ≤ (9223372036854775807 : Int)) ∧ decide (r.snd.snd.snd.fst % (40 : Int) < (28 : Int)) = false) ∧ List.length (anyS r).snd.snd ≤ (9223372036854775807 : Nat)) ∧ ((↑(List.length (anyS r).snd.snd) : Int) == (0 : Int)) = false) ∧ ¬False →
  False) ∧ (((((((True ∧ (0 : Int) < (5 : Int) ∧ (5 : Int) ≤ (9223372036854775807 : Int)) ∧ (r.fst % (5 : Int) == (0 : Int)) = false) ∧ (r.fst % (5 : Int) == (1 : Int)) = false) ∧ (r.fst % (5 : Int) == (2 : Int)) = false) ∧ List.length (anyS r).snd.snd ≤ (9223372036854775807 : Nat)) ∧ decide ((↑(List.length (anyS r).snd.snd) : Int) > (0 : Int)) = false) ∧ ¬((0 : Int) < (40 : Int) ∧ (40 : Int) ≤ (9223372036854775807 : Int)) →
  False) ∧ ((((((((True ∧ (0 : Int) < (5 : Int) ∧ (5 : Int) ≤ (9223372036854775807 : Int)) ∧ (r.fst % (5 : Int) == (0 : Int)) = false) ∧ (r.fst % (5 : Int) == (1 : Int)) = false) ∧ (r.fst % (5 : Int) == (2 : Int)) = false) ∧ List.length (anyS r).snd.snd ≤ (9223372036854775807 : Nat)) ∧ decide ((↑(List.length (anyS r).snd.snd) : Int) > (0 : Int)) = false) ∧ (0 : Int) < (40 : Int) ∧ (40 : Int) ≤ (9223372036854775807 : Int)) ∧ decide (r.snd.snd.snd.fst % (40 : Int) < (28 : Int)) = true →
  True ∧ anyS r = gramS r) ∧ ((((((((((True ∧ (0 : Int) < (5 : Int) ∧ (5 : Int) ≤ (9223372036854775807 : Int)) ∧ (r.fst % (5 : Int) == (0 : Int)) = false) ∧ (r.fst % (5 : Int) == (1 : Int)) = false) ∧ (r.fst % (5 : Int) == (2 : Int)) = false) ∧ List.length (anyS r).snd.snd ≤ (9223372036854775807 : Nat)) ∧ decide ((↑(List.length (anyS r).snd.snd) : Int) > (0 : Int)) = false) ∧ (0 : Int) < (40 : Int) ∧ (40 : Int) ≤ (9223372036854775807 : Int)) ∧ decide (r.snd.snd.snd.fst % (40 : Int) < (28 : Int)) = false) ∧ List.length (anyS r).snd.snd ≤ (9223372036854775807 : Nat)) ∧ ((↑(List.length (anyS r).snd.snd) : Int) == (0 : Int)) = true →
  True ∧ anyS r = gramS r) ∧ (((((((((((True ∧ (0 : Int) < (5 : Int) ∧ (5 : Int) ≤ (9223372036854775807 : Int)) ∧ (r.fst % (5 : Int) == (0 : Int)) = false) ∧ (r.fst % (5 : Int) == (1 : Int)) = false) ∧ (r.fst % (5 : Int) == (2 : Int)) = false) ∧ List.length (anyS r).snd.snd ≤ (9223372036854775807 : Nat)) ∧ decide ((↑(List.length (anyS r).snd.snd) : Int) > (0 : Int)) = false) ∧ (0 : Int) < (40 : Int) ∧ (40 : Int) ≤ (9223372036854775807 : Int)) ∧ decide (r.snd.snd.snd.fst % (40 : Int) < (28 : Int)) = false) ∧ List.length (anyS r).snd.snd ≤ (9223372036854775807 : Nat)) ∧ ((↑(List.length (anyS r).snd.snd) : Int) == (0 : Int)) = false) ∧ ¬False →
  False) ∧ (True)
theorem grammar0.ok  (r : Int × Int × Int × Int × List (List Int) × ByteArray) (hx : r.2.2.2.1 = 0) : grammar0.T  r := by
  ((repeat' (first | exact trivial | apply And.intro)) <;> (intro hw; (try (simp only [true_and, and_true, decide_eq_true_eq, decide_eq_false_iff_not, beq_iff_eq, bne_iff_ne, beq_eq_false_iff_ne, bne_eq_false_iff_eq, ne_eq, Bool.not_eq_true, Bool.not_eq_false, not_true_eq_false, not_false_eq_true, Bool.not_eq_eq_eq_not, Bool.not_true, Bool.not_false, forall_const, imp_self, Bool.true_eq_false, Bool.false_eq_true, reduceCtorEq] at hw)); (try first | (exfalso; omega) | exact ⟨trivial, rfl⟩ | exact (hw hx).elim | exact (hw.2 hx).elim)))
  all_goals
    refine ⟨trivial, ?_⟩
    rw [gramS]
    first | rw [if_pos (by omega)] | rw [if_neg (by omega), if_pos (by omega)] | rw [if_neg (by omega), if_neg (by omega)]
def okG (g : Gr) : Prop := g.1.length ≤ 99 ∧ g.2.1.length ≤ 99 ∧ g.2.2.length ≤ 99 ∧ ∀ q ∈ g.2.2, q.2.length ≤ 6
def prodsOf (sym : Int) : Int → List (Int × List Int) → List Int
  | _, [] => []
  | i, q :: l => if q.1 = sym then i :: prodsOf sym (i + 1) l else prodsOf sym (i + 1) l
theorem prodsOf_mem {sym x : Int} : ∀ {l : List (Int × List Int)} {i : Int}, x ∈ prodsOf sym i l → i ≤ x ∧ x < i + l.length ∧ (l.getD (x - i).toNat (0, [])).1 = sym
  | [], i, h => by simp [prodsOf] at h
  | q :: l, i, h => by
    simp only [prodsOf] at h
    have key : x ∈ prodsOf sym (i + 1) l → i ≤ x ∧ x < i + (q :: l).length ∧ ((q :: l).getD (x - i).toNat (0, [])).1 = sym := fun h => by
      obtain ⟨h1, h2, h3⟩ := prodsOf_mem h
      refine ⟨by omega, by simp only [List.length_cons]; omega, ?_⟩
      rw [show (x - i).toNat = (x - (i + 1)).toNat + 1 by omega, List.getD_cons_succ]; exact h3
    split at h
    · rcases List.mem_cons.1 h with rfl | h
      · refine ⟨Int.le_refl _, by simp only [List.length_cons]; omega, ?_⟩
        rw [show (x - x).toNat = 0 by omega, List.getD_cons_zero]; assumption
      · exact key h
    · exact key h
theorem prodsOf_len (sym : Int) : ∀ (l : List (Int × List Int)) (i : Int), (prodsOf sym i l).length ≤ l.length
  | [], i => Nat.le_refl _
  | q :: l, i => by
    have := prodsOf_len sym l (i + 1)
    simp only [prodsOf, List.length_cons]
    split
    · simp only [List.length_cons]; omega
    · omega
def kidsS (f : Int → List Int → Tree × List Int) : List Int → List Int → List Tree × List Int
  | [], l => ([], l)
  | s :: q, l => ((f s l).1 :: (kidsS f q (f s l).2).1, (kidsS f q (f s l).2).2)
def treeS : Nat → Gr → Int → List Int → Tree × List Int
  | 0, _, sym, l => (.mk sym (-1) [], l.drop 1)
  | d + 1, g, sym, l => if sym < 100 ∨ l.length = 0 ∨ (l.getD 0 0).tmod 6 = 5 ∨ (prodsOf sym 0 g.2.2).length = 0 then (.mk sym (-1) [], l.drop 1)
    else (.mk sym ((prodsOf sym 0 g.2.2).getD (l.getD 0 0 % (prodsOf sym 0 g.2.2).length).toNat 0) (kidsS (treeS d g) (g.2.2.getD ((prodsOf sym 0 g.2.2).getD (l.getD 0 0 % (prodsOf sym 0 g.2.2).length).toNat 0).toNat (0, [])).2 (l.drop 1)).1,
      (kidsS (treeS d g) (g.2.2.getD ((prodsOf sym 0 g.2.2).getD (l.getD 0 0 % (prodsOf sym 0 g.2.2).length).toNat 0).toNat (0, [])).2 (l.drop 1)).2)
noncomputable def tree (d : Nat) : Face := ⟨28, [.v GR, .v (.int .i64), .v (.sl (.int .i64)), .v (.int .i64)], fun (g, sym, l, n) => some (n = d ∧ d ≤ 99 ∧ okG g),
  [⟨false, [.v .tree, .v (.sl (.int .i64))], fun (g, sym, l, n) => treeS n.toNat g sym l, fun (g, sym, l, n) => none⟩]⟩
noncomputable def tree.L0  : LFace := ⟨[1, 2, 3, 4, 8, 9, 10, 43, 44, 45], [.v (.int .i64), .v (.sl (.int .i64)), .v (.int .i64), .p GR, .box 33 [.un, .un, .un], .un, .row (.int .i64) 3, .v (.sl PR), .v (.int .i64), .v (.int .i64)], fun (sym, l, n, g, u, v, out, ps, len, i) => some (len = ps.length ∧ 0 ≤ i ∧ i ≤ len ∧ ps.length ≤ 99 ∧ out.length ≤ i.toNat),
  [⟨.normal, [1, 2, 3, 4, 8, 9, 10], [.v (.int .i64), .v (.sl (.int .i64)), .v (.int .i64), .p GR, .box 33 [.un, .un, .un], .un, .row (.int .i64) 3], fun (sym, l, n, g, u, v, out, ps, len, i) => (sym, l, n, g, u, v, out ++ prodsOf sym i (ps.drop i.toNat)), fun (sym, l, n, g, u, v, out, ps, len, i) => none⟩]⟩
noncomputable def tree.L0.mu  : dens tree.L0.sh → Nat := fun (sym, l, n, g, u, v, out, ps, len, i) => (len - i).toNat
noncomputable def tree.L0.g  (sym : Int) (l : List Int) (n : Int) (g : List ByteArray × List ByteArray × List (Int × List Int)) (u : Unit × Unit × Unit) (v : Unit) (out : List Int) (ps : List (Int × List Int)) (len : Int) (i : Int) : Prop := GoodLA Try.prog (cfOf []) [] 1000 28 0 tree.L0 tree.L0.mu (sym, l, n, g, u, v, out, ps, len, i)
noncomputable def tree.L0.T (sym : Int) (l : List Int) (n : Int) (g : List ByteArray × List ByteArray × List (Int × List Int)) (u : Unit × Unit × Unit) (v : Unit) (out : List Int) (ps : List (Int × List Int)) (len : Int) (i : Int) : Prop := ((((True ∧ decide (i < len) = true) ∧ (0 : Int) ≤ i ∧ i < (↑ps.length : Int)) ∧ ((ps.getD i.toNat ((0 : Int), [])).fst == sym) = true) ∧ (out.length + (1 : Nat)) * (8 : Nat) ≤ (140737488355328 : Nat) →
  (len = (↑ps.length : Int) ∧ (0 : Int) ≤ IntKind.i64.wrap (i + (1 : Int)) ∧ IntKind.i64.wrap (i + (1 : Int)) ≤ len ∧ ps.length ≤ (99 : Nat) ∧ (out ++ [i]).length ≤ (IntKind.i64.wrap (i + (1 : Int))).toNat) ∧ tree.L0.mu (sym, l, n, g, ((), (), ()), (), out ++ [i], ps, len, IntKind.i64.wrap (i + (1 : Int))) < tree.L0.mu (sym, l, n, g, u, v, out, ps, len, i) ∧ (True → True ∧ (sym, l, n, g, ((), (), ()), (), out ++ [i] ++ prodsOf sym (IntKind.i64.wrap (i + (1 : Int))) (List.drop (IntKind.i64.wrap (i + (1 : Int))).toNat ps)) = (sym, l, n, g, u, (), out ++ prodsOf sym i (List.drop i.toNat ps))) ∧ True) ∧ ((((True ∧ decide (i < len) = true) ∧ (0 : Int) ≤ i ∧ i < (↑ps.length : Int)) ∧ ((ps.getD i.toNat ((0 : Int), [])).fst == sym) = true) ∧ ¬(out.length + (1 : Nat)) * (8 : Nat) ≤ (140737488355328 : Nat) → False) ∧ (((True ∧ decide (i < len) = true) ∧ (0 : Int) ≤ i ∧ i < (↑ps.length : Int)) ∧ ((ps.getD i.toNat ((0 : Int), [])).fst == sym) = false →
  (len = (↑ps.length : Int) ∧ (0 : Int) ≤ IntKind.i64.wrap (i + (1 : Int)) ∧ IntKind.i64.wrap (i + (1 : Int)) ≤ len ∧ ps.length ≤ (99 : Nat) ∧ out.length ≤ (IntKind.i64.wrap (i + (1 : Int))).toNat) ∧ tree.L0.mu (sym, l, n, g, ((), (), ()), (), out, ps, len, IntKind.i64.wrap (i + (1 : Int))) < tree.L0.mu (sym, l, n, g, u, v, out, ps, len, i) ∧ (True → True ∧ (sym, l, n, g, ((), (), ()), (), out ++ prodsOf sym (IntKind.i64.wrap (i + (1 : Int))) (List.drop (IntKind.i64.wrap (i + (1 : Int))).toNat ps)) = (sym, l, n, g, u, (), out ++ prodsOf sym i (List.drop i.toNat ps))) ∧ True) ∧ ((True ∧ decide (i < len) = true) ∧ ¬((0 : Int) ≤ i ∧ i < (↑ps.length : Int)) → False) ∧ (True ∧ decide (i < len) = false → True ∧ (sym, l, n, g, ((), (), ()), (), out) = (sym, l, n, g, u, (), out ++ prodsOf sym i (List.drop i.toNat ps))) ∧ (True)
theorem tree.L0.eq  (sym : Int) (l : List Int) (n : Int) (g : List ByteArray × List ByteArray × List (Int × List Int)) (u : Unit × Unit × Unit) (v : Unit) (out : List Int) (ps : List (Int × List Int)) (len : Int) (i : Int) : tree.L0.g  sym l n g u v out ps len i = tree.L0.T  sym l n g u v out ps len i := by kernel_rfl
theorem tree.L0.ok  (sym : Int) (l : List Int) (n : Int) (g : List ByteArray × List ByteArray × List (Int × List Int)) (u : Unit × Unit × Unit) (v : Unit) (out : List Int) (ps : List (Int × List Int)) (len : Int) (i : Int) (hx : len = ps.length ∧ 0 ≤ i ∧ i ≤ len ∧ ps.length ≤ 99 ∧ out.length ≤ i.toNat) : tree.L0.T  sym l n g u v out ps len i := by
  obtain ⟨rfl, h0, h1, h2, h3⟩ := hx
  have w1 : IntKind.i64.wrap (i + 1) = i + 1 := wrapI64 (by omega) (by omega)
  rw [tree.L0.T, w1]
  have hD := fun h => drop_int (0, []) h0 (l := ps) h
  ((repeat' (first | exact trivial | apply And.intro)) <;> (intro hw; (try (simp only [true_and, and_true, decide_eq_true_eq, decide_eq_false_iff_not, beq_iff_eq, bne_iff_ne, beq_eq_false_iff_ne, bne_eq_false_iff_eq, ne_eq, Bool.not_eq_true, Bool.not_eq_false, not_true_eq_false, not_false_eq_true, Bool.not_eq_eq_eq_not, Bool.not_true, Bool.not_false, forall_const, imp_self, Bool.true_eq_false, Bool.false_eq_true, reduceCtorEq] at hw)); (try first | (exfalso; omega) | exact ⟨trivial, rfl⟩ | exact (hw hx).elim | exact (hw.2 hx).elim)))
  · rw [hD (by omega), prodsOf, if_pos hw.1.2]
    exact ⟨⟨rfl, by omega, by omega, h2, by simp only [List.length_append, List.length_singleton]; omega⟩, by simp only [tree.L0.mu]; omega, fun _ => ⟨trivial, by rw [List.append_assoc]; rfl⟩, trivial⟩
  · rw [hD (by omega), prodsOf, if_neg hw.2]
    exact ⟨⟨rfl, by omega, by omega, h2, by omega⟩, by simp only [tree.L0.mu]; omega, fun _ => ⟨trivial, rfl⟩, trivial⟩
  · rw [drop_int_end hw, prodsOf, List.append_nil]
    exact ⟨trivial, rfl⟩
theorem tree.L0.lp   : LpAt Try.prog 28 0 tree.L0 := lp_eval (l := []) (lf := 1000) (fun _ => cfOf_ok (fns_nil _)) (lps_nil _ _) (by kernel_rfl) _ (tree.L0.mu ) (fun ⟨sym, l, n, g, u, v, out, ps, len, i⟩ hx => (tree.L0.eq  sym l n g u v out ps len i).mpr (tree.L0.ok  sym l n g u v out ps len i hx))
noncomputable def tree.L2 (d : Nat) : LFace := ⟨[2, 3, 4, 8, 9, 13, 88, 89, 90], [.v (.sl (.int .i64)), .v (.int .i64), .p GR, .box 33 [.un, .un, .un], .un, .box 33 [.v (.int .i64), .v (.int .i64), .row .tree 33], .v (.sl (.int .i64)), .v (.int .i64), .v (.int .i64)], fun (l, n, g, u, v, t, syms, len, i) => some (len = syms.length ∧ 0 ≤ i ∧ i ≤ len ∧ syms.length ≤ 99 ∧ t.2.2.length ≤ i.toNat ∧ n = (d : Int) + 1 ∧ d ≤ 98 ∧ okG g),
  [⟨.normal, [2, 8, 9, 13], [.v (.sl (.int .i64)), .box 33 [.un, .un, .un], .un, .box 33 [.v (.int .i64), .v (.int .i64), .row .tree 33]], fun (l, n, g, u, v, t, syms, len, i) => ((kidsS (treeS d g) (syms.drop i.toNat) l).2, u, v, t.1, t.2.1, t.2.2 ++ (kidsS (treeS d g) (syms.drop i.toNat) l).1), fun (l, n, g, u, v, t, syms, len, i) => none⟩]⟩
noncomputable def tree.L2.mu (d : Nat) : dens (tree.L2 d).sh → Nat := fun (l, n, g, u, v, t, syms, len, i) => (len - i).toNat
noncomputable def tree.L2.g (d : Nat) (l : List Int) (n : Int) (g : List ByteArray × List ByteArray × List (Int × List Int)) (u : Unit × Unit × Unit) (v : Unit) (t : Int × Int × List Tree) (syms : List Int) (len : Int) (i : Int) : Prop := GoodLA Try.prog (cfOf [tree d]) [] 1000 28 2 (tree.L2 d) (tree.L2.mu d) (l, n, g, u, v, t, syms, len, i)
noncomputable def tree.L2.T0 (d : Nat) (l : List Int) (n : Int) (g : List ByteArray × List ByteArray × List (Int × List Int)) (u : Unit × Unit × Unit) (v : Unit) (t : Int × Int × List Tree) (syms : List Int) (len : Int) (i : Int) : Prop := (((True ∧ decide (i < len) = true) ∧ (0 : Int) ≤ i ∧ i < (↑syms.length : Int)) ∧ ¬(IntKind.i64.wrap (n - (1 : Int)) = (↑d : Int) ∧ d ≤ (99 : Nat) ∧ okG g) → False) ∧ ((((True ∧ decide (i < len) = true) ∧ (0 : Int) ≤ i ∧ i < (↑syms.length : Int)) ∧ IntKind.i64.wrap (n - (1 : Int)) = (↑d : Int) ∧ d ≤ (99 : Nat) ∧ okG g) ∧ (List.length t.snd.snd + (1 : Nat)) * (40 : Nat) ≤ (140737488355328 : Nat) →
  (len = (↑syms.length : Int) ∧ (0 : Int) ≤ IntKind.i64.wrap (i + (1 : Int)) ∧ IntKind.i64.wrap (i + (1 : Int)) ≤ len ∧ syms.length ≤ (99 : Nat) ∧ (t.snd.snd ++ [eT (treeS (IntKind.i64.wrap (n - (1 : Int))).toNat g (syms.getD i.toNat (0 : Int)) l).fst]).length ≤ (IntKind.i64.wrap (i + (1 : Int))).toNat ∧ n = (↑d : Int) + (1 : Int) ∧ d ≤ (98 : Nat) ∧ okG g) ∧ tree.L2.mu d ((treeS (IntKind.i64.wrap (n - (1 : Int))).toNat g (syms.getD i.toNat (0 : Int)) l).snd, n, g, ((), (), ()), (), (t.fst, t.snd.fst, t.snd.snd ++ [eT (treeS (IntKind.i64.wrap (n - (1 : Int))).toNat g (syms.getD i.toNat (0 : Int)) l).fst]), syms, len, IntKind.i64.wrap (i + (1 : Int))) < tree.L2.mu d (l, n, g, u, v, t, syms, len, i) ∧ (True → True ∧ ((kidsS (treeS d g) (List.drop (IntKind.i64.wrap (i + (1 : Int))).toNat syms) (treeS (IntKind.i64.wrap (n - (1 : Int))).toNat g (syms.getD i.toNat (0 : Int)) l).snd).snd, ((), (), ()), (), t.fst, t.snd.fst, t.snd.snd ++ [eT (treeS (IntKind.i64.wrap (n - (1 : Int))).toNat g (syms.getD i.toNat (0 : Int)) l).fst] ++ (kidsS (treeS d g) (List.drop (IntKind.i64.wrap (i + (1 : Int))).toNat syms) (treeS (IntKind.i64.wrap (n - (1 : Int))).toNat g (syms.getD i.toNat (0 : Int)) l).snd).fst) = ((kidsS (treeS d g) (List.drop i.toNat syms) l).snd, u, (), t.fst, t.snd.fst, t.snd.snd ++ (kidsS (treeS d g) (List.drop i.toNat syms) l).fst)) ∧ True) ∧ ((((True ∧ decide (i < len) = true) ∧ (0 : Int) ≤ i ∧ i < (↑syms.length : Int)) ∧ IntKind.i64.wrap (n - (1 : Int)) = (↑d : Int) ∧ d ≤ (99 : Nat) ∧ okG g) ∧ ¬(List.length t.snd.snd + (1 : Nat)) * (40 : Nat) ≤ (140737488355328 : Nat) → False) ∧ ((True ∧ decide (i < len) = true) ∧ ¬((0 : Int) ≤ i ∧ i < (↑syms.length : Int)) → False) ∧ (True ∧ decide (i < len) = false → True ∧ (l, ((), (), ()), (), t) = ((kidsS (treeS d g) (List.drop i.toNat syms) l).snd, u, (), t.fst, t.snd.fst, t.snd.snd ++ (kidsS (treeS d g) (List.drop i.toNat syms) l).fst)) ∧ (True)
theorem tree.L2.eq (d : Nat) (l : List Int) (n : Int) (g : List ByteArray × List ByteArray × List (Int × List Int)) (u : Unit × Unit × Unit) (v : Unit) (t : Int × Int × List Tree) (syms : List Int) (len : Int) (i : Int) : tree.L2.g d l n g u v t syms len i = tree.L2.T0 d l n g u v t syms len i := by kernel_rfl
theorem tree.L2.ok (d : Nat) (l : List Int) (n : Int) (g : List ByteArray × List ByteArray × List (Int × List Int)) (u : Unit × Unit × Unit) (v : Unit) (t : Int × Int × List Tree) (syms : List Int) (len : Int) (i : Int) (hx : len = syms.length ∧ 0 ≤ i ∧ i ≤ len ∧ syms.length ≤ 99 ∧ t.2.2.length ≤ i.toNat ∧ n = (d : Int) + 1 ∧ d ≤ 98 ∧ okG g) : tree.L2.T0 d l n g u v t syms len i := by
  unfold tree.L2.T0
  repeat rw [eT_eq]
  obtain ⟨rfl, h0, h1, h2, h3, rfl, h4, h5⟩ := hx
  have w1 : IntKind.i64.wrap (i + 1) = i + 1 := wrapI64 (by omega) (by omega)
  rw [w1]
  have w2 : IntKind.i64.wrap ((d : Int) + 1 - 1) = d := by rw [wrapI64 (by omega) (by omega)]; omega
  rw [w2, Int.toNat_natCast]
  have hD := fun h => drop_int 0 h0 (l := syms) h
  ((repeat' (first | exact trivial | apply And.intro)) <;> (intro hw; (try (simp only [true_and, and_true, decide_eq_true_eq, decide_eq_false_iff_not, beq_iff_eq, bne_iff_ne, beq_eq_false_iff_ne, bne_eq_false_iff_eq, ne_eq, Bool.not_eq_true, Bool.not_eq_false, not_true_eq_false, not_false_eq_true, Bool.not_eq_eq_eq_not, Bool.not_true, Bool.not_false, forall_const, imp_self, Bool.true_eq_false, Bool.false_eq_true, reduceCtorEq] at hw)); (try first | (exfalso; omega) | exact ⟨trivial, rfl⟩ | exact (hw hx).elim | exact (hw.2 hx).elim)))
  · exact hw.2 ⟨by omega, h5⟩
  · rw [hD (by omega), kidsS]
    exact ⟨⟨rfl, by omega, by omega, h2, by simp only [List.length_append, List.length_singleton]; omega, rfl, h4, h5⟩, by simp only [tree.L2.mu]; omega, fun _ => ⟨trivial, by rw [List.append_assoc]; rfl⟩, trivial⟩
  · rw [drop_int_end hw, kidsS, List.append_nil]
    exact ⟨trivial, rfl⟩
theorem tree.L2.lp (d : Nat) (ih : FnOk Try.prog (tree d)) : LpAt Try.prog 28 2 (tree.L2 d) := lp_eval (l := []) (lf := 1000) (fun _ => cfOf_ok (fns_cons ih (fns_nil _))) (lps_nil _ _) (by kernel_rfl) _ (tree.L2.mu d) (fun ⟨l, n, g, u, v, t, syms, len, i⟩ hx => (tree.L2.eq d l n g u v t syms len i).mpr (tree.L2.ok d l n g u v t syms len i hx))
theorem min1 {α : Type} (l : List α) : List.drop (if (l.length : Int) < 1 then (l.length : Int) else 1).toNat l = l.drop 1 := by
  cases l with
  | nil => rfl
  | cons a r => rw [if_neg (by simp only [List.length_cons]; omega)]; rfl
theorem getD_mem {α : Type} {x : α} : ∀ {l : List α} {i : Nat}, i < l.length → l.getD i x ∈ l
  | [], i, h => by simp at h
  | a :: r, 0, _ => by simp
  | a :: r, i + 1, h => by rw [List.getD_cons_succ]; exact List.mem_cons_of_mem _ (getD_mem (by simpa using h))
theorem prodsOf_get {g : Gr} (h : okG g) (sym x : Int) : (prodsOf sym 0 g.2.2).length = 0 ∨ (0 ≤ x % ((prodsOf sym 0 g.2.2).length : Int) ∧ x % ((prodsOf sym 0 g.2.2).length : Int) < (prodsOf sym 0 g.2.2).length ∧ 0 ≤ (prodsOf sym 0 g.2.2).getD (x % ((prodsOf sym 0 g.2.2).length : Int)).toNat 0 ∧ (prodsOf sym 0 g.2.2).getD (x % ((prodsOf sym 0 g.2.2).length : Int)).toNat 0 < g.2.2.length ∧ (g.2.2.getD ((prodsOf sym 0 g.2.2).getD (x % ((prodsOf sym 0 g.2.2).length : Int)).toNat 0).toNat (0, [])).2.length ≤ 6) := by
  by_cases h0 : (prodsOf sym 0 g.2.2).length = 0
  · exact .inl h0
  · right
    have e1 := Int.emod_nonneg x (show ((prodsOf sym 0 g.2.2).length : Int) ≠ 0 by omega)
    have e2 := Int.emod_lt_of_pos x (show (0 : Int) < (prodsOf sym 0 g.2.2).length by omega)
    have hm : (prodsOf sym 0 g.2.2).getD (x % ((prodsOf sym 0 g.2.2).length : Int)).toNat 0 ∈ prodsOf sym 0 g.2.2 := getD_mem (by omega)
    obtain ⟨m1, m2, _⟩ := prodsOf_mem hm
    refine ⟨e1, e2, m1, by omega, ?_⟩
    generalize (prodsOf sym 0 g.2.2).getD (x % ((prodsOf sym 0 g.2.2).length : Int)).toNat 0 = p at *
    exact h.2.2.2 _ (getD_mem (by omega))
noncomputable def treeA (d : Nat) : Face := ⟨28, [.v GR, .v (.int .i64), .v (.sl (.int .i64)), .v (.int .i64)], fun (g, sym, l, n) => some (n = (d : Int) + 1 ∧ d ≤ 98 ∧ okG g),
  [⟨false, [.v .tree, .v (.sl (.int .i64))], fun (g, sym, l, n) => treeS n.toNat g sym l, fun (g, sym, l, n) => none⟩]⟩
noncomputable def treeA.g (d : Nat) (g : List ByteArray × List ByteArray × List (Int × List Int)) (sym : Int) (l : List Int) (n : Int) : Prop := GoodFA Try.prog (cfOf [within]) [(0, tree.L0), (2, tree.L2 d)] 1000 (treeA d) (g, sym, l, n)
noncomputable def treeA.T (d : Nat) (g : List ByteArray × List ByteArray × List (Int × List Int)) (sym : Int) (l : List Int) (n : Int) : Prop := (((True ∧ decide (sym < (100 : Int)) = true) ∧ l.length ≤ (9223372036854775807 : Nat)) ∧ ¬(((0 : Int) ≤ if (↑l.length : Int) < (1 : Int) then (↑l.length : Int) else (1 : Int)) ∧ (if (↑l.length : Int) < (1 : Int) then (↑l.length : Int) else (1 : Int)) ≤ (↑l.length : Int) ∧ (↑l.length : Int) ≤ (↑l.length : Int)) →
  False) ∧ (((True ∧ decide (sym < (100 : Int)) = true) ∧ l.length ≤ (9223372036854775807 : Nat)) ∧ ((0 : Int) ≤ if (↑l.length : Int) < (1 : Int) then (↑l.length : Int) else (1 : Int)) ∧ (if (↑l.length : Int) < (1 : Int) then (↑l.length : Int) else (1 : Int)) ≤ (↑l.length : Int) ∧ (↑l.length : Int) ≤ (↑l.length : Int) →
  True ∧ (Tree.mk sym (-1 : Int) [], List.drop (if (↑l.length : Int) < (1 : Int) then (↑l.length : Int) else (1 : Int)).toNat (List.take (↑l.length : Int).toNat l)) = treeS n.toNat g sym l) ∧ (((True ∧ decide (sym < (100 : Int)) = true) ∧ l.length ≤ (9223372036854775807 : Nat)) ∧ ¬(((0 : Int) ≤ if (↑l.length : Int) < (1 : Int) then (↑l.length : Int) else (1 : Int)) ∧ (if (↑l.length : Int) < (1 : Int) then (↑l.length : Int) else (1 : Int)) ≤ (↑l.length : Int) ∧ (↑l.length : Int) ≤ (↑l.length : Int)) →
  False) ∧ (((True ∧ decide (sym < (100 : Int)) = true) ∧ l.length ≤ (9223372036854775807 : Nat)) ∧ ((0 : Int) ≤ if (↑l.length : Int) < (1 : Int) then (↑l.length : Int) else (1 : Int)) ∧ (if (↑l.length : Int) < (1 : Int) then (↑l.length : Int) else (1 : Int)) ≤ (↑l.length : Int) ∧ (↑l.length : Int) ≤ (↑l.length : Int) →
  True ∧ (Tree.mk sym (-1 : Int) [], List.drop (if (↑l.length : Int) < (1 : Int) then (↑l.length : Int) else (1 : Int)).toNat (List.take (↑l.length : Int).toNat l)) = treeS n.toNat g sym l) ∧ ((((True ∧ decide (sym < (100 : Int)) = false) ∧ (n == (0 : Int)) = true) ∧ l.length ≤ (9223372036854775807 : Nat)) ∧ ¬(((0 : Int) ≤ if (↑l.length : Int) < (1 : Int) then (↑l.length : Int) else (1 : Int)) ∧ (if (↑l.length : Int) < (1 : Int) then (↑l.length : Int) else (1 : Int)) ≤ (↑l.length : Int) ∧ (↑l.length : Int) ≤ (↑l.length : Int)) →
  False) ∧ ((((True ∧ decide (sym < (100 : Int)) = false) ∧ (n == (0 : Int)) = true) ∧ l.length ≤ (9223372036854775807 : Nat)) ∧ ((0 : Int) ≤ if (↑l.length : Int) < (1 : Int) then (↑l.length : Int) else (1 : Int)) ∧ (if (↑l.length : Int) < (1 : Int) then (↑l.length : Int) else (1 : Int)) ≤ (↑l.length : Int) ∧ (↑l.length : Int) ≤ (↑l.length : Int) →
  True ∧ (Tree.mk sym (-1 : Int) [], List.drop (if (↑l.length : Int) < (1 : Int) then (↑l.length : Int) else (1 : Int)).toNat (List.take (↑l.length : Int).toNat l)) = treeS n.toNat g sym l) ∧ ((((True ∧ decide (sym < (100 : Int)) = false) ∧ (n == (0 : Int)) = true) ∧ l.length ≤ (9223372036854775807 : Nat)) ∧ ¬(((0 : Int) ≤ if (↑l.length : Int) < (1 : Int) then (↑l.length : Int) else (1 : Int)) ∧ (if (↑l.length : Int) < (1 : Int) then (↑l.length : Int) else (1 : Int)) ≤ (↑l.length : Int) ∧ (↑l.length : Int) ≤ (↑l.length : Int)) →
  False) ∧ ((((True ∧ decide (sym < (100 : Int)) = false) ∧ (n == (0 : Int)) = true) ∧ l.length ≤ (9223372036854775807 : Nat)) ∧ ((0 : Int) ≤ if (↑l.length : Int) < (1 : Int) then (↑l.length : Int) else (1 : Int)) ∧ (if (↑l.length : Int) < (1 : Int) then (↑l.length : Int) else (1 : Int)) ≤ (↑l.length : Int) ∧ (↑l.length : Int) ≤ (↑l.length : Int) →
  True ∧ (Tree.mk sym (-1 : Int) [], List.drop (if (↑l.length : Int) < (1 : Int) then (↑l.length : Int) else (1 : Int)).toNat (List.take (↑l.length : Int).toNat l)) = treeS n.toNat g sym l) ∧ ((((((True ∧ decide (sym < (100 : Int)) = false) ∧ (n == (0 : Int)) = false) ∧ l.length ≤ (9223372036854775807 : Nat)) ∧ ((↑l.length : Int) == (0 : Int)) = true) ∧ l.length ≤ (9223372036854775807 : Nat)) ∧ ¬(((0 : Int) ≤ if (↑l.length : Int) < (1 : Int) then (↑l.length : Int) else (1 : Int)) ∧ (if (↑l.length : Int) < (1 : Int) then (↑l.length : Int) else (1 : Int)) ≤ (↑l.length : Int) ∧ (↑l.length : Int) ≤ (↑l.length : Int)) →
  False) ∧ ((((((True ∧ decide (sym < (100 : Int)) = false) ∧ (n == (0 : Int)) = false) ∧ l.length ≤ (9223372036854775807 : Nat)) ∧ ((↑l.length : Int) == (0 : Int)) = true) ∧ l.length ≤ (9223372036854775807 : Nat)) ∧ ((0 : Int) ≤ if (↑l.length : Int) < (1 : Int) then (↑l.length : Int) else (1 : Int)) ∧ (if (↑l.length : Int) < (1 : Int) then (↑l.length : Int) else (1 : Int)) ≤ (↑l.length : Int) ∧ (↑l.length : Int) ≤ (↑l.length : Int) →
  True ∧ (Tree.mk sym (-1 : Int) [], List.drop (if (↑l.length : Int) < (1 : Int) then (↑l.length : Int) else (1 : Int)).toNat (List.take (↑l.length : Int).toNat l)) = treeS n.toNat g sym l) ∧ ((((((True ∧ decide (sym < (100 : Int)) = false) ∧ (n == (0 : Int)) = false) ∧ l.length ≤ (9223372036854775807 : Nat)) ∧ ((↑l.length : Int) == (0 : Int)) = true) ∧ l.length ≤ (9223372036854775807 : Nat)) ∧ ¬(((0 : Int) ≤ if (↑l.length : Int) < (1 : Int) then (↑l.length : Int) else (1 : Int)) ∧ (if (↑l.length : Int) < (1 : Int) then (↑l.length : Int) else (1 : Int)) ≤ (↑l.length : Int) ∧ (↑l.length : Int) ≤ (↑l.length : Int)) →
  False) ∧ ((((((True ∧ decide (sym < (100 : Int)) = false) ∧ (n == (0 : Int)) = false) ∧ l.length ≤ (9223372036854775807 : Nat)) ∧ ((↑l.length : Int) == (0 : Int)) = true) ∧ l.length ≤ (9223372036854775807 : Nat)) ∧ ((0 : Int) ≤ if (↑l.length : Int) < (1 : Int) then (↑l.length : Int) else (1 : Int)) ∧ (if (↑l.length : Int) < (1 : Int) then (↑l.length : Int) else (1 : Int)) ≤ (↑l.length : Int) ∧ (↑l.length : Int) ≤ (↑l.length : Int) →
  True ∧ (Tree.mk sym (-1 : Int) [], List.drop (if (↑l.length : Int) < (1 : Int) then (↑l.length : Int) else (1 : Int)).toNat (List.take (↑l.length : Int).toNat l)) = treeS n.toNat g sym l) ∧ ((((((((True ∧ decide (sym < (100 : Int)) = false) ∧ (n == (0 : Int)) = false) ∧ l.length ≤ (9223372036854775807 : Nat)) ∧ ((↑l.length : Int) == (0 : Int)) = false) ∧ (0 : Int) ≤ (0 : Int) ∧ (0 : Int) < (↑l.length : Int)) ∧ ((l.getD (Int.toNat (0 : Int)) (0 : Int)).tmod (6 : Int) == (5 : Int)) = true) ∧ l.length ≤ (9223372036854775807 : Nat)) ∧ ¬(((0 : Int) ≤ if (↑l.length : Int) < (1 : Int) then (↑l.length : Int) else (1 : Int)) ∧ (if (↑l.length : Int) < (1 : Int) then (↑l.length : Int) else (1 : Int)) ≤ (↑l.length : Int) ∧ (↑l.length : Int) ≤ (↑l.length : Int)) →
  False) ∧ ((((((((True ∧ decide (sym < (100 : Int)) = false) ∧ (n == (0 : Int)) = false) ∧ l.length ≤ (9223372036854775807 : Nat)) ∧ ((↑l.length : Int) == (0 : Int)) = false) ∧ (0 : Int) ≤ (0 : Int) ∧ (0 : Int) < (↑l.length : Int)) ∧ ((l.getD (Int.toNat (0 : Int)) (0 : Int)).tmod (6 : Int) == (5 : Int)) = true) ∧ l.length ≤ (9223372036854775807 : Nat)) ∧ ((0 : Int) ≤ if (↑l.length : Int) < (1 : Int) then (↑l.length : Int) else (1 : Int)) ∧ (if (↑l.length : Int) < (1 : Int) then (↑l.length : Int) else (1 : Int)) ≤ (↑l.length : Int) ∧ (↑l.length : Int) ≤ (↑l.length : Int) →
  True ∧ (Tree.mk sym (-1 : Int) [], List.drop (if (↑l.length : Int) < (1 : Int) then (↑l.length : Int) else (1 : Int)).toNat (List.take (↑l.length : Int).toNat l)) = treeS n.toNat g sym l) ∧ ((((((((True ∧ decide (sym < (100 : Int)) = false) ∧ (n == (0 : Int)) = false) ∧ l.length ≤ (9223372036854775807 : Nat)) ∧ ((↑l.length : Int) == (0 : Int)) = false) ∧ (0 : Int) ≤ (0 : Int) ∧ (0 : Int) < (↑l.length : Int)) ∧ ((l.getD (Int.toNat (0 : Int)) (0 : Int)).tmod (6 : Int) == (5 : Int)) = true) ∧ l.length ≤ (9223372036854775807 : Nat)) ∧ ¬(((0 : Int) ≤ if (↑l.length : Int) < (1 : Int) then (↑l.length : Int) else (1 : Int)) ∧ (if (↑l.length : Int) < (1 : Int) then (↑l.length : Int) else (1 : Int)) ≤ (↑l.length : Int) ∧ (↑l.length : Int) ≤ (↑l.length : Int)) →
  False) ∧ ((((((((True ∧ decide (sym < (100 : Int)) = false) ∧ (n == (0 : Int)) = false) ∧ l.length ≤ (9223372036854775807 : Nat)) ∧ ((↑l.length : Int) == (0 : Int)) = false) ∧ (0 : Int) ≤ (0 : Int) ∧ (0 : Int) < (↑l.length : Int)) ∧ ((l.getD (Int.toNat (0 : Int)) (0 : Int)).tmod (6 : Int) == (5 : Int)) = true) ∧ l.length ≤ (9223372036854775807 : Nat)) ∧ ((0 : Int) ≤ if (↑l.length : Int) < (1 : Int) then (↑l.length : Int) else (1 : Int)) ∧ (if (↑l.length : Int) < (1 : Int) then (↑l.length : Int) else (1 : Int)) ≤ (↑l.length : Int) ∧ (↑l.length : Int) ≤ (↑l.length : Int) →
  True ∧ (Tree.mk sym (-1 : Int) [], List.drop (if (↑l.length : Int) < (1 : Int) then (↑l.length : Int) else (1 : Int)).toNat (List.take (↑l.length : Int).toNat l)) = treeS n.toNat g sym l) ∧ ((((((((True ∧ decide (sym < (100 : Int)) = false) ∧ (n == (0 : Int)) = false) ∧ l.length ≤ (9223372036854775807 : Nat)) ∧ ((↑l.length : Int) == (0 : Int)) = false) ∧ (0 : Int) ≤ (0 : Int) ∧ (0 : Int) < (↑l.length : Int)) ∧ ((l.getD (Int.toNat (0 : Int)) (0 : Int)).tmod (6 : Int) == (5 : Int)) = false) ∧ List.length g.snd.snd ≤ (9223372036854775807 : Nat)) ∧ ¬((↑(List.length g.snd.snd) : Int) = (↑(List.length g.snd.snd) : Int) ∧ (0 : Int) ≤ (0 : Int) ∧ (0 : Int) ≤ (↑(List.length g.snd.snd) : Int) ∧ List.length g.snd.snd ≤ (99 : Nat) ∧ (0 : Nat) ≤ Int.toNat (0 : Int)) →
  False) ∧ ((((((((((((True ∧ decide (sym < (100 : Int)) = false) ∧ (n == (0 : Int)) = false) ∧ l.length ≤ (9223372036854775807 : Nat)) ∧ ((↑l.length : Int) == (0 : Int)) = false) ∧ (0 : Int) ≤ (0 : Int) ∧ (0 : Int) < (↑l.length : Int)) ∧ ((l.getD (Int.toNat (0 : Int)) (0 : Int)).tmod (6 : Int) == (5 : Int)) = false) ∧ List.length g.snd.snd ≤ (9223372036854775807 : Nat)) ∧ (↑(List.length g.snd.snd) : Int) = (↑(List.length g.snd.snd) : Int) ∧ (0 : Int) ≤ (0 : Int) ∧ (0 : Int) ≤ (↑(List.length g.snd.snd) : Int) ∧ List.length g.snd.snd ≤ (99 : Nat) ∧ (0 : Nat) ≤ Int.toNat (0 : Int)) ∧ ([] ++ prodsOf sym (0 : Int) (List.drop (Int.toNat (0 : Int)) g.snd.snd)).length ≤ (9223372036854775807 : Nat)) ∧ ((↑([] ++ prodsOf sym (0 : Int) (List.drop (Int.toNat (0 : Int)) g.snd.snd)).length : Int) == (0 : Int)) = true) ∧ l.length ≤ (9223372036854775807 : Nat)) ∧ ¬(((0 : Int) ≤ if (↑l.length : Int) < (1 : Int) then (↑l.length : Int) else (1 : Int)) ∧ (if (↑l.length : Int) < (1 : Int) then (↑l.length : Int) else (1 : Int)) ≤ (↑l.length : Int) ∧ (↑l.length : Int) ≤ (↑l.length : Int)) →
  False) ∧ ((((((((((((True ∧ decide (sym < (100 : Int)) = false) ∧ (n == (0 : Int)) = false) ∧ l.length ≤ (9223372036854775807 : Nat)) ∧ ((↑l.length : Int) == (0 : Int)) = false) ∧ (0 : Int) ≤ (0 : Int) ∧ (0 : Int) < (↑l.length : Int)) ∧ ((l.getD (Int.toNat (0 : Int)) (0 : Int)).tmod (6 : Int) == (5 : Int)) = false) ∧ List.length g.snd.snd ≤ (9223372036854775807 : Nat)) ∧ (↑(List.length g.snd.snd) : Int) = (↑(List.length g.snd.snd) : Int) ∧ (0 : Int) ≤ (0 : Int) ∧ (0 : Int) ≤ (↑(List.length g.snd.snd) : Int) ∧ List.length g.snd.snd ≤ (99 : Nat) ∧ (0 : Nat) ≤ Int.toNat (0 : Int)) ∧ ([] ++ prodsOf sym (0 : Int) (List.drop (Int.toNat (0 : Int)) g.snd.snd)).length ≤ (9223372036854775807 : Nat)) ∧ ((↑([] ++ prodsOf sym (0 : Int) (List.drop (Int.toNat (0 : Int)) g.snd.snd)).length : Int) == (0 : Int)) = true) ∧ l.length ≤ (9223372036854775807 : Nat)) ∧ ((0 : Int) ≤ if (↑l.length : Int) < (1 : Int) then (↑l.length : Int) else (1 : Int)) ∧ (if (↑l.length : Int) < (1 : Int) then (↑l.length : Int) else (1 : Int)) ≤ (↑l.length : Int) ∧ (↑l.length : Int) ≤ (↑l.length : Int) →
  True ∧ (Tree.mk sym (-1 : Int) [], List.drop (if (↑l.length : Int) < (1 : Int) then (↑l.length : Int) else (1 : Int)).toNat (List.take (↑l.length : Int).toNat l)) = treeS n.toNat g sym l) ∧ ((((((((((((True ∧ decide (sym < (100 : Int)) = false) ∧ (n == (0 : Int)) = false) ∧ l.length ≤ (9223372036854775807 : Nat)) ∧ ((↑l.length : Int) == (0 : Int)) = false) ∧ (0 : Int) ≤ (0 : Int) ∧ (0 : Int) < (↑l.length : Int)) ∧ ((l.getD (Int.toNat (0 : Int)) (0 : Int)).tmod (6 : Int) == (5 : Int)) = false) ∧ List.length g.snd.snd ≤ (9223372036854775807 : Nat)) ∧ (↑(List.length g.snd.snd) : Int) = (↑(List.length g.snd.snd) : Int) ∧ (0 : Int) ≤ (0 : Int) ∧ (0 : Int) ≤ (↑(List.length g.snd.snd) : Int) ∧ List.length g.snd.snd ≤ (99 : Nat) ∧ (0 : Nat) ≤ Int.toNat (0 : Int)) ∧ ([] ++ prodsOf sym (0 : Int) (List.drop (Int.toNat (0 : Int)) g.snd.snd)).length ≤ (9223372036854775807 : Nat)) ∧ ((↑([] ++ prodsOf sym (0 : Int) (List.drop (Int.toNat (0 : Int)) g.snd.snd)).length : Int) == (0 : Int)) = true) ∧ l.length ≤ (9223372036854775807 : Nat)) ∧ ¬(((0 : Int) ≤ if (↑l.length : Int) < (1 : Int) then (↑l.length : Int) else (1 : Int)) ∧ (if (↑l.length : Int) < (1 : Int) then (↑l.length : Int) else (1 : Int)) ≤ (↑l.length : Int) ∧ (↑l.length : Int) ≤ (↑l.length : Int)) →
  False) ∧ ((((((((((((True ∧ decide (sym < (100 : Int)) = false) ∧ (n == (0 : Int)) = false) ∧ l.length ≤ (9223372036854775807 : Nat)) ∧ ((↑l.length : Int) == (0 : Int)) = false) ∧ (0 : Int) ≤ (0 : Int) ∧ (0 : Int) < (↑l.length : Int)) ∧ ((l.getD (Int.toNat (0 : Int)) (0 : Int)).tmod (6 : Int) == (5 : Int)) = false) ∧ List.length g.snd.snd ≤ (9223372036854775807 : Nat)) ∧ (↑(List.length g.snd.snd) : Int) = (↑(List.length g.snd.snd) : Int) ∧ (0 : Int) ≤ (0 : Int) ∧ (0 : Int) ≤ (↑(List.length g.snd.snd) : Int) ∧ List.length g.snd.snd ≤ (99 : Nat) ∧ (0 : Nat) ≤ Int.toNat (0 : Int)) ∧ ([] ++ prodsOf sym (0 : Int) (List.drop (Int.toNat (0 : Int)) g.snd.snd)).length ≤ (9223372036854775807 : Nat)) ∧ ((↑([] ++ prodsOf sym (0 : Int) (List.drop (Int.toNat (0 : Int)) g.snd.snd)).length : Int) == (0 : Int)) = true) ∧ l.length ≤ (9223372036854775807 : Nat)) ∧ ((0 : Int) ≤ if (↑l.length : Int) < (1 : Int) then (↑l.length : Int) else (1 : Int)) ∧ (if (↑l.length : Int) < (1 : Int) then (↑l.length : Int) else (1 : Int)) ≤ (↑l.length : Int) ∧ (↑l.length : Int) ≤ (↑l.length : Int) →
  True ∧ (Tree.mk sym (-1 : Int) [], List.drop (if (↑l.length : Int) < (1 : Int) then (↑l.length : Int) else (1 : Int)).toNat (List.take (↑l.length : Int).toNat l)) = treeS n.toNat g sym l) ∧ (((((((((((((True ∧ decide (sym < (100 : Int)) = false) ∧ (n == (0 : Int)) = false) ∧ l.length ≤ (9223372036854775807 : Nat)) ∧ ((↑l.length : Int) == (0 : Int)) = false) ∧ (0 : Int) ≤ (0 : Int) ∧ (0 : Int) < (↑l.length : Int)) ∧ ((l.getD (Int.toNat (0 : Int)) (0 : Int)).tmod (6 : Int) == (5 : Int)) = false) ∧ List.length g.snd.snd ≤ (9223372036854775807 : Nat)) ∧ (↑(List.length g.snd.snd) : Int) = (↑(List.length g.snd.snd) : Int) ∧ (0 : Int) ≤ (0 : Int) ∧ (0 : Int) ≤ (↑(List.length g.snd.snd) : Int) ∧ List.length g.snd.snd ≤ (99 : Nat) ∧ (0 : Nat) ≤ Int.toNat (0 : Int)) ∧ ([] ++ prodsOf sym (0 : Int) (List.drop (Int.toNat (0 : Int)) g.snd.snd)).length ≤ (9223372036854775807 : Nat)) ∧ ((↑([] ++ prodsOf sym (0 : Int) (List.drop (Int.toNat (0 : Int)) g.snd.snd)).length : Int) == (0 : Int)) = false) ∧ (0 : Int) ≤ (0 : Int) ∧ (0 : Int) < (↑l.length : Int)) ∧ ([] ++ prodsOf sym (0 : Int) (List.drop (Int.toNat (0 : Int)) g.snd.snd)).length ≤ (9223372036854775807 : Nat)) ∧ ¬((0 : Int) < (↑([] ++ prodsOf sym (0 : Int) (List.drop (Int.toNat (0 : Int)) g.snd.snd)).length : Int) ∧ (↑([] ++ prodsOf sym (0 : Int) (List.drop (Int.toNat (0 : Int)) g.snd.snd)).length : Int) ≤ (9223372036854775807 : Int)) →
  False) ∧ (((((((((((((((((((True ∧ decide (sym < (100 : Int)) = false) ∧ (n == (0 : Int)) = false) ∧ l.length ≤ (9223372036854775807 : Nat)) ∧ ((↑l.length : Int) == (0 : Int)) = false) ∧ (0 : Int) ≤ (0 : Int) ∧ (0 : Int) < (↑l.length : Int)) ∧ ((l.getD (Int.toNat (0 : Int)) (0 : Int)).tmod (6 : Int) == (5 : Int)) = false) ∧ List.length g.snd.snd ≤ (9223372036854775807 : Nat)) ∧ (↑(List.length g.snd.snd) : Int) = (↑(List.length g.snd.snd) : Int) ∧ (0 : Int) ≤ (0 : Int) ∧ (0 : Int) ≤ (↑(List.length g.snd.snd) : Int) ∧ List.length g.snd.snd ≤ (99 : Nat) ∧ (0 : Nat) ≤ Int.toNat (0 : Int)) ∧ ([] ++ prodsOf sym (0 : Int) (List.drop (Int.toNat (0 : Int)) g.snd.snd)).length ≤ (9223372036854775807 : Nat)) ∧ ((↑([] ++ prodsOf sym (0 : Int) (List.drop (Int.toNat (0 : Int)) g.snd.snd)).length : Int) == (0 : Int)) = false) ∧ (0 : Int) ≤ (0 : Int) ∧ (0 : Int) < (↑l.length : Int)) ∧ ([] ++ prodsOf sym (0 : Int) (List.drop (Int.toNat (0 : Int)) g.snd.snd)).length ≤ (9223372036854775807 : Nat)) ∧ (0 : Int) < (↑([] ++ prodsOf sym (0 : Int) (List.drop (Int.toNat (0 : Int)) g.snd.snd)).length : Int) ∧ (↑([] ++ prodsOf sym (0 : Int) (List.drop (Int.toNat (0 : Int)) g.snd.snd)).length : Int) ≤ (9223372036854775807 : Int)) ∧ (0 : Int) ≤ l.getD (Int.toNat (0 : Int)) (0 : Int) % (↑([] ++ prodsOf sym (0 : Int) (List.drop (Int.toNat (0 : Int)) g.snd.snd)).length : Int) ∧ l.getD (Int.toNat (0 : Int)) (0 : Int) % (↑([] ++ prodsOf sym (0 : Int) (List.drop (Int.toNat (0 : Int)) g.snd.snd)).length : Int) < (↑([] ++ prodsOf sym (0 : Int) (List.drop (Int.toNat (0 : Int)) g.snd.snd)).length : Int)) ∧ (l.getD (Int.toNat (0 : Int)) (0 : Int) % (↑([] ++ prodsOf sym (0 : Int) (List.drop (Int.toNat (0 : Int)) g.snd.snd)).length : Int)).toNat < ([] ++ prodsOf sym (0 : Int) (List.drop (Int.toNat (0 : Int)) g.snd.snd)).length) ∧ (0 : Int) ≤ (1 : Int) ∧ (1 : Int) ≤ (↑l.length : Int) ∧ (↑l.length : Int) ≤ (↑l.length : Int)) ∧ (0 : Int) ≤ ([] ++ prodsOf sym (0 : Int) (List.drop (Int.toNat (0 : Int)) g.snd.snd)).getD (l.getD (Int.toNat (0 : Int)) (0 : Int) % (↑([] ++ prodsOf sym (0 : Int) (List.drop (Int.toNat (0 : Int)) g.snd.snd)).length : Int)).toNat (0 : Int) ∧ ([] ++ prodsOf sym (0 : Int) (List.drop (Int.toNat (0 : Int)) g.snd.snd)).getD (l.getD (Int.toNat (0 : Int)) (0 : Int) % (↑([] ++ prodsOf sym (0 : Int) (List.drop (Int.toNat (0 : Int)) g.snd.snd)).length : Int)).toNat (0 : Int) < (↑(List.length g.snd.snd) : Int)) ∧ List.length (List.getD g.snd.snd (([] ++ prodsOf sym (0 : Int) (List.drop (Int.toNat (0 : Int)) g.snd.snd)).getD (l.getD (Int.toNat (0 : Int)) (0 : Int) % (↑([] ++ prodsOf sym (0 : Int) (List.drop (Int.toNat (0 : Int)) g.snd.snd)).length : Int)).toNat (0 : Int)).toNat ((0 : Int), [])).snd ≤ (9223372036854775807 : Nat)) ∧ ¬((↑(List.length (List.getD g.snd.snd (([] ++ prodsOf sym (0 : Int) (List.drop (Int.toNat (0 : Int)) g.snd.snd)).getD (l.getD (Int.toNat (0 : Int)) (0 : Int) % (↑([] ++ prodsOf sym (0 : Int) (List.drop (Int.toNat (0 : Int)) g.snd.snd)).length : Int)).toNat (0 : Int)).toNat ((0 : Int), [])).snd) : Int) = (↑(List.length (List.getD g.snd.snd (([] ++ prodsOf sym (0 : Int) (List.drop (Int.toNat (0 : Int)) g.snd.snd)).getD (l.getD (Int.toNat (0 : Int)) (0 : Int) % (↑([] ++ prodsOf sym (0 : Int) (List.drop (Int.toNat (0 : Int)) g.snd.snd)).length : Int)).toNat (0 : Int)).toNat ((0 : Int), [])).snd) : Int) ∧ (0 : Int) ≤ (0 : Int) ∧ (0 : Int) ≤ (↑(List.length (List.getD g.snd.snd (([] ++ prodsOf sym (0 : Int) (List.drop (Int.toNat (0 : Int)) g.snd.snd)).getD (l.getD (Int.toNat (0 : Int)) (0 : Int) % (↑([] ++ prodsOf sym (0 : Int) (List.drop (Int.toNat (0 : Int)) g.snd.snd)).length : Int)).toNat (0 : Int)).toNat ((0 : Int), [])).snd) : Int) ∧ List.length (List.getD g.snd.snd (([] ++ prodsOf sym (0 : Int) (List.drop (Int.toNat (0 : Int)) g.snd.snd)).getD (l.getD (Int.toNat (0 : Int)) (0 : Int) % (↑([] ++ prodsOf sym (0 : Int) (List.drop (Int.toNat (0 : Int)) g.snd.snd)).length : Int)).toNat (0 : Int)).toNat ((0 : Int), [])).snd ≤ (99 : Nat) ∧ (0 : Nat) ≤ Int.toNat (0 : Int) ∧ n = (↑d : Int) + (1 : Int) ∧ d ≤ (98 : Nat) ∧ okG g) →
  False) ∧ (((((((((((((((((((True ∧ decide (sym < (100 : Int)) = false) ∧ (n == (0 : Int)) = false) ∧ l.length ≤ (9223372036854775807 : Nat)) ∧ ((↑l.length : Int) == (0 : Int)) = false) ∧ (0 : Int) ≤ (0 : Int) ∧ (0 : Int) < (↑l.length : Int)) ∧ ((l.getD (Int.toNat (0 : Int)) (0 : Int)).tmod (6 : Int) == (5 : Int)) = false) ∧ List.length g.snd.snd ≤ (9223372036854775807 : Nat)) ∧ (↑(List.length g.snd.snd) : Int) = (↑(List.length g.snd.snd) : Int) ∧ (0 : Int) ≤ (0 : Int) ∧ (0 : Int) ≤ (↑(List.length g.snd.snd) : Int) ∧ List.length g.snd.snd ≤ (99 : Nat) ∧ (0 : Nat) ≤ Int.toNat (0 : Int)) ∧ ([] ++ prodsOf sym (0 : Int) (List.drop (Int.toNat (0 : Int)) g.snd.snd)).length ≤ (9223372036854775807 : Nat)) ∧ ((↑([] ++ prodsOf sym (0 : Int) (List.drop (Int.toNat (0 : Int)) g.snd.snd)).length : Int) == (0 : Int)) = false) ∧ (0 : Int) ≤ (0 : Int) ∧ (0 : Int) < (↑l.length : Int)) ∧ ([] ++ prodsOf sym (0 : Int) (List.drop (Int.toNat (0 : Int)) g.snd.snd)).length ≤ (9223372036854775807 : Nat)) ∧ (0 : Int) < (↑([] ++ prodsOf sym (0 : Int) (List.drop (Int.toNat (0 : Int)) g.snd.snd)).length : Int) ∧ (↑([] ++ prodsOf sym (0 : Int) (List.drop (Int.toNat (0 : Int)) g.snd.snd)).length : Int) ≤ (9223372036854775807 : Int)) ∧ (0 : Int) ≤ l.getD (Int.toNat (0 : Int)) (0 : Int) % (↑([] ++ prodsOf sym (0 : Int) (List.drop (Int.toNat (0 : Int)) g.snd.snd)).length : Int) ∧ l.getD (Int.toNat (0 : Int)) (0 : Int) % (↑([] ++ prodsOf sym (0 : Int) (List.drop (Int.toNat (0 : Int)) g.snd.snd)).length : Int) < (↑([] ++ prodsOf sym (0 : Int) (List.drop (Int.toNat (0 : Int)) g.snd.snd)).length : Int)) ∧ (l.getD (Int.toNat (0 : Int)) (0 : Int) % (↑([] ++ prodsOf sym (0 : Int) (List.drop (Int.toNat (0 : Int)) g.snd.snd)).length : Int)).toNat < ([] ++ prodsOf sym (0 : Int) (List.drop (Int.toNat (0 : Int)) g.snd.snd)).length) ∧ (0 : Int) ≤ (1 : Int) ∧ (1 : Int) ≤ (↑l.length : Int) ∧ (↑l.length : Int) ≤ (↑l.length : Int)) ∧ (0 : Int) ≤ ([] ++ prodsOf sym (0 : Int) (List.drop (Int.toNat (0 : Int)) g.snd.snd)).getD (l.getD (Int.toNat (0 : Int)) (0 : Int) % (↑([] ++ prodsOf sym (0 : Int) (List.drop (Int.toNat (0 : Int)) g.snd.snd)).length : Int)).toNat (0 : Int) ∧ ([] ++ prodsOf sym (0 : Int) (List.drop (Int.toNat (0 : Int)) g.snd.snd)).getD (l.getD (Int.toNat (0 : Int)) (0 : Int) % (↑([] ++ prodsOf sym (0 : Int) (List.drop (Int.toNat (0 : Int)) g.snd.snd)).length : Int)).toNat (0 : Int) < (↑(List.length g.snd.snd) : Int)) ∧ List.length (List.getD g.snd.snd (([] ++ prodsOf sym (0 : Int) (List.drop (Int.toNat (0 : Int)) g.snd.snd)).getD (l.getD (Int.toNat (0 : Int)) (0 : Int) % (↑([] ++ prodsOf sym (0 : Int) (List.drop (Int.toNat (0 : Int)) g.snd.snd)).length : Int)).toNat (0 : Int)).toNat ((0 : Int), [])).snd ≤ (9223372036854775807 : Nat)) ∧ (↑(List.length (List.getD g.snd.snd (([] ++ prodsOf sym (0 : Int) (List.drop (Int.toNat (0 : Int)) g.snd.snd)).getD (l.getD (Int.toNat (0 : Int)) (0 : Int) % (↑([] ++ prodsOf sym (0 : Int) (List.drop (Int.toNat (0 : Int)) g.snd.snd)).length : Int)).toNat (0 : Int)).toNat ((0 : Int), [])).snd) : Int) = (↑(List.length (List.getD g.snd.snd (([] ++ prodsOf sym (0 : Int) (List.drop (Int.toNat (0 : Int)) g.snd.snd)).getD (l.getD (Int.toNat (0 : Int)) (0 : Int) % (↑([] ++ prodsOf sym (0 : Int) (List.drop (Int.toNat (0 : Int)) g.snd.snd)).length : Int)).toNat (0 : Int)).toNat ((0 : Int), [])).snd) : Int) ∧ (0 : Int) ≤ (0 : Int) ∧ (0 : Int) ≤ (↑(List.length (List.getD g.snd.snd (([] ++ prodsOf sym (0 : Int) (List.drop (Int.toNat (0 : Int)) g.snd.snd)).getD (l.getD (Int.toNat (0 : Int)) (0 : Int) % (↑([] ++ prodsOf sym (0 : Int) (List.drop (Int.toNat (0 : Int)) g.snd.snd)).length : Int)).toNat (0 : Int)).toNat ((0 : Int), [])).snd) : Int) ∧ List.length (List.getD g.snd.snd (([] ++ prodsOf sym (0 : Int) (List.drop (Int.toNat (0 : Int)) g.snd.snd)).getD (l.getD (Int.toNat (0 : Int)) (0 : Int) % (↑([] ++ prodsOf sym (0 : Int) (List.drop (Int.toNat (0 : Int)) g.snd.snd)).length : Int)).toNat (0 : Int)).toNat ((0 : Int), [])).snd ≤ (99 : Nat) ∧ (0 : Nat) ≤ Int.toNat (0 : Int) ∧ n = (↑d : Int) + (1 : Int) ∧ d ≤ (98 : Nat) ∧ okG g →
  True ∧ (Tree.mk sym (([] ++ prodsOf sym (0 : Int) (List.drop (Int.toNat (0 : Int)) g.snd.snd)).getD (l.getD (Int.toNat (0 : Int)) (0 : Int) % (↑([] ++ prodsOf sym (0 : Int) (List.drop (Int.toNat (0 : Int)) g.snd.snd)).length : Int)).toNat (0 : Int)) ([] ++ (kidsS (treeS d g) (List.drop (Int.toNat (0 : Int)) (List.getD g.snd.snd (([] ++ prodsOf sym (0 : Int) (List.drop (Int.toNat (0 : Int)) g.snd.snd)).getD (l.getD (Int.toNat (0 : Int)) (0 : Int) % (↑([] ++ prodsOf sym (0 : Int) (List.drop (Int.toNat (0 : Int)) g.snd.snd)).length : Int)).toNat (0 : Int)).toNat ((0 : Int), ([] : List Int))).snd) (List.drop (Int.toNat (1 : Int)) (List.take (↑l.length : Int).toNat l))).fst), (kidsS (treeS d g) (List.drop (Int.toNat (0 : Int)) (List.getD g.snd.snd (([] ++ prodsOf sym (0 : Int) (List.drop (Int.toNat (0 : Int)) g.snd.snd)).getD (l.getD (Int.toNat (0 : Int)) (0 : Int) % (↑([] ++ prodsOf sym (0 : Int) (List.drop (Int.toNat (0 : Int)) g.snd.snd)).length : Int)).toNat (0 : Int)).toNat ((0 : Int), ([] : List Int))).snd) (List.drop (Int.toNat (1 : Int)) (List.take (↑l.length : Int).toNat l))).snd) = treeS n.toNat g sym l) ∧ (((((((((((((((((True ∧ decide (sym < (100 : Int)) = false) ∧ (n == (0 : Int)) = false) ∧ l.length ≤ (9223372036854775807 : Nat)) ∧ ((↑l.length : Int) == (0 : Int)) = false) ∧ (0 : Int) ≤ (0 : Int) ∧ (0 : Int) < (↑l.length : Int)) ∧ ((l.getD (Int.toNat (0 : Int)) (0 : Int)).tmod (6 : Int) == (5 : Int)) = false) ∧ List.length g.snd.snd ≤ (9223372036854775807 : Nat)) ∧ (↑(List.length g.snd.snd) : Int) = (↑(List.length g.snd.snd) : Int) ∧ (0 : Int) ≤ (0 : Int) ∧ (0 : Int) ≤ (↑(List.length g.snd.snd) : Int) ∧ List.length g.snd.snd ≤ (99 : Nat) ∧ (0 : Nat) ≤ Int.toNat (0 : Int)) ∧ ([] ++ prodsOf sym (0 : Int) (List.drop (Int.toNat (0 : Int)) g.snd.snd)).length ≤ (9223372036854775807 : Nat)) ∧ ((↑([] ++ prodsOf sym (0 : Int) (List.drop (Int.toNat (0 : Int)) g.snd.snd)).length : Int) == (0 : Int)) = false) ∧ (0 : Int) ≤ (0 : Int) ∧ (0 : Int) < (↑l.length : Int)) ∧ ([] ++ prodsOf sym (0 : Int) (List.drop (Int.toNat (0 : Int)) g.snd.snd)).length ≤ (9223372036854775807 : Nat)) ∧ (0 : Int) < (↑([] ++ prodsOf sym (0 : Int) (List.drop (Int.toNat (0 : Int)) g.snd.snd)).length : Int) ∧ (↑([] ++ prodsOf sym (0 : Int) (List.drop (Int.toNat (0 : Int)) g.snd.snd)).length : Int) ≤ (9223372036854775807 : Int)) ∧ (0 : Int) ≤ l.getD (Int.toNat (0 : Int)) (0 : Int) % (↑([] ++ prodsOf sym (0 : Int) (List.drop (Int.toNat (0 : Int)) g.snd.snd)).length : Int) ∧ l.getD (Int.toNat (0 : Int)) (0 : Int) % (↑([] ++ prodsOf sym (0 : Int) (List.drop (Int.toNat (0 : Int)) g.snd.snd)).length : Int) < (↑([] ++ prodsOf sym (0 : Int) (List.drop (Int.toNat (0 : Int)) g.snd.snd)).length : Int)) ∧ (l.getD (Int.toNat (0 : Int)) (0 : Int) % (↑([] ++ prodsOf sym (0 : Int) (List.drop (Int.toNat (0 : Int)) g.snd.snd)).length : Int)).toNat < ([] ++ prodsOf sym (0 : Int) (List.drop (Int.toNat (0 : Int)) g.snd.snd)).length) ∧ (0 : Int) ≤ (1 : Int) ∧ (1 : Int) ≤ (↑l.length : Int) ∧ (↑l.length : Int) ≤ (↑l.length : Int)) ∧ ¬((0 : Int) ≤ ([] ++ prodsOf sym (0 : Int) (List.drop (Int.toNat (0 : Int)) g.snd.snd)).getD (l.getD (Int.toNat (0 : Int)) (0 : Int) % (↑([] ++ prodsOf sym (0 : Int) (List.drop (Int.toNat (0 : Int)) g.snd.snd)).length : Int)).toNat (0 : Int) ∧ ([] ++ prodsOf sym (0 : Int) (List.drop (Int.toNat (0 : Int)) g.snd.snd)).getD (l.getD (Int.toNat (0 : Int)) (0 : Int) % (↑([] ++ prodsOf sym (0 : Int) (List.drop (Int.toNat (0 : Int)) g.snd.snd)).length : Int)).toNat (0 : Int) < (↑(List.length g.snd.snd) : Int)) →
  False) ∧ ((((((((((((((((True ∧ decide (sym < (100 : Int)) = false) ∧ (n == (0 : Int)) = false) ∧ l.length ≤ (9223372036854775807 : Nat)) ∧ ((↑l.length : Int) == (0 : Int)) = false) ∧ (0 : Int) ≤ (0 : Int) ∧ (0 : Int) < (↑l.length : Int)) ∧ ((l.getD (Int.toNat (0 : Int)) (0 : Int)).tmod (6 : Int) == (5 : Int)) = false) ∧ List.length g.snd.snd ≤ (9223372036854775807 : Nat)) ∧ (↑(List.length g.snd.snd) : Int) = (↑(List.length g.snd.snd) : Int) ∧ (0 : Int) ≤ (0 : Int) ∧ (0 : Int) ≤ (↑(List.length g.snd.snd) : Int) ∧ List.length g.snd.snd ≤ (99 : Nat) ∧ (0 : Nat) ≤ Int.toNat (0 : Int)) ∧ ([] ++ prodsOf sym (0 : Int) (List.drop (Int.toNat (0 : Int)) g.snd.snd)).length ≤ (9223372036854775807 : Nat)) ∧ ((↑([] ++ prodsOf sym (0 : Int) (List.drop (Int.toNat (0 : Int)) g.snd.snd)).length : Int) == (0 : Int)) = false) ∧ (0 : Int) ≤ (0 : Int) ∧ (0 : Int) < (↑l.length : Int)) ∧ ([] ++ prodsOf sym (0 : Int) (List.drop (Int.toNat (0 : Int)) g.snd.snd)).length ≤ (9223372036854775807 : Nat)) ∧ (0 : Int) < (↑([] ++ prodsOf sym (0 : Int) (List.drop (Int.toNat (0 : Int)) g.snd.snd)).length : Int) ∧ (↑([] ++ prodsOf sym (0 : Int) (List.drop (Int.toNat (0 : Int)) g.snd.snd)).length : Int) ≤ (9223372036854775807 : Int)) ∧ (0 : Int) ≤ l.getD (Int.toNat (0 : Int)) (0 : Int) % (↑([] ++ prodsOf sym (0 : Int) (List.drop (Int.toNat (0 : Int)) g.snd.snd)).length : Int) ∧ l.getD (Int.toNat (0 : Int)) (0 : Int) % (↑([] ++ prodsOf sym (0 : Int) (List.drop (Int.toNat (0 : Int)) g.snd.snd)).length : Int) < (↑([] ++ prodsOf sym (0 : Int) (List.drop (Int.toNat (0 : Int)) g.snd.snd)).length : Int)) ∧ (l.getD (Int.toNat (0 : Int)) (0 : Int) % (↑([] ++ prodsOf sym (0 : Int) (List.drop (Int.toNat (0 : Int)) g.snd.snd)).length : Int)).toNat < ([] ++ prodsOf sym (0 : Int) (List.drop (Int.toNat (0 : Int)) g.snd.snd)).length) ∧ ¬((0 : Int) ≤ (1 : Int) ∧ (1 : Int) ≤ (↑l.length : Int) ∧ (↑l.length : Int) ≤ (↑l.length : Int)) →
  False) ∧ (((((((((((((((True ∧ decide (sym < (100 : Int)) = false) ∧ (n == (0 : Int)) = false) ∧ l.length ≤ (9223372036854775807 : Nat)) ∧ ((↑l.length : Int) == (0 : Int)) = false) ∧ (0 : Int) ≤ (0 : Int) ∧ (0 : Int) < (↑l.length : Int)) ∧ ((l.getD (Int.toNat (0 : Int)) (0 : Int)).tmod (6 : Int) == (5 : Int)) = false) ∧ List.length g.snd.snd ≤ (9223372036854775807 : Nat)) ∧ (↑(List.length g.snd.snd) : Int) = (↑(List.length g.snd.snd) : Int) ∧ (0 : Int) ≤ (0 : Int) ∧ (0 : Int) ≤ (↑(List.length g.snd.snd) : Int) ∧ List.length g.snd.snd ≤ (99 : Nat) ∧ (0 : Nat) ≤ Int.toNat (0 : Int)) ∧ ([] ++ prodsOf sym (0 : Int) (List.drop (Int.toNat (0 : Int)) g.snd.snd)).length ≤ (9223372036854775807 : Nat)) ∧ ((↑([] ++ prodsOf sym (0 : Int) (List.drop (Int.toNat (0 : Int)) g.snd.snd)).length : Int) == (0 : Int)) = false) ∧ (0 : Int) ≤ (0 : Int) ∧ (0 : Int) < (↑l.length : Int)) ∧ ([] ++ prodsOf sym (0 : Int) (List.drop (Int.toNat (0 : Int)) g.snd.snd)).length ≤ (9223372036854775807 : Nat)) ∧ (0 : Int) < (↑([] ++ prodsOf sym (0 : Int) (List.drop (Int.toNat (0 : Int)) g.snd.snd)).length : Int) ∧ (↑([] ++ prodsOf sym (0 : Int) (List.drop (Int.toNat (0 : Int)) g.snd.snd)).length : Int) ≤ (9223372036854775807 : Int)) ∧ (0 : Int) ≤ l.getD (Int.toNat (0 : Int)) (0 : Int) % (↑([] ++ prodsOf sym (0 : Int) (List.drop (Int.toNat (0 : Int)) g.snd.snd)).length : Int) ∧ l.getD (Int.toNat (0 : Int)) (0 : Int) % (↑([] ++ prodsOf sym (0 : Int) (List.drop (Int.toNat (0 : Int)) g.snd.snd)).length : Int) < (↑([] ++ prodsOf sym (0 : Int) (List.drop (Int.toNat (0 : Int)) g.snd.snd)).length : Int)) ∧ ¬(l.getD (Int.toNat (0 : Int)) (0 : Int) % (↑([] ++ prodsOf sym (0 : Int) (List.drop (Int.toNat (0 : Int)) g.snd.snd)).length : Int)).toNat < ([] ++ prodsOf sym (0 : Int) (List.drop (Int.toNat (0 : Int)) g.snd.snd)).length →
  False) ∧ ((((((((((((((True ∧ decide (sym < (100 : Int)) = false) ∧ (n == (0 : Int)) = false) ∧ l.length ≤ (9223372036854775807 : Nat)) ∧ ((↑l.length : Int) == (0 : Int)) = false) ∧ (0 : Int) ≤ (0 : Int) ∧ (0 : Int) < (↑l.length : Int)) ∧ ((l.getD (Int.toNat (0 : Int)) (0 : Int)).tmod (6 : Int) == (5 : Int)) = false) ∧ List.length g.snd.snd ≤ (9223372036854775807 : Nat)) ∧ (↑(List.length g.snd.snd) : Int) = (↑(List.length g.snd.snd) : Int) ∧ (0 : Int) ≤ (0 : Int) ∧ (0 : Int) ≤ (↑(List.length g.snd.snd) : Int) ∧ List.length g.snd.snd ≤ (99 : Nat) ∧ (0 : Nat) ≤ Int.toNat (0 : Int)) ∧ ([] ++ prodsOf sym (0 : Int) (List.drop (Int.toNat (0 : Int)) g.snd.snd)).length ≤ (9223372036854775807 : Nat)) ∧ ((↑([] ++ prodsOf sym (0 : Int) (List.drop (Int.toNat (0 : Int)) g.snd.snd)).length : Int) == (0 : Int)) = false) ∧ (0 : Int) ≤ (0 : Int) ∧ (0 : Int) < (↑l.length : Int)) ∧ ([] ++ prodsOf sym (0 : Int) (List.drop (Int.toNat (0 : Int)) g.snd.snd)).length ≤ (9223372036854775807 : Nat)) ∧ (0 : Int) < (↑([] ++ prodsOf sym (0 : Int) (List.drop (Int.toNat (0 : Int)) g.snd.snd)).length : Int) ∧ (↑([] ++ prodsOf sym (0 : Int) (List.drop (Int.toNat (0 : Int)) g.snd.snd)).length : Int) ≤ (9223372036854775807 : Int)) ∧ ¬((0 : Int) ≤ l.getD (Int.toNat (0 : Int)) (0 : Int) % (↑([] ++ prodsOf sym (0 : Int) (List.drop (Int.toNat (0 : Int)) g.snd.snd)).length : Int) ∧ l.getD (Int.toNat (0 : Int)) (0 : Int) % (↑([] ++ prodsOf sym (0 : Int) (List.drop (Int.toNat (0 : Int)) g.snd.snd)).length : Int) < (↑([] ++ prodsOf sym (0 : Int) (List.drop (Int.toNat (0 : Int)) g.snd.snd)).length : Int)) →
  False) ∧ (((((((((((True ∧ decide (sym < (100 : Int)) = false) ∧ (n == (0 : Int)) = false) ∧ l.length ≤ (9223372036854775807 : Nat)) ∧ ((↑l.length : Int) == (0 : Int)) = false) ∧ (0 : Int) ≤ (0 : Int) ∧ (0 : Int) < (↑l.length : Int)) ∧ ((l.getD (Int.toNat (0 : Int)) (0 : Int)).tmod (6 : Int) == (5 : Int)) = false) ∧ List.length g.snd.snd ≤ (9223372036854775807 : Nat)) ∧ (↑(List.length g.snd.snd) : Int) = (↑(List.length g.snd.snd) : Int) ∧ (0 : Int) ≤ (0 : Int) ∧ (0 : Int) ≤ (↑(List.length g.snd.snd) : Int) ∧ List.length g.snd.snd ≤ (99 : Nat) ∧ (0 : Nat) ≤ Int.toNat (0 : Int)) ∧ ([] ++ prodsOf sym (0 : Int) (List.drop (Int.toNat (0 : Int)) g.snd.snd)).length ≤ (9223372036854775807 : Nat)) ∧ ((↑([] ++ prodsOf sym (0 : Int) (List.drop (Int.toNat (0 : Int)) g.snd.snd)).length : Int) == (0 : Int)) = false) ∧ ¬((0 : Int) ≤ (0 : Int) ∧ (0 : Int) < (↑l.length : Int)) →
  False) ∧ (((((True ∧ decide (sym < (100 : Int)) = false) ∧ (n == (0 : Int)) = false) ∧ l.length ≤ (9223372036854775807 : Nat)) ∧ ((↑l.length : Int) == (0 : Int)) = false) ∧ ¬((0 : Int) ≤ (0 : Int) ∧ (0 : Int) < (↑l.length : Int)) → False) ∧ (True)
theorem treeA.eq (d : Nat) (g : List ByteArray × List ByteArray × List (Int × List Int)) (sym : Int) (l : List Int) (n : Int) : treeA.g d g sym l n = treeA.T d g sym l n := by kernel_rfl
theorem treeA.ok (d : Nat) (g : List ByteArray × List ByteArray × List (Int × List Int)) (sym : Int) (l : List Int) (n : Int) (hx : n = (d : Int) + 1 ∧ d ≤ 98 ∧ okG g) : treeA.T d g sym l n := by
  obtain ⟨rfl, h1, h2⟩ := hx
  have hg := h2.2.2.1
  have hP := prodsOf_get h2 sym (l.getD 0 0)
  rw [treeA.T]
  simp only [List.nil_append, show Int.toNat 0 = 0 from rfl, show Int.toNat 1 = 1 from rfl, List.drop_zero, Int.toNat_natCast, List.take_length, min1]
  rw [show ((d : Int) + 1).toNat = d + 1 by omega, treeS]
  have hl := prodsOf_len sym g.2.2 0
  generalize prodsOf sym 0 g.2.2 = ps at *
  generalize (l.getD 0 0).tmod 6 = q at *
  generalize l.getD 0 0 % (ps.length : Int) = k at *
  generalize ps.getD k.toNat 0 = p at *
  generalize (g.2.2.getD p.toNat (0, [])).2 = rt at *
  have hb : (if (l.length : Int) < 1 then (l.length : Int) else 1) ≤ l.length ∧ 0 ≤ (if (l.length : Int) < 1 then (l.length : Int) else 1) := by split <;> omega
  generalize (if (l.length : Int) < 1 then (l.length : Int) else 1) = mn at *
  ((repeat' (first | exact trivial | apply And.intro)) <;> (intro hw; (try (simp only [true_and, and_true, decide_eq_true_eq, decide_eq_false_iff_not, beq_iff_eq, bne_iff_ne, beq_eq_false_iff_ne, bne_eq_false_iff_eq, ne_eq, Bool.not_eq_true, Bool.not_eq_false, not_true_eq_false, not_false_eq_true, Bool.not_eq_eq_eq_not, Bool.not_true, Bool.not_false, forall_const, imp_self, Bool.true_eq_false, Bool.false_eq_true, reduceCtorEq] at hw)); (try first | (exfalso; omega) | exact ⟨trivial, rfl⟩ | exact (hw hx).elim | exact (hw.2 hx).elim)))
  all_goals first
    | (exfalso; exact hw.2 ⟨by omega, by omega, by omega, by omega, h1, h2⟩)
    | (refine ⟨trivial, ?_⟩; rw [if_pos (by omega)])
    | (refine ⟨trivial, ?_⟩; rw [if_neg (by omega)])
theorem treeA.fn (d : Nat) (ih : FnOk Try.prog (tree d)) : FnOk Try.prog (treeA d) := fn_eval (l := [(0, tree.L0), (2, tree.L2 d)]) (lf := 1000) (fun _ => cfOf_ok (fns_cons within.fn (fns_nil _))) _ (lps_cons (tree.L0.lp) (lps_cons (tree.L2.lp d ih) (lps_nil _ _))) (by kernel_rfl) (fun ⟨g, sym, l, n⟩ hx => (treeA.eq d g sym l n).mpr (treeA.ok d g sym l n hx))
noncomputable def tree0  : Face := ⟨28, [.v GR, .v (.int .i64), .v (.sl (.int .i64)), .v (.int .i64)], fun (g, sym, l, n) => some (n = 0 ∧ okG g),
  [⟨false, [.v .tree, .v (.sl (.int .i64))], fun (g, sym, l, n) => treeS n.toNat g sym l, fun (g, sym, l, n) => none⟩]⟩
noncomputable def tree0.g  (g : List ByteArray × List ByteArray × List (Int × List Int)) (sym : Int) (l : List Int) (n : Int) : Prop := GoodFA Try.prog (cfOf [within]) [(0, tree.L0), (1000003, deadL), (2, deadL)] 1000 tree0 (g, sym, l, n)
noncomputable def tree0.T (g : List ByteArray × List ByteArray × List (Int × List Int)) (sym : Int) (l : List Int) (n : Int) : Prop := (((True ∧ decide (sym < (100 : Int)) = true) ∧ l.length ≤ (9223372036854775807 : Nat)) ∧ ¬(((0 : Int) ≤ if (↑l.length : Int) < (1 : Int) then (↑l.length : Int) else (1 : Int)) ∧ (if (↑l.length : Int) < (1 : Int) then (↑l.length : Int) else (1 : Int)) ≤ (↑l.length : Int) ∧ (↑l.length : Int) ≤ (↑l.length : Int)) →
  False) ∧ (((True ∧ decide (sym < (100 : Int)) = true) ∧ l.length ≤ (9223372036854775807 : Nat)) ∧ ((0 : Int) ≤ if (↑l.length : Int) < (1 : Int) then (↑l.length : Int) else (1 : Int)) ∧ (if (↑l.length : Int) < (1 : Int) then (↑l.length : Int) else (1 : Int)) ≤ (↑l.length : Int) ∧ (↑l.length : Int) ≤ (↑l.length : Int) →
  True ∧ (Tree.mk sym (-1 : Int) [], List.drop (if (↑l.length : Int) < (1 : Int) then (↑l.length : Int) else (1 : Int)).toNat (List.take (↑l.length : Int).toNat l)) = treeS n.toNat g sym l) ∧ (((True ∧ decide (sym < (100 : Int)) = true) ∧ l.length ≤ (9223372036854775807 : Nat)) ∧ ¬(((0 : Int) ≤ if (↑l.length : Int) < (1 : Int) then (↑l.length : Int) else (1 : Int)) ∧ (if (↑l.length : Int) < (1 : Int) then (↑l.length : Int) else (1 : Int)) ≤ (↑l.length : Int) ∧ (↑l.length : Int) ≤ (↑l.length : Int)) →
  False) ∧ (((True ∧ decide (sym < (100 : Int)) = true) ∧ l.length ≤ (9223372036854775807 : Nat)) ∧ ((0 : Int) ≤ if (↑l.length : Int) < (1 : Int) then (↑l.length : Int) else (1 : Int)) ∧ (if (↑l.length : Int) < (1 : Int) then (↑l.length : Int) else (1 : Int)) ≤ (↑l.length : Int) ∧ (↑l.length : Int) ≤ (↑l.length : Int) →
  True ∧ (Tree.mk sym (-1 : Int) [], List.drop (if (↑l.length : Int) < (1 : Int) then (↑l.length : Int) else (1 : Int)).toNat (List.take (↑l.length : Int).toNat l)) = treeS n.toNat g sym l) ∧ ((((True ∧ decide (sym < (100 : Int)) = false) ∧ (n == (0 : Int)) = true) ∧ l.length ≤ (9223372036854775807 : Nat)) ∧ ¬(((0 : Int) ≤ if (↑l.length : Int) < (1 : Int) then (↑l.length : Int) else (1 : Int)) ∧ (if (↑l.length : Int) < (1 : Int) then (↑l.length : Int) else (1 : Int)) ≤ (↑l.length : Int) ∧ (↑l.length : Int) ≤ (↑l.length : Int)) →
  False) ∧ ((((True ∧ decide (sym < (100 : Int)) = false) ∧ (n == (0 : Int)) = true) ∧ l.length ≤ (9223372036854775807 : Nat)) ∧ ((0 : Int) ≤ if (↑l.length : Int) < (1 : Int) then (↑l.length : Int) else (1 : Int)) ∧ (if (↑l.length : Int) < (1 : Int) then (↑l.length : Int) else (1 : Int)) ≤ (↑l.length : Int) ∧ (↑l.length : Int) ≤ (↑l.length : Int) →
  True ∧ (Tree.mk sym (-1 : Int) [], List.drop (if (↑l.length : Int) < (1 : Int) then (↑l.length : Int) else (1 : Int)).toNat (List.take (↑l.length : Int).toNat l)) = treeS n.toNat g sym l) ∧ ((((True ∧ decide (sym < (100 : Int)) = false) ∧ (n == (0 : Int)) = true) ∧ l.length ≤ (9223372036854775807 : Nat)) ∧ ¬(((0 : Int) ≤ if (↑l.length : Int) < (1 : Int) then (↑l.length : Int) else (1 : Int)) ∧ (if (↑l.length : Int) < (1 : Int) then (↑l.length : Int) else (1 : Int)) ≤ (↑l.length : Int) ∧ (↑l.length : Int) ≤ (↑l.length : Int)) →
  False) ∧ ((((True ∧ decide (sym < (100 : Int)) = false) ∧ (n == (0 : Int)) = true) ∧ l.length ≤ (9223372036854775807 : Nat)) ∧ ((0 : Int) ≤ if (↑l.length : Int) < (1 : Int) then (↑l.length : Int) else (1 : Int)) ∧ (if (↑l.length : Int) < (1 : Int) then (↑l.length : Int) else (1 : Int)) ≤ (↑l.length : Int) ∧ (↑l.length : Int) ≤ (↑l.length : Int) →
  True ∧ (Tree.mk sym (-1 : Int) [], List.drop (if (↑l.length : Int) < (1 : Int) then (↑l.length : Int) else (1 : Int)).toNat (List.take (↑l.length : Int).toNat l)) = treeS n.toNat g sym l) ∧ ((((((True ∧ decide (sym < (100 : Int)) = false) ∧ (n == (0 : Int)) = false) ∧ l.length ≤ (9223372036854775807 : Nat)) ∧ ((↑l.length : Int) == (0 : Int)) = true) ∧ l.length ≤ (9223372036854775807 : Nat)) ∧ ¬(((0 : Int) ≤ if (↑l.length : Int) < (1 : Int) then (↑l.length : Int) else (1 : Int)) ∧ (if (↑l.length : Int) < (1 : Int) then (↑l.length : Int) else (1 : Int)) ≤ (↑l.length : Int) ∧ (↑l.length : Int) ≤ (↑l.length : Int)) →
  False) ∧ ((((((True ∧ decide (sym < (100 : Int)) = false) ∧ (n == (0 : Int)) = false) ∧ l.length ≤ (9223372036854775807 : Nat)) ∧ ((↑l.length : Int) == (0 : Int)) = true) ∧ l.length ≤ (9223372036854775807 : Nat)) ∧ ((0 : Int) ≤ if (↑l.length : Int) < (1 : Int) then (↑l.length : Int) else (1 : Int)) ∧ (if (↑l.length : Int) < (1 : Int) then (↑l.length : Int) else (1 : Int)) ≤ (↑l.length : Int) ∧ (↑l.length : Int) ≤ (↑l.length : Int) →
  True ∧ (Tree.mk sym (-1 : Int) [], List.drop (if (↑l.length : Int) < (1 : Int) then (↑l.length : Int) else (1 : Int)).toNat (List.take (↑l.length : Int).toNat l)) = treeS n.toNat g sym l) ∧ ((((((True ∧ decide (sym < (100 : Int)) = false) ∧ (n == (0 : Int)) = false) ∧ l.length ≤ (9223372036854775807 : Nat)) ∧ ((↑l.length : Int) == (0 : Int)) = true) ∧ l.length ≤ (9223372036854775807 : Nat)) ∧ ¬(((0 : Int) ≤ if (↑l.length : Int) < (1 : Int) then (↑l.length : Int) else (1 : Int)) ∧ (if (↑l.length : Int) < (1 : Int) then (↑l.length : Int) else (1 : Int)) ≤ (↑l.length : Int) ∧ (↑l.length : Int) ≤ (↑l.length : Int)) →
  False) ∧ ((((((True ∧ decide (sym < (100 : Int)) = false) ∧ (n == (0 : Int)) = false) ∧ l.length ≤ (9223372036854775807 : Nat)) ∧ ((↑l.length : Int) == (0 : Int)) = true) ∧ l.length ≤ (9223372036854775807 : Nat)) ∧ ((0 : Int) ≤ if (↑l.length : Int) < (1 : Int) then (↑l.length : Int) else (1 : Int)) ∧ (if (↑l.length : Int) < (1 : Int) then (↑l.length : Int) else (1 : Int)) ≤ (↑l.length : Int) ∧ (↑l.length : Int) ≤ (↑l.length : Int) →
  True ∧ (Tree.mk sym (-1 : Int) [], List.drop (if (↑l.length : Int) < (1 : Int) then (↑l.length : Int) else (1 : Int)).toNat (List.take (↑l.length : Int).toNat l)) = treeS n.toNat g sym l) ∧ ((((((((True ∧ decide (sym < (100 : Int)) = false) ∧ (n == (0 : Int)) = false) ∧ l.length ≤ (9223372036854775807 : Nat)) ∧ ((↑l.length : Int) == (0 : Int)) = false) ∧ (0 : Int) ≤ (0 : Int) ∧ (0 : Int) < (↑l.length : Int)) ∧ ((l.getD (Int.toNat (0 : Int)) (0 : Int)).tmod (6 : Int) == (5 : Int)) = true) ∧ l.length ≤ (9223372036854775807 : Nat)) ∧ ¬(((0 : Int) ≤ if (↑l.length : Int) < (1 : Int) then (↑l.length : Int) else (1 : Int)) ∧ (if (↑l.length : Int) < (1 : Int) then (↑l.length : Int) else (1 : Int)) ≤ (↑l.length : Int) ∧ (↑l.length : Int) ≤ (↑l.length : Int)) →
  False) ∧ ((((((((True ∧ decide (sym < (100 : Int)) = false) ∧ (n == (0 : Int)) = false) ∧ l.length ≤ (9223372036854775807 : Nat)) ∧ ((↑l.length : Int) == (0 : Int)) = false) ∧ (0 : Int) ≤ (0 : Int) ∧ (0 : Int) < (↑l.length : Int)) ∧ ((l.getD (Int.toNat (0 : Int)) (0 : Int)).tmod (6 : Int) == (5 : Int)) = true) ∧ l.length ≤ (9223372036854775807 : Nat)) ∧ ((0 : Int) ≤ if (↑l.length : Int) < (1 : Int) then (↑l.length : Int) else (1 : Int)) ∧ (if (↑l.length : Int) < (1 : Int) then (↑l.length : Int) else (1 : Int)) ≤ (↑l.length : Int) ∧ (↑l.length : Int) ≤ (↑l.length : Int) →
  True ∧ (Tree.mk sym (-1 : Int) [], List.drop (if (↑l.length : Int) < (1 : Int) then (↑l.length : Int) else (1 : Int)).toNat (List.take (↑l.length : Int).toNat l)) = treeS n.toNat g sym l) ∧ ((((((((True ∧ decide (sym < (100 : Int)) = false) ∧ (n == (0 : Int)) = false) ∧ l.length ≤ (9223372036854775807 : Nat)) ∧ ((↑l.length : Int) == (0 : Int)) = false) ∧ (0 : Int) ≤ (0 : Int) ∧ (0 : Int) < (↑l.length : Int)) ∧ ((l.getD (Int.toNat (0 : Int)) (0 : Int)).tmod (6 : Int) == (5 : Int)) = true) ∧ l.length ≤ (9223372036854775807 : Nat)) ∧ ¬(((0 : Int) ≤ if (↑l.length : Int) < (1 : Int) then (↑l.length : Int) else (1 : Int)) ∧ (if (↑l.length : Int) < (1 : Int) then (↑l.length : Int) else (1 : Int)) ≤ (↑l.length : Int) ∧ (↑l.length : Int) ≤ (↑l.length : Int)) →
  False) ∧ ((((((((True ∧ decide (sym < (100 : Int)) = false) ∧ (n == (0 : Int)) = false) ∧ l.length ≤ (9223372036854775807 : Nat)) ∧ ((↑l.length : Int) == (0 : Int)) = false) ∧ (0 : Int) ≤ (0 : Int) ∧ (0 : Int) < (↑l.length : Int)) ∧ ((l.getD (Int.toNat (0 : Int)) (0 : Int)).tmod (6 : Int) == (5 : Int)) = true) ∧ l.length ≤ (9223372036854775807 : Nat)) ∧ ((0 : Int) ≤ if (↑l.length : Int) < (1 : Int) then (↑l.length : Int) else (1 : Int)) ∧ (if (↑l.length : Int) < (1 : Int) then (↑l.length : Int) else (1 : Int)) ≤ (↑l.length : Int) ∧ (↑l.length : Int) ≤ (↑l.length : Int) →
  True ∧ (Tree.mk sym (-1 : Int) [], List.drop (if (↑l.length : Int) < (1 : Int) then (↑l.length : Int) else (1 : Int)).toNat (List.take (↑l.length : Int).toNat l)) = treeS n.toNat g sym l) ∧ (((((((True ∧ decide (sym < (100 : Int)) = false) ∧ (n == (0 : Int)) = false) ∧ l.length ≤ (9223372036854775807 : Nat)) ∧ ((↑l.length : Int) == (0 : Int)) = false) ∧ (0 : Int) ≤ (0 : Int) ∧ (0 : Int) < (↑l.length : Int)) ∧ ((l.getD (Int.toNat (0 : Int)) (0 : Int)).tmod (6 : Int) == (5 : Int)) = false) ∧ ¬False →
  False) ∧ (((((True ∧ decide (sym < (100 : Int)) = false) ∧ (n == (0 : Int)) = false) ∧ l.length ≤ (9223372036854775807 : Nat)) ∧ ((↑l.length : Int) == (0 : Int)) = false) ∧ ¬((0 : Int) ≤ (0 : Int) ∧ (0 : Int) < (↑l.length : Int)) → False) ∧ (True)
theorem tree0.eq  (g : List ByteArray × List ByteArray × List (Int × List Int)) (sym : Int) (l : List Int) (n : Int) : tree0.g  g sym l n = tree0.T  g sym l n := by kernel_rfl
theorem tree0.ok  (g : List ByteArray × List ByteArray × List (Int × List Int)) (sym : Int) (l : List Int) (n : Int) (hx : n = 0 ∧ okG g) : tree0.T  g sym l n := by
  obtain ⟨rfl, h2⟩ := hx
  rw [tree0.T, show Int.toNat 0 = 0 from rfl]
  simp only [Int.toNat_natCast, List.take_length, min1]
  have hb : (if (l.length : Int) < 1 then (l.length : Int) else 1) ≤ l.length ∧ 0 ≤ (if (l.length : Int) < 1 then (l.length : Int) else 1) := by split <;> omega
  generalize (if (l.length : Int) < 1 then (l.length : Int) else 1) = mn at *
  ((repeat' (first | exact trivial | apply And.intro)) <;> (intro hw; (try (simp only [true_and, and_true, decide_eq_true_eq, decide_eq_false_iff_not, beq_iff_eq, bne_iff_ne, beq_eq_false_iff_ne, bne_eq_false_iff_eq, ne_eq, Bool.not_eq_true, Bool.not_eq_false, not_true_eq_false, not_false_eq_true, Bool.not_eq_eq_eq_not, Bool.not_true, Bool.not_false, forall_const, imp_self, Bool.true_eq_false, Bool.false_eq_true, reduceCtorEq] at hw)); (try first | (exfalso; omega) | exact ⟨trivial, rfl⟩ | exact (hw hx).elim | exact (hw.2 hx).elim)))
  all_goals (exfalso; simp only [and_false, false_and] at hw)
theorem tree0.fn   : FnOk Try.prog tree0 := fn_eval (l := [(0, tree.L0), (1000003, deadL), (2, deadL)]) (lf := 1000) (fun _ => cfOf_ok (fns_cons within.fn (fns_nil _))) _ (lps_cons (tree.L0.lp) (lps_cons (lp_dead _ _ _) (lps_cons (lp_dead _ _ _) (lps_nil _ _)))) (by kernel_rfl) (fun ⟨g, sym, l, n⟩ hx => (tree0.eq  g sym l n).mpr (tree0.ok  g sym l n hx))
theorem tree.fn : ∀ d, FnOk Try.prog (tree d)
  | 0 => fn_pre tree0.fn fun ⟨g, sym, l, n⟩ h => ⟨h.1, h.2.2⟩
  | d + 1 => fn_pre (treeA.fn d (tree.fn d)) fun ⟨g, sym, l, n⟩ h => ⟨by have := h.1; simpa using this, by have := h.2.1; omega, h.2.2⟩
theorem toNat99 {n : Int} (h : 0 ≤ n) (h2 : n ≤ 99) : n = (n.toNat : Int) ∧ n.toNat ≤ 99 := ⟨by omega, by omega⟩
noncomputable def treeF : Face := ⟨28, [.v GR, .v (.int .i64), .v (.sl (.int .i64)), .v (.int .i64)], fun (g, sym, l, n) => some (0 ≤ n ∧ n ≤ 99 ∧ okG g), [⟨false, [.v .tree, .v (.sl (.int .i64))], fun (g, sym, l, n) => treeS n.toNat g sym l, fun _ => none⟩]⟩
theorem treeF.fn : FnOk Try.prog treeF := fn_all tree.fn (fun (g, sym, l, n) h => ⟨n.toNat, (toNat99 h.1 h.2.1).1, (toNat99 h.1 h.2.1).2, h.2.2⟩)
end Go.Proofs.Ytdmljeaigjfenaa.D

namespace Go.Proofs.Ytdmljeaigjfenaa.D
open Go Go.EV Go.TL Go.Proofs
set_option linter.unusedVariables false
set_option linter.unusedSimpArgs false
set_option maxRecDepth 100000
def okN (n : Nat) (g : Gr) : Prop := g.1.length ≤ 99 ∧ g.2.1.length ≤ 99 ∧ g.2.2.length ≤ n ∧ ∀ q ∈ g.2.2, q.2.length ≤ 6
theorem putS_ok {n : Nat} {g : Gr} (h : okN n g) (left : Int) (row : List Int) : okN (n + 1) (putS g left row) := by
  obtain ⟨h1, h2, h3, h4⟩ := h
  unfold putS
  split
  · exact ⟨h1, h2, by omega, h4⟩
  · refine ⟨h1, h2, by simp only [List.length_append, List.length_singleton]; omega, fun q hq => ?_⟩
    rcases List.mem_append.1 hq with hq | hq
    · exact h4 q hq
    · rw [List.mem_singleton.1 hq]; simp only [List.length_map, List.length_take]; omega
theorem puts1_ok : ∀ (k : Nat) (i : Int) {n : Nat} {g : Gr}, okN n g → okN (n + k) (puts1 k i g)
  | 0, i, n, g, h => h
  | k + 1, i, n, g, h => by rw [puts1, show n + (k + 1) = n + 1 + k by omega]; exact puts1_ok k _ (putS_ok h _ _)
theorem puts2_ok (m : Int) : ∀ (l : List (List Int)) (i : Int) {n : Nat} {g : Gr}, okN n g → okN (n + l.length) (puts2 m i g l)
  | [], i, n, g, h => h
  | r :: l, i, n, g, h => by rw [puts2, List.length_cons, show n + (l.length + 1) = n + 1 + l.length by omega]; exact puts2_ok m l _ (putS_ok h _ _)
theorem anyS_ok (r : Raw) : okG (anyS r) := by
  have e3 := Int.emod_nonneg r.2.2.1 (show (3 : Int) ≠ 0 by omega)
  have e4 := Int.emod_lt_of_pos r.2.2.1 (show (0 : Int) < 3 by omega)
  have h0 : okN 0 ([bA, bB, bC].take (1 + r.2.1 % 3).toNat, [bS, bUA, bUB].take (1 + r.2.2.1 % 3).toNat, []) := ⟨by simp only [List.length_take]; exact Nat.le_trans (Nat.min_le_right _ _) (by decide), by simp only [List.length_take]; exact Nat.le_trans (Nat.min_le_right _ _) (by decide), Nat.le_refl _, fun q hq => by simp at hq⟩
  obtain ⟨h1, h2, h3, h4⟩ := puts2_ok (1 + r.2.2.1 % 3) (r.2.2.2.2.1.take 5) 0 (puts1_ok (1 + r.2.2.1 % 3).toNat 0 h0)
  exact ⟨h1, h2, Nat.le_trans h3 (by rw [List.length_take]; omega), h4⟩
end Go.Proofs.Ytdmljeaigjfenaa.D

namespace Go.Proofs.Ytdmljeaigjfenaa.D
open Go Go.EV Go.TL Go.Proofs
set_option linter.unusedVariables false
set_option linter.unusedSimpArgs false
set_option maxRecDepth 100000
mutual
def nodesT : Tree → Nat
  | .mk _ _ ks => nodesL ks + 1
def nodesL : List Tree → Nat
  | [] => 0
  | k :: r => nodesT k + nodesL r
end
theorem nodesT_eq (t : Tree) : nodesT t = nodesL t.kids + 1 := by cases t; simp only [nodesT, Tree.kids]
theorem nodesT_pos (t : Tree) : 1 ≤ nodesT t := by cases t; simp only [nodesT]; omega
theorem nodesL_len : ∀ l : List Tree, l.length ≤ nodesL l
  | [] => Nat.le_refl _
  | k :: r => by
    have := nodesL_len r
    have := nodesT_pos k
    simp only [nodesL, List.length_cons]; omega
mutual
theorem leaves_nodes : ∀ t : Tree, (leavesS t).length ≤ nodesT t
  | .mk s p ks => by
    have := leavesL_nodes ks
    simp only [leavesS, nodesT]
    split
    · simp only [List.length_singleton]; omega
    · omega
theorem leavesL_nodes : ∀ l : List Tree, (leavesL l).length ≤ nodesL l
  | [] => by simp [leavesL]
  | k :: r => by
    have := leaves_nodes k
    have := leavesL_nodes r
    simp only [leavesL, nodesL, List.length_append]; omega
end
end Go.Proofs.Ytdmljeaigjfenaa.D

namespace Go.Proofs.Ytdmljeaigjfenaa.D
open Go Go.EV Go.TL Go.Proofs
set_option linter.unusedVariables false
set_option linter.unusedSimpArgs false
set_option maxRecDepth 100000
def okX (g : Gr) : Prop := okG g ∧ (∀ q ∈ g.2.2, ∀ s ∈ q.2, -999 ≤ s ∧ s ≤ 999) ∧ (∀ n ∈ g.1, n.size ≤ 100) ∧ ∀ n ∈ g.2.1, n.size ≤ 100
def okY (g : Gr) : Prop := 1 ≤ g.1.length ∧ g.1.length ≤ 99 ∧ g.2.1.length ≤ 99 ∧ (∀ q ∈ g.2.2, ∀ s ∈ q.2, -999 ≤ s ∧ s ≤ 999) ∧ (∀ n ∈ g.1, n.size ≤ 100) ∧ ∀ n ∈ g.2.1, n.size ≤ 100
theorem symS_in {t n r : Int} (h1 : 1 ≤ t) (h2 : t ≤ 99) (h3 : 0 ≤ n) (h4 : n ≤ 99) : -999 ≤ symS t n r ∧ symS t n r ≤ 999 := by
  have e1 := Int.emod_nonneg r (show t + n ≠ 0 by omega)
  have e2 := Int.emod_lt_of_pos r (show 0 < t + n by omega)
  unfold symS
  split <;> omega
theorem putS_okY {g : Gr} (h : okY g) (left : Int) (row : List Int) : okY (putS g left row) := by
  obtain ⟨h0, h1, h2, h3, h4, h5⟩ := h
  unfold putS
  split
  · exact ⟨h0, h1, h2, h3, h4, h5⟩
  · refine ⟨h0, h1, h2, fun q hq => ?_, h4, h5⟩
    rcases List.mem_append.1 hq with hq | hq
    · exact h3 q hq
    · rw [List.mem_singleton.1 hq]
      intro s hs
      obtain ⟨r, _, rfl⟩ := List.mem_map.1 hs
      exact symS_in (by omega) (by omega) (by omega) (by omega)
theorem puts1_okY : ∀ (k : Nat) (i : Int) {g : Gr}, okY g → okY (puts1 k i g)
  | 0, i, g, h => h
  | k + 1, i, g, h => puts1_okY k _ (putS_okY h _ _)
theorem puts2_okY (m : Int) : ∀ (l : List (List Int)) (i : Int) {g : Gr}, okY g → okY (puts2 m i g l)
  | [], i, g, h => h
  | r :: l, i, g, h => puts2_okY m l _ (putS_okY h _ _)
theorem anyS_okY (r : Raw) : okY (anyS r) := by
  have e1 := Int.emod_nonneg r.2.1 (show (3 : Int) ≠ 0 by omega)
  have e2 := Int.emod_lt_of_pos r.2.1 (show (0 : Int) < 3 by omega)
  have h0 : okY ([bA, bB, bC].take (1 + r.2.1 % 3).toNat, [bS, bUA, bUB].take (1 + r.2.2.1 % 3).toNat, []) := ⟨by simp only [List.length_take]; show 1 ≤ min _ 3; omega, by simp only [List.length_take]; exact Nat.le_trans (Nat.min_le_right _ _) (by decide), by simp only [List.length_take]; exact Nat.le_trans (Nat.min_le_right _ _) (by decide), fun q hq => by simp at hq,
    fun n hn => (show ∀ n ∈ [bA, bB, bC], n.size ≤ 100 by intro n hn; simp only [List.mem_cons, List.not_mem_nil, or_false] at hn; rcases hn with rfl | rfl | rfl <;> decide) n (List.mem_of_mem_take hn),
    fun n hn => (show ∀ n ∈ [bS, bUA, bUB], n.size ≤ 100 by intro n hn; simp only [List.mem_cons, List.not_mem_nil, or_false] at hn; rcases hn with rfl | rfl | rfl <;> decide) n (List.mem_of_mem_take hn)⟩
  exact puts2_okY _ _ _ (puts1_okY _ _ h0)
mutual
def okK (k : Int) : Tree → Prop
  | .mk s p ks => (-k ≤ s ∧ s ≤ k ∧ -k ≤ p ∧ p ≤ k) ∧ okKs k ks
def okKs (k : Int) : List Tree → Prop
  | [] => True
  | t :: r => okK k t ∧ okKs k r
end
mutual
theorem okK_T {k : Int} (hk : k ≤ 1000000) : ∀ {t : Tree}, okK k t → okT t
  | .mk s p ks, h => by
    simp only [okK] at h
    exact ⟨⟨by omega, by omega⟩, ⟨by omega, by omega⟩, okKs_T hk h.2⟩
theorem okKs_T {k : Int} (hk : k ≤ 1000000) : ∀ {l : List Tree}, okKs k l → okTs l
  | [], _ => trivial
  | t :: r, h => ⟨okK_T hk h.1, okKs_T hk h.2⟩
end
theorem okK_eq (k : Int) (t : Tree) : okK k t ↔ (-k ≤ t.sym ∧ t.sym ≤ k ∧ -k ≤ t.prod ∧ t.prod ≤ k) ∧ okKs k t.kids := by cases t; simp only [okK, Tree.sym, Tree.prod, Tree.kids]
theorem kidsS_ok {f : Int → List Int → Tree × List Int} {n : Nat} {k : Int} (hf : ∀ s l, -999 ≤ s → s ≤ 999 → okK k (f s l).1 ∧ nodesT (f s l).1 ≤ n) : ∀ (q l : List Int), (∀ s ∈ q, -999 ≤ s ∧ s ≤ 999) → okKs k (kidsS f q l).1 ∧ nodesL (kidsS f q l).1 ≤ q.length * n
  | [], l, _ => by simp [kidsS, okKs, nodesL]
  | s :: q, l, hq => by
    obtain ⟨a, b⟩ := hq s List.mem_cons_self
    have h1 := hf s l a b
    have h2 := kidsS_ok hf q (f s l).2 (fun x hx => hq x (List.mem_cons_of_mem _ hx))
    simp only [kidsS, okKs, nodesL, List.length_cons, Nat.succ_mul]
    exact ⟨⟨h1.1, h2.1⟩, by omega⟩
theorem treeS_ok {g : Gr} (h : okX g) : ∀ (d : Nat) (sym : Int) (l : List Int), -999 ≤ sym → sym ≤ 999 → okK 999 (treeS d g sym l).1 ∧ nodesT (treeS d g sym l).1 ≤ 7 ^ d
  | 0, sym, l, a, b => by simp [treeS, okK, okKs, nodesT, nodesL]; omega
  | d + 1, sym, l, a, b => by
    have hpos : 0 < 7 ^ d := Nat.pow_pos (by omega)
    rw [treeS, Nat.pow_succ]
    split
    · simp only [okK, okKs, nodesT, nodesL]
      exact ⟨⟨by omega, trivial⟩, by omega⟩
    · rename_i hc
      have hP := prodsOf_get h.1 sym (l.getD 0 0)
      generalize (prodsOf sym 0 g.2.2).getD (l.getD 0 0 % ((prodsOf sym 0 g.2.2).length : Int)).toNat 0 = p at *
      have hp := h.1.2.2.1
      have hm : g.2.2.getD p.toNat (0, []) ∈ g.2.2 := getD_mem (by omega)
      obtain ⟨h1, h2⟩ := kidsS_ok (fun s l a b => treeS_ok h d s l a b) (g.2.2.getD p.toNat (0, [])).2 (l.drop 1) (h.2.1 _ hm)
      have h6 : (g.2.2.getD p.toNat (0, [])).2.length ≤ 6 := by omega
      have h7 := Nat.le_trans h2 (Nat.mul_le_mul_right (7 ^ d) h6)
      simp only [okK, nodesT]
      exact ⟨⟨by omega, h1⟩, by omega⟩
theorem sameS_refl (l : List Int) : sameS l l = true := sameS_iff.2 rfl
end Go.Proofs.Ytdmljeaigjfenaa.D

namespace Go.Proofs.Ytdmljeaigjfenaa.D
open Go Go.EV Go.TL Go.Proofs
set_option linter.unusedVariables false
set_option linter.unusedSimpArgs false
set_option maxRecDepth 100000
def leafOf (s : Int) : Tree := .mk s (-1) []
mutual
def growS (right : List Int) (p : Int) : Tree → Int → Tree × Int
  | .mk s q ks, k => if q = -1 then (if k = 0 then .mk s p (right.map leafOf) else .mk s q ks, k - 1) else (.mk s q (growL right p ks k).1, (growL right p ks k).2)
def growL (right : List Int) (p : Int) : List Tree → Int → List Tree × Int
  | [], k => ([], k)
  | t :: r, k => if 0 ≤ k then ((growS right p t k).1 :: (growL right p r (growS right p t k).2).1, (growL right p r (growS right p t k).2).2) else (t :: r, k)
end
theorem growS_eq (right : List Int) (p : Int) (t : Tree) (k : Int) : growS right p t k = if t.prod = -1 then (if k = 0 then .mk t.sym p (right.map leafOf) else t, k - 1) else (.mk t.sym t.prod (growL right p t.kids k).1, (growL right p t.kids k).2) := by
  cases t; rw [growS]; rfl
theorem growL_neg {right : List Int} {p : Int} (l : List Tree) {k : Int} (h : k < 0) : growL right p l k = (l, k) := by
  cases l with
  | nil => rw [growL]
  | cons a r => rw [growL, if_neg (by omega)]
theorem growL_step {right : List Int} {p : Int} {xs : List Tree} {i : Nat} {k : Int} {d : Tree} (hi : i < xs.length) (hk : 0 ≤ k) :
    xs.take i ++ (growL right p (xs.drop i) k).1 = (xs.set i (growS right p (xs.getD i d) k).1).take (i + 1) ++ (growL right p ((xs.set i (growS right p (xs.getD i d) k).1).drop (i + 1)) (growS right p (xs.getD i d) k).2).1 ∧
    (growL right p (xs.drop i) k).2 = (growL right p ((xs.set i (growS right p (xs.getD i d) k).1).drop (i + 1)) (growS right p (xs.getD i d) k).2).2 := by
  rw [drop_getD d xs i hi, growL, if_pos hk]
  have h1 : (xs.set i (growS right p (xs.getD i d) k).1).drop (i + 1) = xs.drop (i + 1) := by rw [List.drop_set_of_lt (by omega)]
  have h2 : (xs.set i (growS right p (xs.getD i d) k).1).take (i + 1) = xs.take i ++ [(growS right p (xs.getD i d) k).1] := by
    rw [List.take_add_one, List.take_set_of_le (Nat.le_refl _), List.getElem?_set_self hi]; rfl
  rw [h1, h2, List.append_assoc]
  exact ⟨rfl, rfl⟩
noncomputable def grow (d : Nat) : Face := ⟨29, [.v GR, .v .tree, .v (.int .i64), .v (.int .i64)], fun (g, t, k, p) => some (depthT t ≤ d ∧ nodesT t ≤ BIG ∧ okG g ∧ 0 ≤ p ∧ p < (g.2.2.length : Int) ∧ 0 ≤ k ∧ k ≤ 1000000000),
  [⟨false, [.v .tree, .v (.int .i64)], fun (g, t, k, p) => growS (prodS g p).2 p t k, fun (g, t, k, p) => none⟩]⟩
noncomputable def grow.L0  : LFace := ⟨[2, 3, 4, 5, 8, 9, 27, 28, 29], [.v (.int .i64), .v (.int .i64), .un, .box 33 [.v (.int .i64), .v (.int .i64), .row .tree 33], .box 33 [.un, .un, .un], .un, .v (.sl (.int .i64)), .v (.int .i64), .v (.int .i64)], fun (k, p, g, t, u, v, rt, len, i) => some (len = rt.length ∧ 0 ≤ i ∧ i ≤ len ∧ rt.length ≤ 99 ∧ t.2.2.length ≤ i.toNat),
  [⟨.normal, [2, 3, 4, 5, 8, 9], [.v (.int .i64), .v (.int .i64), .un, .box 33 [.v (.int .i64), .v (.int .i64), .row .tree 33], .box 33 [.un, .un, .un], .un], fun (k, p, g, t, u, v, rt, len, i) => (k, p, g, (t.1, t.2.1, t.2.2 ++ (rt.drop i.toNat).map leafOf), u, v), fun (k, p, g, t, u, v, rt, len, i) => none⟩]⟩
noncomputable def grow.L0.mu  : dens grow.L0.sh → Nat := fun (k, p, g, t, u, v, rt, len, i) => (len - i).toNat
noncomputable def grow.L0.g  (k : Int) (p : Int) (g : Unit) (t : Int × Int × List Tree) (u : Unit × Unit × Unit) (v : Unit) (rt : List Int) (len : Int) (i : Int) : Prop := GoodLA Try.prog (cfOf []) [] 1000 29 0 grow.L0 grow.L0.mu (k, p, g, t, u, v, rt, len, i)
noncomputable def grow.L0.T (k : Int) (p : Int) (g : Unit) (t : Int × Int × List Tree) (u : Unit × Unit × Unit) (v : Unit) (rt : List Int) (len : Int) (i : Int) : Prop := (((True ∧ decide (i < len) = true) ∧ (0 : Int) ≤ i ∧ i < (↑rt.length : Int)) ∧ (List.length t.snd.snd + (1 : Nat)) * (40 : Nat) ≤ (140737488355328 : Nat) →
  (len = (↑rt.length : Int) ∧ (0 : Int) ≤ IntKind.i64.wrap (i + (1 : Int)) ∧ IntKind.i64.wrap (i + (1 : Int)) ≤ len ∧ rt.length ≤ (99 : Nat) ∧ (t.snd.snd ++ [Tree.mk (rt.getD i.toNat (0 : Int)) (-1 : Int) []]).length ≤ (IntKind.i64.wrap (i + (1 : Int))).toNat) ∧ grow.L0.mu (k, p, (), (t.fst, t.snd.fst, t.snd.snd ++ [Tree.mk (rt.getD i.toNat (0 : Int)) (-1 : Int) []]), ((), (), ()), (), rt, len, IntKind.i64.wrap (i + (1 : Int))) < grow.L0.mu (k, p, g, t, u, v, rt, len, i) ∧ (True → True ∧ (k, p, (), (t.fst, t.snd.fst, t.snd.snd ++ [Tree.mk (rt.getD i.toNat (0 : Int)) (-1 : Int) []] ++ List.map leafOf (List.drop (IntKind.i64.wrap (i + (1 : Int))).toNat rt)), ((), (), ()), ()) = (k, p, (), (t.fst, t.snd.fst, t.snd.snd ++ List.map leafOf (List.drop i.toNat rt)), u, ())) ∧ True) ∧ (((True ∧ decide (i < len) = true) ∧ (0 : Int) ≤ i ∧ i < (↑rt.length : Int)) ∧ ¬(List.length t.snd.snd + (1 : Nat)) * (40 : Nat) ≤ (140737488355328 : Nat) → False) ∧ ((True ∧ decide (i < len) = true) ∧ ¬((0 : Int) ≤ i ∧ i < (↑rt.length : Int)) → False) ∧ (True ∧ decide (i < len) = false → True ∧ (k, p, (), t, ((), (), ()), ()) = (k, p, (), (t.fst, t.snd.fst, t.snd.snd ++ List.map leafOf (List.drop i.toNat rt)), u, ())) ∧ (True)
theorem grow.L0.eq  (k : Int) (p : Int) (g : Unit) (t : Int × Int × List Tree) (u : Unit × Unit × Unit) (v : Unit) (rt : List Int) (len : Int) (i : Int) : grow.L0.g  k p g t u v rt len i = grow.L0.T  k p g t u v rt len i := by kernel_rfl
theorem grow.L0.ok  (k : Int) (p : Int) (g : Unit) (t : Int × Int × List Tree) (u : Unit × Unit × Unit) (v : Unit) (rt : List Int) (len : Int) (i : Int) (hx : len = rt.length ∧ 0 ≤ i ∧ i ≤ len ∧ rt.length ≤ 99 ∧ t.2.2.length ≤ i.toNat) : grow.L0.T  k p g t u v rt len i := by
  obtain ⟨rfl, h0, h1, h2, h3⟩ := hx
  have w1 : IntKind.i64.wrap (i + 1) = i + 1 := wrapI64 (by omega) (by omega)
  rw [grow.L0.T, w1]
  have hD := fun h => drop_int 0 h0 (l := rt) h
  ((repeat' (first | exact trivial | apply And.intro)) <;> (intro hw; (try (simp only [true_and, and_true, decide_eq_true_eq, decide_eq_false_iff_not, beq_iff_eq, bne_iff_ne, beq_eq_false_iff_ne, bne_eq_false_iff_eq, ne_eq, Bool.not_eq_true, Bool.not_eq_false, not_true_eq_false, not_false_eq_true, Bool.not_eq_eq_eq_not, Bool.not_true, Bool.not_false, forall_const, imp_self, Bool.true_eq_false, Bool.false_eq_true, reduceCtorEq] at hw)); (try first | (exfalso; omega) | exact ⟨trivial, rfl⟩ | exact (hw hx).elim | exact (hw.2 hx).elim)))
  · rw [hD (by omega), List.map_cons]
    exact ⟨⟨rfl, by omega, by omega, h2, by simp only [List.length_append, List.length_singleton]; omega⟩, by simp only [grow.L0.mu]; omega, fun _ => ⟨trivial, by rw [List.append_assoc]; rfl⟩, trivial⟩
  · rw [drop_int_end hw, List.map_nil, List.append_nil]
    exact ⟨trivial, rfl⟩
theorem grow.L0.lp   : LpAt Try.prog 29 0 grow.L0 := lp_eval (l := []) (lf := 1000) (fun _ => cfOf_ok (fns_nil _)) (lps_nil _ _) (by kernel_rfl) _ (grow.L0.mu ) (fun ⟨k, p, g, t, u, v, rt, len, i⟩ hx => (grow.L0.eq  k p g t u v rt len i).mpr (grow.L0.ok  k p g t u v rt len i hx))
mutual
theorem growS_le (right : List Int) (p : Int) : ∀ (t : Tree) (k : Int), (growS right p t k).2 ≤ k
  | .mk s q ks, k => by
    have := growL_le right p ks k
    rw [growS]
    split
    · show k - 1 ≤ k; omega
    · exact this
theorem growL_le (right : List Int) (p : Int) : ∀ (l : List Tree) (k : Int), (growL right p l k).2 ≤ k
  | [], k => by rw [growL]; exact Int.le_refl _
  | t :: r, k => by
    have h1 := growS_le right p t k
    have h2 := growL_le right p r (growS right p t k).2
    rw [growL]
    split
    · show (growL right p r (growS right p t k).2).2 ≤ k; omega
    · exact Int.le_refl _
end
theorem nodesL_dropS {l : List Tree} {i : Nat} {x : Tree} (h : i < l.length) : nodesL (l.drop i) = nodesT (l.getD i x) + nodesL (l.drop (i + 1)) := by rw [drop_getD x l i h, nodesL]
theorem depthsT_dropS {l : List Tree} {i : Nat} {x : Tree} (h : i < l.length) : depthsT (l.drop i) = Nat.max (depthT (l.getD i x)) (depthsT (l.drop (i + 1))) := by rw [drop_getD x l i h, depthsT]
noncomputable def grow.L2 (d : Nat) : LFace := ⟨[2, 3, 4, 5, 8, 9, 12, 48, 49], [.v (.int .i64), .v (.int .i64), .p GR, .box 33 [.v (.int .i64), .v (.int .i64), .v (.sl .tree)], .box 33 [.un, .un, .un], .un, .row .tree 33, .v (.int .i64), .v (.int .i64)], fun (k, p, g, t, u, v, xs, len, i) => some (len = xs.length ∧ 0 ≤ i ∧ i ≤ len ∧ okG g ∧ 0 ≤ p ∧ p < (g.2.2.length : Int) ∧ k ≤ 1000000000 ∧ nodesL (xs.drop i.toNat) ≤ BIG ∧ depthsT (xs.drop i.toNat) ≤ d ∧ xs.length ≤ BIG),
  [⟨.normal, [2, 5, 8, 9, 12], [.v (.int .i64), .box 33 [.v (.int .i64), .v (.int .i64), .v (.sl .tree)], .box 33 [.un, .un, .un], .un, .row .tree 33], fun (k, p, g, t, u, v, xs, len, i) => ((growL (prodS g p).2 p (xs.drop i.toNat) k).2, t, u, v, xs.take i.toNat ++ (growL (prodS g p).2 p (xs.drop i.toNat) k).1), fun (k, p, g, t, u, v, xs, len, i) => none⟩]⟩
noncomputable def grow.L2.mu (d : Nat) : dens (grow.L2 d).sh → Nat := fun (k, p, g, t, u, v, xs, len, i) => (len - i).toNat
noncomputable def grow.L2.g (d : Nat) (k : Int) (p : Int) (g : List ByteArray × List ByteArray × List (Int × List Int)) (t : Int × Int × List Tree) (u : Unit × Unit × Unit) (v : Unit) (xs : List Tree) (len : Int) (i : Int) : Prop := GoodLA Try.prog (cfOf [grow d]) [] 1000 29 2 (grow.L2 d) (grow.L2.mu d) (k, p, g, t, u, v, xs, len, i)
noncomputable def grow.L2.T0 (d : Nat) (k : Int) (p : Int) (g : List ByteArray × List ByteArray × List (Int × List Int)) (t : Int × Int × List Tree) (u : Unit × Unit × Unit) (v : Unit) (xs : List Tree) (len : Int) (i : Int) : Prop := (((True ∧ decide (i < len) = true) ∧ decide (k ≥ (0 : Int)) = true) ∧ ¬((0 : Int) ≤ i ∧ i < (↑xs.length : Int)) → False) ∧ (((((True ∧ decide (i < len) = true) ∧ decide (k ≥ (0 : Int)) = true) ∧ (0 : Int) ≤ i ∧ i < (↑xs.length : Int)) ∧ i.toNat < xs.length) ∧ ¬(depthT (eT (xs.getD i.toNat (Tree.mk (0 : Int) (0 : Int) []))) ≤ d ∧ nodesT (eT (xs.getD i.toNat (Tree.mk (0 : Int) (0 : Int) []))) ≤ BIG ∧ okG g ∧ (0 : Int) ≤ p ∧ p < (↑(List.length g.snd.snd) : Int) ∧ (0 : Int) ≤ k ∧ k ≤ (1000000000 : Int)) →
  False) ∧ ((((((True ∧ decide (i < len) = true) ∧ decide (k ≥ (0 : Int)) = true) ∧ (0 : Int) ≤ i ∧ i < (↑xs.length : Int)) ∧ i.toNat < xs.length) ∧ depthT (eT (xs.getD i.toNat (Tree.mk (0 : Int) (0 : Int) []))) ≤ d ∧ nodesT (eT (xs.getD i.toNat (Tree.mk (0 : Int) (0 : Int) []))) ≤ BIG ∧ okG g ∧ (0 : Int) ≤ p ∧ p < (↑(List.length g.snd.snd) : Int) ∧ (0 : Int) ≤ k ∧ k ≤ (1000000000 : Int)) ∧ ¬((0 : Int) ≤ i ∧ i < (↑xs.length : Int)) →
  False) ∧ (((((((True ∧ decide (i < len) = true) ∧ decide (k ≥ (0 : Int)) = true) ∧ (0 : Int) ≤ i ∧ i < (↑xs.length : Int)) ∧ i.toNat < xs.length) ∧ depthT (eT (xs.getD i.toNat (Tree.mk (0 : Int) (0 : Int) []))) ≤ d ∧ nodesT (eT (xs.getD i.toNat (Tree.mk (0 : Int) (0 : Int) []))) ≤ BIG ∧ okG g ∧ (0 : Int) ≤ p ∧ p < (↑(List.length g.snd.snd) : Int) ∧ (0 : Int) ≤ k ∧ k ≤ (1000000000 : Int)) ∧ (0 : Int) ≤ i ∧ i < (↑xs.length : Int)) ∧ i.toNat < xs.length →
  (len = (↑(xs.set i.toNat (eT (growS (prodS g p).snd p (eT (xs.getD i.toNat (Tree.mk (0 : Int) (0 : Int) []))) k).fst)).length : Int) ∧ (0 : Int) ≤ IntKind.i64.wrap (i + (1 : Int)) ∧ IntKind.i64.wrap (i + (1 : Int)) ≤ len ∧ okG g ∧ (0 : Int) ≤ p ∧ p < (↑(List.length g.snd.snd) : Int) ∧ (growS (prodS g p).snd p (eT (xs.getD i.toNat (Tree.mk (0 : Int) (0 : Int) []))) k).snd ≤ (1000000000 : Int) ∧ nodesL (List.drop (IntKind.i64.wrap (i + (1 : Int))).toNat (xs.set i.toNat (eT (growS (prodS g p).snd p (eT (xs.getD i.toNat (Tree.mk (0 : Int) (0 : Int) []))) k).fst))) ≤ BIG ∧ depthsT (List.drop (IntKind.i64.wrap (i + (1 : Int))).toNat (xs.set i.toNat (eT (growS (prodS g p).snd p (eT (xs.getD i.toNat (Tree.mk (0 : Int) (0 : Int) []))) k).fst))) ≤ d ∧ (xs.set i.toNat (eT (growS (prodS g p).snd p (eT (xs.getD i.toNat (Tree.mk (0 : Int) (0 : Int) []))) k).fst)).length ≤ BIG) ∧ grow.L2.mu d ((growS (prodS g p).snd p (eT (xs.getD i.toNat (Tree.mk (0 : Int) (0 : Int) []))) k).snd, p, g, t, ((), (), ()), (), xs.set i.toNat (eT (growS (prodS g p).snd p (eT (xs.getD i.toNat (Tree.mk (0 : Int) (0 : Int) []))) k).fst), len, IntKind.i64.wrap (i + (1 : Int))) < grow.L2.mu d (k, p, g, t, u, v, xs, len, i) ∧ (True → True ∧ ((growL (prodS g p).snd p (List.drop (IntKind.i64.wrap (i + (1 : Int))).toNat (xs.set i.toNat (eT (growS (prodS g p).snd p (eT (xs.getD i.toNat (Tree.mk (0 : Int) (0 : Int) []))) k).fst))) (growS (prodS g p).snd p (eT (xs.getD i.toNat (Tree.mk (0 : Int) (0 : Int) []))) k).snd).snd, t, ((), (), ()), (), List.take (IntKind.i64.wrap (i + (1 : Int))).toNat (xs.set i.toNat (eT (growS (prodS g p).snd p (eT (xs.getD i.toNat (Tree.mk (0 : Int) (0 : Int) []))) k).fst)) ++ (growL (prodS g p).snd p (List.drop (IntKind.i64.wrap (i + (1 : Int))).toNat (xs.set i.toNat (eT (growS (prodS g p).snd p (eT (xs.getD i.toNat (Tree.mk (0 : Int) (0 : Int) []))) k).fst))) (growS (prodS g p).snd p (eT (xs.getD i.toNat (Tree.mk (0 : Int) (0 : Int) []))) k).snd).fst) = ((growL (prodS g p).snd p (List.drop i.toNat xs) k).snd, t, u, (), List.take i.toNat xs ++ (growL (prodS g p).snd p (List.drop i.toNat xs) k).fst)) ∧ True) ∧ (((((((True ∧ decide (i < len) = true) ∧ decide (k ≥ (0 : Int)) = true) ∧ (0 : Int) ≤ i ∧ i < (↑xs.length : Int)) ∧ i.toNat < xs.length) ∧ depthT (eT (xs.getD i.toNat (Tree.mk (0 : Int) (0 : Int) []))) ≤ d ∧ nodesT (eT (xs.getD i.toNat (Tree.mk (0 : Int) (0 : Int) []))) ≤ BIG ∧ okG g ∧ (0 : Int) ≤ p ∧ p < (↑(List.length g.snd.snd) : Int) ∧ (0 : Int) ≤ k ∧ k ≤ (1000000000 : Int)) ∧ (0 : Int) ≤ i ∧ i < (↑xs.length : Int)) ∧ ¬i.toNat < xs.length →
  False) ∧ ((((True ∧ decide (i < len) = true) ∧ decide (k ≥ (0 : Int)) = true) ∧ (0 : Int) ≤ i ∧ i < (↑xs.length : Int)) ∧ ¬i.toNat < xs.length → False) ∧ ((True ∧ decide (i < len) = true) ∧ decide (k ≥ (0 : Int)) = false →
  (len = (↑xs.length : Int) ∧ (0 : Int) ≤ IntKind.i64.wrap (i + (1 : Int)) ∧ IntKind.i64.wrap (i + (1 : Int)) ≤ len ∧ okG g ∧ (0 : Int) ≤ p ∧ p < (↑(List.length g.snd.snd) : Int) ∧ k ≤ (1000000000 : Int) ∧ nodesL (List.drop (IntKind.i64.wrap (i + (1 : Int))).toNat xs) ≤ BIG ∧ depthsT (List.drop (IntKind.i64.wrap (i + (1 : Int))).toNat xs) ≤ d ∧ xs.length ≤ BIG) ∧ grow.L2.mu d (k, p, g, t, ((), (), ()), (), xs, len, IntKind.i64.wrap (i + (1 : Int))) < grow.L2.mu d (k, p, g, t, u, v, xs, len, i) ∧ (True → True ∧ ((growL (prodS g p).snd p (List.drop (IntKind.i64.wrap (i + (1 : Int))).toNat xs) k).snd, t, ((), (), ()), (), List.take (IntKind.i64.wrap (i + (1 : Int))).toNat xs ++ (growL (prodS g p).snd p (List.drop (IntKind.i64.wrap (i + (1 : Int))).toNat xs) k).fst) = ((growL (prodS g p).snd p (List.drop i.toNat xs) k).snd, t, u, (), List.take i.toNat xs ++ (growL (prodS g p).snd p (List.drop i.toNat xs) k).fst)) ∧ True) ∧ (True ∧ decide (i < len) = false → True ∧ (k, t, ((), (), ()), (), xs) = ((growL (prodS g p).snd p (List.drop i.toNat xs) k).snd, t, u, (), List.take i.toNat xs ++ (growL (prodS g p).snd p (List.drop i.toNat xs) k).fst)) ∧ (True)
theorem grow.L2.eq (d : Nat) (k : Int) (p : Int) (g : List ByteArray × List ByteArray × List (Int × List Int)) (t : Int × Int × List Tree) (u : Unit × Unit × Unit) (v : Unit) (xs : List Tree) (len : Int) (i : Int) : grow.L2.g d k p g t u v xs len i = grow.L2.T0 d k p g t u v xs len i := by kernel_rfl
theorem grow.L2.ok (d : Nat) (k : Int) (p : Int) (g : List ByteArray × List ByteArray × List (Int × List Int)) (t : Int × Int × List Tree) (u : Unit × Unit × Unit) (v : Unit) (xs : List Tree) (len : Int) (i : Int) (hx : len = xs.length ∧ 0 ≤ i ∧ i ≤ len ∧ okG g ∧ 0 ≤ p ∧ p < (g.2.2.length : Int) ∧ k ≤ 1000000000 ∧ nodesL (xs.drop i.toNat) ≤ BIG ∧ depthsT (xs.drop i.toNat) ≤ d ∧ xs.length ≤ BIG) : grow.L2.T0 d k p g t u v xs len i := by
  unfold grow.L2.T0
  repeat rw [eT_eq]
  obtain ⟨rfl, h0, h1, h2, h3, h4, h5, h6, h7, h8⟩ := hx
  have hB : BIG = 1000000 := rfl
  have w1 : IntKind.i64.wrap (i + 1) = i + 1 := wrapI64 (by omega) (by omega)
  rw [w1]
  have hle := growS_le (prodS g p).2 p (xs.getD i.toNat (.mk 0 0 [])) k
  have hi1 : (i + 1).toNat = i.toNat + 1 := by omega
  ((repeat' (first | exact trivial | apply And.intro)) <;> (intro hw; (try (simp only [true_and, and_true, decide_eq_true_eq, decide_eq_false_iff_not, beq_iff_eq, bne_iff_ne, beq_eq_false_iff_ne, bne_eq_false_iff_eq, ne_eq, Bool.not_eq_true, Bool.not_eq_false, not_true_eq_false, not_false_eq_true, Bool.not_eq_eq_eq_not, Bool.not_true, Bool.not_false, forall_const, imp_self, Bool.true_eq_false, Bool.false_eq_true, reduceCtorEq] at hw)); (try first | (exfalso; omega) | exact ⟨trivial, rfl⟩ | exact (hw hx).elim | exact (hw.2 hx).elim)))
  · have g1 := nodesL_dropS (l := xs) (i := i.toNat) (x := .mk 0 0 []) (by omega)
    have g2 := depthsT_dropS (l := xs) (i := i.toNat) (x := .mk 0 0 []) (by omega)
    have g3 := Nat.le_max_left (depthT (xs.getD i.toNat (.mk 0 0 []))) (depthsT (xs.drop (i.toNat + 1)))
    exact hw.2 ⟨by rw [g2] at h7; exact Nat.le_trans g3 h7, by omega, h2, h3, h4, by omega, h5⟩
  · have g1 := nodesL_dropS (l := xs) (i := i.toNat) (x := .mk 0 0 []) (by omega)
    have g2 := depthsT_dropS (l := xs) (i := i.toNat) (x := .mk 0 0 []) (by omega)
    have g3 := Nat.le_max_right (depthT (xs.getD i.toNat (.mk 0 0 []))) (depthsT (xs.drop (i.toNat + 1)))
    obtain ⟨s1, s2⟩ := growL_step (right := (prodS g p).2) (p := p) (xs := xs) (i := i.toNat) (k := k) (d := .mk 0 0 []) (by omega) (by omega)
    rw [hi1]
    refine ⟨⟨by rw [List.length_set], by omega, by omega, h2, h3, h4, by omega, ?_, ?_, by rw [List.length_set]; exact h8⟩, by simp only [grow.L2.mu]; omega, fun _ => ⟨trivial, ?_⟩, trivial⟩
    · rw [List.drop_set_of_lt (by omega)]; omega
    · rw [List.drop_set_of_lt (by omega)]; rw [g2] at h7; exact Nat.le_trans g3 h7
    · rw [← s1, ← s2]
  · have g1 := nodesL_dropS (l := xs) (i := i.toNat) (x := .mk 0 0 []) (by omega)
    have g2 := depthsT_dropS (l := xs) (i := i.toNat) (x := .mk 0 0 []) (by omega)
    have g3 := Nat.le_max_right (depthT (xs.getD i.toNat (.mk 0 0 []))) (depthsT (xs.drop (i.toNat + 1)))
    rw [hi1]
    refine ⟨⟨rfl, by omega, by omega, h2, h3, h4, h5, by omega, by rw [g2] at h7; exact Nat.le_trans g3 h7, h8⟩, by simp only [grow.L2.mu]; omega, fun _ => ⟨trivial, ?_⟩, trivial⟩
    rw [growL_neg _ (by omega), growL_neg _ (by omega), List.take_append_drop, List.take_append_drop]
  · rw [drop_int_end hw, growL, List.append_nil, List.take_of_length_le (by omega)]
    exact ⟨trivial, rfl⟩
theorem grow.L2.lp (d : Nat) (ih : FnOk Try.prog (grow d)) : LpAt Try.prog 29 2 (grow.L2 d) := lp_eval (l := []) (lf := 1000) (fun _ => cfOf_ok (fns_cons ih (fns_nil _))) (lps_nil _ _) (by kernel_rfl) _ (grow.L2.mu d) (fun ⟨k, p, g, t, u, v, xs, len, i⟩ hx => (grow.L2.eq d k p g t u v xs len i).mpr (grow.L2.ok d k p g t u v xs len i hx))
noncomputable def growA (d : Nat) : Face := ⟨29, [.v GR, .v .tree, .v (.int .i64), .v (.int .i64)], fun (g, t, k, p) => some (depthT t ≤ d + 1 ∧ nodesT t ≤ BIG ∧ okG g ∧ 0 ≤ p ∧ p < (g.2.2.length : Int) ∧ 0 ≤ k ∧ k ≤ 1000000000),
  [⟨false, [.v .tree, .v (.int .i64)], fun (g, t, k, p) => growS (prodS g p).2 p t k, fun (g, t, k, p) => none⟩]⟩
noncomputable def growA.g (d : Nat) (g : List ByteArray × List ByteArray × List (Int × List Int)) (t : Tree) (k : Int) (p : Int) : Prop := GoodFA Try.prog (cfOf []) [(0, grow.L0), (2, grow.L2 d)] 1000 (growA d) (g, t, k, p)
noncomputable def growA.T0 (d : Nat) (g : List ByteArray × List ByteArray × List (Int × List Int)) (t : Tree) (k : Int) (p : Int) : Prop := (((((True ∧ (t.prod == (-1 : Int)) = true) ∧ (k == (0 : Int)) = true) ∧ (0 : Int) ≤ p ∧ p < (↑(List.length g.snd.snd) : Int)) ∧ List.length (List.getD g.snd.snd p.toNat ((0 : Int), [])).snd ≤ (9223372036854775807 : Nat)) ∧ ¬((↑(List.length (List.getD g.snd.snd p.toNat ((0 : Int), [])).snd) : Int) = (↑(List.length (List.getD g.snd.snd p.toNat ((0 : Int), [])).snd) : Int) ∧ (0 : Int) ≤ (0 : Int) ∧ (0 : Int) ≤ (↑(List.length (List.getD g.snd.snd p.toNat ((0 : Int), [])).snd) : Int) ∧ List.length (List.getD g.snd.snd p.toNat ((0 : Int), [])).snd ≤ (99 : Nat) ∧ (0 : Nat) ≤ Int.toNat (0 : Int)) →
  False) ∧ (((((True ∧ (t.prod == (-1 : Int)) = true) ∧ (k == (0 : Int)) = true) ∧ (0 : Int) ≤ p ∧ p < (↑(List.length g.snd.snd) : Int)) ∧ List.length (List.getD g.snd.snd p.toNat ((0 : Int), [])).snd ≤ (9223372036854775807 : Nat)) ∧ (↑(List.length (List.getD g.snd.snd p.toNat ((0 : Int), [])).snd) : Int) = (↑(List.length (List.getD g.snd.snd p.toNat ((0 : Int), [])).snd) : Int) ∧ (0 : Int) ≤ (0 : Int) ∧ (0 : Int) ≤ (↑(List.length (List.getD g.snd.snd p.toNat ((0 : Int), [])).snd) : Int) ∧ List.length (List.getD g.snd.snd p.toNat ((0 : Int), [])).snd ≤ (99 : Nat) ∧ (0 : Nat) ≤ Int.toNat (0 : Int) →
  True ∧ (Tree.mk t.sym p ([] ++ List.map leafOf (List.drop (Int.toNat (0 : Int)) (List.getD g.snd.snd p.toNat ((0 : Int), ([] : List Int))).snd)), IntKind.i64.wrap (k - (1 : Int))) = growS (prodS g p).snd p t k) ∧ (((True ∧ (t.prod == (-1 : Int)) = true) ∧ (k == (0 : Int)) = true) ∧ ¬((0 : Int) ≤ p ∧ p < (↑(List.length g.snd.snd) : Int)) → False) ∧ ((True ∧ (t.prod == (-1 : Int)) = true) ∧ (k == (0 : Int)) = false → True ∧ (eT t, IntKind.i64.wrap (k - (1 : Int))) = growS (prodS g p).snd p t k) ∧ ((((True ∧ (t.prod == (-1 : Int)) = false) ∧ t.kids.length * (40 : Nat) ≤ (140737488355328 : Nat)) ∧ t.kids.length ≤ (9223372036854775807 : Nat)) ∧ ¬((↑t.kids.length : Int) = (↑t.kids.length : Int) ∧ (0 : Int) ≤ (0 : Int) ∧ (0 : Int) ≤ (↑t.kids.length : Int) ∧ okG g ∧ (0 : Int) ≤ p ∧ p < (↑(List.length g.snd.snd) : Int) ∧ k ≤ (1000000000 : Int) ∧ nodesL (List.drop (Int.toNat (0 : Int)) t.kids) ≤ BIG ∧ depthsT (List.drop (Int.toNat (0 : Int)) t.kids) ≤ d ∧ t.kids.length ≤ BIG) →
  False) ∧ ((((True ∧ (t.prod == (-1 : Int)) = false) ∧ t.kids.length * (40 : Nat) ≤ (140737488355328 : Nat)) ∧ t.kids.length ≤ (9223372036854775807 : Nat)) ∧ (↑t.kids.length : Int) = (↑t.kids.length : Int) ∧ (0 : Int) ≤ (0 : Int) ∧ (0 : Int) ≤ (↑t.kids.length : Int) ∧ okG g ∧ (0 : Int) ≤ p ∧ p < (↑(List.length g.snd.snd) : Int) ∧ k ≤ (1000000000 : Int) ∧ nodesL (List.drop (Int.toNat (0 : Int)) t.kids) ≤ BIG ∧ depthsT (List.drop (Int.toNat (0 : Int)) t.kids) ≤ d ∧ t.kids.length ≤ BIG →
  True ∧ (Tree.mk t.sym t.prod (List.take (Int.toNat (0 : Int)) t.kids ++ (growL (prodS g p).snd p (List.drop (Int.toNat (0 : Int)) t.kids) k).fst), (growL (prodS g p).snd p (List.drop (Int.toNat (0 : Int)) t.kids) k).snd) = growS (prodS g p).snd p t k) ∧ ((True ∧ (t.prod == (-1 : Int)) = false) ∧ ¬t.kids.length * (40 : Nat) ≤ (140737488355328 : Nat) → False) ∧ (True)
theorem growA.eq (d : Nat) (g : List ByteArray × List ByteArray × List (Int × List Int)) (t : Tree) (k : Int) (p : Int) : growA.g d g t k p = growA.T0 d g t k p := by kernel_rfl
theorem growA.ok (d : Nat) (g : List ByteArray × List ByteArray × List (Int × List Int)) (t : Tree) (k : Int) (p : Int) (hx : depthT t ≤ d + 1 ∧ nodesT t ≤ BIG ∧ okG g ∧ 0 ≤ p ∧ p < (g.2.2.length : Int) ∧ 0 ≤ k ∧ k ≤ 1000000000) : growA.T0 d g t k p := by
  unfold growA.T0
  repeat rw [eT_eq]
  obtain ⟨h1, h2, h3, h4, h5, h6, h7⟩ := hx
  have hB : BIG = 1000000 := rfl
  have hr : (g.2.2.getD p.toNat (0, [])).2.length ≤ 6 := h3.2.2.2 _ (getD_mem (by omega))
  have hps : prodS g p = g.2.2.getD p.toNat (0, []) := rfl
  have hnn := nodesT_eq t
  have hkn := nodesL_len t.kids
  have hdd := depthT_kids h1
  rw [growS_eq, wrapI64 (x := k - 1) (by omega) (by omega), hps]
  simp only [show Int.toNat 0 = 0 from rfl, List.drop_zero, List.take_zero, List.nil_append]
  ((repeat' (first | exact trivial | apply And.intro)) <;> (intro hw; (try (simp only [true_and, and_true, decide_eq_true_eq, decide_eq_false_iff_not, beq_iff_eq, bne_iff_ne, beq_eq_false_iff_ne, bne_eq_false_iff_eq, ne_eq, Bool.not_eq_true, Bool.not_eq_false, not_true_eq_false, not_false_eq_true, Bool.not_eq_eq_eq_not, Bool.not_true, Bool.not_false, forall_const, imp_self, Bool.true_eq_false, Bool.false_eq_true, reduceCtorEq] at hw)); (try first | (exfalso; omega) | exact ⟨trivial, rfl⟩ | exact (hw hx).elim | exact (hw.2 hx).elim)))
  all_goals first
    | (exfalso; omega)
    | (refine ⟨trivial, ?_⟩; rw [if_pos (by omega), if_pos (by omega)]; done)
    | (refine ⟨trivial, ?_⟩; rw [if_pos (by omega), if_neg (by omega)]; done)
    | (refine ⟨trivial, ?_⟩; rw [if_neg (by omega)]; done)
    | exact hw.2 ⟨by omega, by omega, h3, h4, h5, by omega, by omega, hdd, by omega⟩
    | exact hw.2 ⟨by omega, by omega, by omega, h3, h4, h5, by omega, by omega, hdd, by omega⟩
    | skip
theorem growA.fn (d : Nat) (ih : FnOk Try.prog (grow d)) : FnOk Try.prog (growA d) := fn_eval (l := [(0, grow.L0), (2, grow.L2 d)]) (lf := 1000) (fun _ => cfOf_ok (fns_nil _)) _ (lps_cons (grow.L0.lp) (lps_cons (grow.L2.lp d ih) (lps_nil _ _))) (by kernel_rfl) (fun ⟨g, t, k, p⟩ hx => (growA.eq d g t k p).mpr (growA.ok d g t k p hx))
noncomputable def growF : Face := ⟨29, [.v GR, .v .tree, .v (.int .i64), .v (.int .i64)], fun (g, t, k, p) => some (nodesT t ≤ BIG ∧ okG g ∧ 0 ≤ p ∧ p < (g.2.2.length : Int) ∧ 0 ≤ k ∧ k ≤ 1000000000), [⟨false, [.v .tree, .v (.int .i64)], fun (g, t, k, p) => growS (prodS g p).2 p t k, fun _ => none⟩]⟩
theorem grow.fn : ∀ d, FnOk Try.prog (grow d)
  | 0 => fn_none fun ⟨g, t, k, p⟩ h => depthT_pos t h.1
  | d + 1 => growA.fn d (grow.fn d)
theorem growF.fn : FnOk Try.prog growF := fn_all grow.fn (fun ⟨g, t, k, p⟩ h => ⟨depthT t, Nat.le_refl _, h⟩)
theorem leaves_leafs : ∀ l : List Int, leavesL (l.map leafOf) = l
  | [] => rfl
  | s :: r => by rw [List.map_cons, leavesL, leaves_leafs r, leafOf, leavesS, if_pos rfl]; rfl
theorem nodes_leafs : ∀ l : List Int, nodesL (l.map leafOf) = l.length
  | [] => rfl
  | s :: r => by rw [List.map_cons, nodesL, nodes_leafs r, leafOf, nodesT, nodesL, List.length_cons]; omega
section
variable {right : List Int} {p : Int}
mutual
theorem grow_low : ∀ (t : Tree) (k : Int), ((leavesS t).length : Int) ≤ k → growS right p t k = (t, k - ((leavesS t).length : Int))
  | .mk s q ks, k, h => by
    rw [growS]
    by_cases hq : q = -1
    · rw [if_pos hq]
      rw [leavesS, if_pos hq] at h ⊢
      simp only [List.length_singleton] at h ⊢
      rw [if_neg (by omega)]; rfl
    · rw [if_neg hq]
      rw [leavesS, if_neg hq] at h ⊢
      rw [growL_low ks k h]
theorem growL_low : ∀ (l : List Tree) (k : Int), ((leavesL l).length : Int) ≤ k → growL right p l k = (l, k - ((leavesL l).length : Int))
  | [], k, h => by rw [growL]; simp [leavesL]
  | t :: r, k, h => by
    rw [leavesL, List.length_append] at h ⊢
    rw [growL, if_pos (by omega), grow_low t k (by omega)]
    show (t :: (growL right p r (k - ((leavesS t).length : Int))).1, (growL right p r (k - ((leavesS t).length : Int))).2) = _
    rw [growL_low r _ (by omega)]
    simp only [Prod.mk.injEq, true_and]; omega
end
mutual
theorem grow_hit (hp : p ≠ -1) : ∀ (t : Tree) (k : Int), 0 ≤ k → k < ((leavesS t).length : Int) → (growS right p t k).2 = -1 ∧ leavesS (growS right p t k).1 = (leavesS t).take k.toNat ++ right ++ (leavesS t).drop (k.toNat + 1)
  | .mk s q ks, k, h0, h => by
    rw [growS]
    by_cases hq : q = -1
    · rw [if_pos hq]
      rw [leavesS, if_pos hq] at h ⊢
      simp only [List.length_singleton] at h
      obtain rfl : k = 0 := by omega
      rw [if_pos rfl]
      refine ⟨rfl, ?_⟩
      rw [leavesS, if_neg hp, leaves_leafs]; simp
    · rw [if_neg hq]
      rw [leavesS, if_neg hq] at h ⊢
      obtain ⟨a, b⟩ := growL_hit hp ks k h0 h
      exact ⟨a, by rw [leavesS, if_neg hq, b]⟩
theorem growL_hit (hp : p ≠ -1) : ∀ (l : List Tree) (k : Int), 0 ≤ k → k < ((leavesL l).length : Int) → (growL right p l k).2 = -1 ∧ leavesL (growL right p l k).1 = (leavesL l).take k.toNat ++ right ++ (leavesL l).drop (k.toNat + 1)
  | [], k, h0, h => by simp [leavesL] at h; omega
  | t :: r, k, h0, h => by
    rw [leavesL, List.length_append] at h
    rw [growL, if_pos h0]
    by_cases hk : k < ((leavesS t).length : Int)
    · obtain ⟨a, b⟩ := grow_hit hp t k h0 hk
      rw [a, growL_neg r (by omega)]
      refine ⟨rfl, ?_⟩
      show leavesL ((growS right p t k).1 :: r) = _
      rw [leavesL, b, leavesL, List.take_append_of_le_length (by omega), List.drop_append_of_le_length (by omega)]
      simp only [List.append_assoc]
    · rw [grow_low t k (by omega)]
      obtain ⟨a, b⟩ := growL_hit hp r (k - ((leavesS t).length : Int)) (by omega) (by omega)
      refine ⟨a, ?_⟩
      · show leavesL (t :: (growL right p r (k - ((leavesS t).length : Int))).1) = _
        rw [leavesL, b, leavesL, List.take_append, List.drop_append]
        rw [List.take_of_length_le (show (leavesS t).length ≤ k.toNat by omega), List.drop_eq_nil_of_le (show (leavesS t).length ≤ k.toNat + 1 by omega), List.nil_append]
        rw [show (k - ((leavesS t).length : Int)).toNat = k.toNat - (leavesS t).length by omega, show k.toNat + 1 - (leavesS t).length = k.toNat - (leavesS t).length + 1 by omega]
        simp only [List.append_assoc]
end
end
def validG (g : Gr) : Prop := ∀ q ∈ g.2.2, ∀ s ∈ q.2, isS g s = true
theorem check_leafs {g : Gr} : ∀ {l : List Int}, (∀ s ∈ l, isS g s = true) → checksS g (l.map leafOf) l = true
  | [], _ => rfl
  | s :: r, h => by
    rw [List.map_cons, checksS, check_leafs (fun x hx => h x (List.mem_cons_of_mem _ hx)), leafOf, checkS, decide_eq_true rfl, if_pos rfl, h s List.mem_cons_self]; rfl
section
variable {g : Gr} {p : Int}
mutual
theorem grow_check (hg : validG g) (hp0 : 0 ≤ p) (hpl : p < (g.2.2.length : Int)) : ∀ (t : Tree) (k s : Int), checkS g t s = true → 0 ≤ k → k < ((leavesS t).length : Int) → (prodS g p).1 = (leavesS t).getD k.toNat 0 → checkS g (growS (prodS g p).2 p t k).1 s = true ∧ nodesT (growS (prodS g p).2 p t k).1 = nodesT t + (prodS g p).2.length
  | .mk s q ks, k, root, hc, h0, h, hl => by
    rw [growS]
    rw [checkS, Bool.and_eq_true, decide_eq_true_eq] at hc
    obtain ⟨rfl, hc⟩ := hc
    by_cases hq : q = -1
    · rw [if_pos hq] at hc ⊢
      rw [leavesS, if_pos hq] at h hl
      simp only [List.length_singleton] at h
      obtain rfl : k = 0 := by omega
      simp only [Bool.and_eq_true, decide_eq_true_eq] at hc
      rw [if_pos rfl]
      have hm : prodS g p ∈ g.2.2 := getD_mem (by omega)
      refine ⟨?_, ?_⟩
      · rw [checkS, if_neg (by omega), check_leafs (hg _ hm), decide_eq_true rfl, decide_eq_true hp0, decide_eq_true hpl, decide_eq_true (by simpa using hl)]; rfl
      · have h9 : ks = [] := List.eq_nil_of_length_eq_zero hc.1
        subst h9
        simp only [nodesT, nodes_leafs, nodesL]; omega
    · rw [if_neg hq] at hc ⊢
      rw [leavesS, if_neg hq] at h hl
      simp only [Bool.and_eq_true] at hc
      obtain ⟨c1, c2, c3, c4⟩ := hc
      obtain ⟨a, b⟩ := growL_check hg hp0 hpl ks k _ c4 h0 h hl
      refine ⟨?_, ?_⟩
      · rw [checkS, if_neg hq, c1, c2, c3, a, decide_eq_true rfl]; rfl
      · simp only [nodesT, b]; omega
theorem growL_check (hg : validG g) (hp0 : 0 ≤ p) (hpl : p < (g.2.2.length : Int)) : ∀ (l : List Tree) (k : Int) (q : List Int), checksS g l q = true → 0 ≤ k → k < ((leavesL l).length : Int) → (prodS g p).1 = (leavesL l).getD k.toNat 0 → checksS g (growL (prodS g p).2 p l k).1 q = true ∧ nodesL (growL (prodS g p).2 p l k).1 = nodesL l + (prodS g p).2.length
  | [], k, q, hc, h0, h, hl => by simp [leavesL] at h; omega
  | t :: r, k, [], hc, h0, h, hl => by simp [checksS] at hc
  | t :: r, k, s :: q, hc, h0, h, hl => by
    simp only [checksS, Bool.and_eq_true] at hc
    rw [leavesL, List.length_append] at h
    rw [leavesL] at hl
    rw [growL, if_pos h0]
    by_cases hk : k < ((leavesS t).length : Int)
    · have hl' : (prodS g p).1 = (leavesS t).getD k.toNat 0 := by
        rw [hl, List.getD_eq_getElem?_getD, List.getElem?_append_left (by omega), ← List.getD_eq_getElem?_getD]
      obtain ⟨a, b⟩ := grow_check hg hp0 hpl t k s hc.1 h0 hk hl'
      have hn := (grow_hit (right := (prodS g p).2) (show p ≠ -1 by omega) t k h0 hk).1
      rw [hn, growL_neg r (by omega)]
      refine ⟨?_, ?_⟩
      · show checksS g ((growS (prodS g p).2 p t k).1 :: r) (s :: q) = true
        rw [checksS, a, hc.2]; rfl
      · show nodesL ((growS (prodS g p).2 p t k).1 :: r) = _
        rw [nodesL, nodesL, b]; omega
    · have hl' : (prodS g p).1 = (leavesL r).getD (k - ((leavesS t).length : Int)).toNat 0 := by
        rw [hl, List.getD_eq_getElem?_getD, List.getElem?_append_right (by omega), ← List.getD_eq_getElem?_getD, show (k - ((leavesS t).length : Int)).toNat = k.toNat - (leavesS t).length by omega]
      rw [grow_low t k (by omega)]
      obtain ⟨a, b⟩ := growL_check hg hp0 hpl r (k - ((leavesS t).length : Int)) q hc.2 (by omega) (by omega) hl'
      refine ⟨?_, ?_⟩
      · show checksS g (t :: (growL (prodS g p).2 p r (k - ((leavesS t).length : Int))).1) (s :: q) = true
        rw [checksS, a, hc.1]; rfl
      · show nodesL (t :: (growL (prodS g p).2 p r (k - ((leavesS t).length : Int))).1) = _
        rw [nodesL, nodesL, b]; omega
end
end
mutual
theorem sameT_imp : ∀ {a b : Tree}, sameT a b = true → a = b
  | .mk s p ks, .mk s' p' ks', h => by
    simp only [sameT, Bool.and_eq_true, decide_eq_true_eq] at h
    rw [h.1, h.2.1, sameTL_imp h.2.2]
theorem sameTL_imp : ∀ {a b : List Tree}, sameTL a b = true → a = b
  | [], [], _ => rfl
  | [], _ :: _, h => by simp [sameTL] at h
  | _ :: _, [], h => by simp [sameTL] at h
  | a :: r, b :: s, h => by
    simp only [sameTL, Bool.and_eq_true] at h
    rw [sameT_imp h.1, sameTL_imp h.2]
end
mutual
theorem sizeS_nodes : ∀ t : Tree, nodesT t ≤ 2000000 → sizeS t = (nodesT t : Int)
  | .mk s p ks, h => by
    rw [nodesT] at h ⊢
    rw [sizeS, sizesS_nodes ks 1 (by omega) (by omega) (by omega)]; omega
theorem sizesS_nodes : ∀ (l : List Tree) (n : Int), 0 ≤ n → n + (nodesL l : Int) ≤ 2000001 → 0 < n → sizesS n l = n + (nodesL l : Int)
  | [], n, _, _, _ => by simp [sizesS, nodesL]
  | k :: r, n, h0, h, hn => by
    rw [nodesL] at h
    have hp := nodesT_pos k
    rw [sizesS, sizeS_nodes k (by omega), wrapI64 (by omega) (by omega), sizesS_nodes r _ (by omega) (by omega) (by omega), nodesL]; omega
end
theorem treeS_check {g : Gr} (hg : validG g) (hG : okG g) : ∀ (d : Nat) (sym : Int) (l : List Int), isS g sym = true → checkS g (treeS d g sym l).1 sym = true
  | 0, sym, l, h => by rw [treeS, checkS, decide_eq_true rfl, if_pos rfl, h]; rfl
  | d + 1, sym, l, h => by
    rw [treeS]
    split
    · rw [checkS, decide_eq_true rfl, if_pos rfl, h]; rfl
    · rename_i hc
      have hP := prodsOf_get hG sym (l.getD 0 0)
      have hm : (prodsOf sym 0 g.2.2).getD (l.getD 0 0 % ((prodsOf sym 0 g.2.2).length : Int)).toNat 0 ∈ prodsOf sym 0 g.2.2 := getD_mem (by omega)
      obtain ⟨m1, m2, m3⟩ := prodsOf_mem hm
      generalize (prodsOf sym 0 g.2.2).getD (l.getD 0 0 % ((prodsOf sym 0 g.2.2).length : Int)).toNat 0 = p at *
      have hr : ∀ (q l : List Int), (∀ s ∈ q, isS g s = true) → checksS g (kidsS (treeS d g) q l).1 q = true := by
        intro q
        induction q with
        | nil => intro l _; rfl
        | cons s q ih =>
          intro l hq
          rw [kidsS, checksS, treeS_check hg hG d s l (hq s List.mem_cons_self), ih _ (fun x hx => hq x (List.mem_cons_of_mem _ hx))]; rfl
      rw [Int.sub_zero] at m3
      rw [checkS, decide_eq_true rfl, if_neg (by omega), decide_eq_true (show 0 ≤ p by omega), decide_eq_true (show p < (g.2.2.length : Int) by omega), decide_eq_true (show (prodS g p).1 = sym from m3)]
      rw [show prodS g p = g.2.2.getD p.toNat (0, []) from rfl, hr _ _ (hg _ (getD_mem (by omega)))]; rfl
def okV (g : Gr) : Prop := 1 ≤ g.1.length ∧ g.1.length ≤ 99 ∧ g.2.1.length ≤ 99 ∧ validG g
theorem isS_put (g : Gr) (l : Int) (r : List Int) (s : Int) : isS (putS g l r) s = isS g s := by
  obtain ⟨p1, p2, _⟩ := putS_len g l r
  simp only [isS, termS, nonS, p1, p2]
theorem symS_is {g : Gr} (h1 : 1 ≤ g.1.length) (h2 : g.1.length ≤ 99) (r : Int) : isS g (symS g.1.length g.2.1.length r) = true := by
  have e1 := Int.emod_nonneg r (show (g.1.length : Int) + g.2.1.length ≠ 0 by omega)
  have e2 := Int.emod_lt_of_pos r (show 0 < (g.1.length : Int) + g.2.1.length by omega)
  by_cases hc : r % ((g.1.length : Int) + g.2.1.length) < g.1.length
  · have e : symS g.1.length g.2.1.length r = r % ((g.1.length : Int) + g.2.1.length) + 1 := if_pos hc
    rw [e]
    simp only [isS, termS, nonS, Bool.or_eq_true, Bool.and_eq_true, decide_eq_true_eq]
    left; omega
  · have e : symS g.1.length g.2.1.length r = 100 + r % ((g.1.length : Int) + g.2.1.length) - g.1.length := if_neg hc
    rw [e]
    simp only [isS, termS, nonS, Bool.or_eq_true, Bool.and_eq_true, decide_eq_true_eq]
    right; omega
theorem putS_okV {g : Gr} (h : okV g) (left : Int) (row : List Int) : okV (putS g left row) := by
  obtain ⟨h0, h1, h2, h3⟩ := h
  obtain ⟨p1, p2, _⟩ := putS_len g left row
  refine ⟨by rw [p1]; exact h0, by rw [p1]; exact h1, by rw [p2]; exact h2, fun q hq s hs => ?_⟩
  rw [isS_put]
  unfold putS at hq
  split at hq
  · exact h3 q hq s hs
  · rcases List.mem_append.1 hq with hq | hq
    · exact h3 q hq s hs
    · rw [List.mem_singleton.1 hq] at hs
      obtain ⟨r, _, rfl⟩ := List.mem_map.1 hs
      exact symS_is h0 h1 r
def hasP (g : Gr) (s : Int) : Prop := ∃ q ∈ g.2.2, q.1 = s
theorem hasS_imp {left : Int} {r : List Int} : ∀ {l : List (Int × List Int)}, hasS left r l = true → ∃ q ∈ l, q.1 = left
  | [], h => by simp [hasS] at h
  | q :: l, h => by
    simp only [hasS, Bool.or_eq_true, Bool.and_eq_true, decide_eq_true_eq] at h
    rcases h with h | h
    · exact ⟨q, List.mem_cons_self, h.1⟩
    · obtain ⟨x, hx, e⟩ := hasS_imp h
      exact ⟨x, List.mem_cons_of_mem _ hx, e⟩
theorem putS_has (g : Gr) (left : Int) (row : List Int) : hasP (putS g left row) left := by
  unfold putS
  split
  · rename_i h; exact hasS_imp h
  · exact ⟨_, List.mem_append_right _ (List.mem_singleton_self _), rfl⟩
theorem putS_keep {g : Gr} {s : Int} (h : hasP g s) (left : Int) (row : List Int) : hasP (putS g left row) s := by
  obtain ⟨q, hq, e⟩ := h
  unfold putS
  split
  · exact ⟨q, hq, e⟩
  · exact ⟨q, List.mem_append_left _ hq, e⟩
theorem puts1_keep {s : Int} : ∀ (k : Nat) (i : Int) {g : Gr}, hasP g s → hasP (puts1 k i g) s
  | 0, i, g, h => h
  | k + 1, i, g, h => puts1_keep k _ (putS_keep h _ _)
theorem puts1_has : ∀ (k : Nat) (i : Int) (g : Gr) (s : Int), 100 + i ≤ s → s < 100 + i + k → hasP (puts1 k i g) s
  | 0, i, g, s, h1, h2 => by omega
  | k + 1, i, g, s, h1, h2 => by
    rw [puts1]
    by_cases e : s = 100 + i
    · subst e; exact puts1_keep k _ (putS_has g _ _)
    · exact puts1_has k (i + 1) _ s (by omega) (by omega)
theorem puts2_keep {m s : Int} : ∀ (l : List (List Int)) (i : Int) {g : Gr}, hasP g s → hasP (puts2 m i g l) s
  | [], i, g, h => h
  | r :: l, i, g, h => puts2_keep l _ (putS_keep h _ _)
theorem puts1_okV : ∀ (k : Nat) (i : Int) {g : Gr}, okV g → okV (puts1 k i g)
  | 0, i, g, h => h
  | k + 1, i, g, h => puts1_okV k _ (putS_okV h _ _)
theorem puts2_okV (m : Int) : ∀ (l : List (List Int)) (i : Int) {g : Gr}, okV g → okV (puts2 m i g l)
  | [], i, g, h => h
  | r :: l, i, g, h => puts2_okV m l _ (putS_okV h _ _)
theorem puts2_len (m : Int) : ∀ (l : List (List Int)) (i : Int) (g : Gr), (puts2 m i g l).1 = g.1 ∧ (puts2 m i g l).2.1 = g.2.1
  | [], i, g => ⟨rfl, rfl⟩
  | r :: l, i, g => by
    obtain ⟨h1, h2⟩ := puts2_len m l (i + 1) (putS g (100 + leftS i r % m) r)
    obtain ⟨p1, p2, _⟩ := putS_len g (100 + leftS i r % m) r
    rw [puts2]; exact ⟨h1.trans p1, h2.trans p2⟩
theorem anyS_V (r : Raw) : okV (anyS r) ∧ 1 ≤ (anyS r).2.1.length ∧ ∀ s, 100 ≤ s → s < 100 + ((anyS r).2.1.length : Int) → hasP (anyS r) s := by
  have e1 := Int.emod_nonneg r.2.1 (show (3 : Int) ≠ 0 by omega)
  have e2 := Int.emod_lt_of_pos r.2.1 (show (0 : Int) < 3 by omega)
  have e3 := Int.emod_nonneg r.2.2.1 (show (3 : Int) ≠ 0 by omega)
  have e4 := Int.emod_lt_of_pos r.2.2.1 (show (0 : Int) < 3 by omega)
  have hT : ([bA, bB, bC].take (1 + r.2.1 % 3).toNat).length = (1 + r.2.1 % 3).toNat := by rw [List.length_take]; show min _ 3 = _; omega
  have hN : ([bS, bUA, bUB].take (1 + r.2.2.1 % 3).toNat).length = (1 + r.2.2.1 % 3).toNat := by rw [List.length_take]; show min _ 3 = _; omega
  have h0 : okV ([bA, bB, bC].take (1 + r.2.1 % 3).toNat, [bS, bUA, bUB].take (1 + r.2.2.1 % 3).toNat, []) := ⟨by simp only [hT]; omega, by simp only [hT]; omega, by simp only [hN]; omega, fun q hq => by simp at hq⟩
  obtain ⟨l1, l2⟩ := puts2_len (1 + r.2.2.1 % 3) (r.2.2.2.2.1.take 5) 0 (puts1 (1 + r.2.2.1 % 3).toNat 0 ([bA, bB, bC].take (1 + r.2.1 % 3).toNat, [bS, bUA, bUB].take (1 + r.2.2.1 % 3).toNat, []))
  obtain ⟨m1, m2, _⟩ := puts1_len (1 + r.2.2.1 % 3).toNat 0 ([bA, bB, bC].take (1 + r.2.1 % 3).toNat, [bS, bUA, bUB].take (1 + r.2.2.1 % 3).toNat, [])
  have hn : (anyS r).2.1.length = (1 + r.2.2.1 % 3).toNat := by rw [anyS, l2, m2]; exact hN
  refine ⟨puts2_okV _ _ _ (puts1_okV _ _ h0), by rw [hn]; omega, fun s hs1 hs2 => ?_⟩
  rw [hn] at hs2
  exact puts2_keep _ _ (puts1_has _ 0 _ s (by omega) (by omega))
def lastP (s : Int) : Int → Int → List (Int × List Int) → Int
  | _, b, [] => b
  | i, b, q :: r => lastP s (i + 1) (if q.1 = s then i else b) r
theorem lastP_spec (s : Int) : ∀ (l : List (Int × List Int)) (i b : Int), (lastP s i b l = b ∧ ∀ q ∈ l, q.1 ≠ s) ∨ (i ≤ lastP s i b l ∧ lastP s i b l < i + l.length ∧ (l.getD (lastP s i b l - i).toNat (0, [])).1 = s)
  | [], i, b => .inl ⟨rfl, fun q hq => by simp at hq⟩
  | q :: r, i, b => by
    rw [lastP]
    rcases lastP_spec s r (i + 1) (if q.1 = s then i else b) with ⟨h1, h2⟩ | ⟨h1, h2, h3⟩
    · by_cases hq : q.1 = s
      · right
        rw [if_pos hq] at h1 ⊢
        rw [h1]
        refine ⟨Int.le_refl _, by simp only [List.length_cons]; omega, ?_⟩
        rw [show (i - i).toNat = 0 by omega, List.getD_cons_zero]; exact hq
      · left
        rw [if_neg hq] at h1 ⊢
        exact ⟨h1, fun x hx => by rcases List.mem_cons.1 hx with rfl | hx; exact hq; exact h2 x hx⟩
    · right
      refine ⟨by omega, by simp only [List.length_cons]; omega, ?_⟩
      rw [show (lastP s (i + 1) (if q.1 = s then i else b) r - i).toNat = (lastP s (i + 1) (if q.1 = s then i else b) r - (i + 1)).toNat + 1 by omega, List.getD_cons_succ]
      exact h3
noncomputable def treeGrows.L0  : LFace := ⟨[6, 7, 8, 10, 11, 12, 49, 50, 51], [.un, .p GR, .p .tree, .v (.sl (.int .i64)), .v (.int .i64), .v (.int .i64), .v (.sl PR), .v (.int .i64), .v (.int .i64)], fun (z, g, t, lv, k, b, ps, len, i) => some (len = ps.length ∧ 0 ≤ i ∧ i ≤ len ∧ ps.length ≤ 99 ∧ 0 ≤ k ∧ k < (lv.length : Int)),
  [⟨.normal, [6, 7, 8, 10, 11, 12], [.un, .p GR, .p .tree, .v (.sl (.int .i64)), .v (.int .i64), .v (.int .i64)], fun (z, g, t, lv, k, b, ps, len, i) => (z, g, t, lv, k, lastP (lv.getD k.toNat 0) i b (ps.drop i.toNat)), fun (z, g, t, lv, k, b, ps, len, i) => none⟩]⟩
noncomputable def treeGrows.L0.mu  : dens treeGrows.L0.sh → Nat := fun (z, g, t, lv, k, b, ps, len, i) => (len - i).toNat
noncomputable def treeGrows.L0.g  (z : Unit) (g : List ByteArray × List ByteArray × List (Int × List Int)) (t : Tree) (lv : List Int) (k : Int) (b : Int) (ps : List (Int × List Int)) (len : Int) (i : Int) : Prop := GoodLA Try.prog (cfOf []) [] 1000 5 0 treeGrows.L0 treeGrows.L0.mu (z, g, t, lv, k, b, ps, len, i)
noncomputable def treeGrows.L0.T (z : Unit) (g : List ByteArray × List ByteArray × List (Int × List Int)) (t : Tree) (lv : List Int) (k : Int) (b : Int) (ps : List (Int × List Int)) (len : Int) (i : Int) : Prop := (((True ∧ decide (i < len) = true) ∧ (0 : Int) ≤ i ∧ i < (↑ps.length : Int)) ∧ ¬((0 : Int) ≤ k ∧ k < (↑lv.length : Int)) → False) ∧ ((((True ∧ decide (i < len) = true) ∧ (0 : Int) ≤ i ∧ i < (↑ps.length : Int)) ∧ (0 : Int) ≤ k ∧ k < (↑lv.length : Int)) ∧ ((ps.getD i.toNat ((0 : Int), [])).fst == lv.getD k.toNat (0 : Int)) = true →
  (len = (↑ps.length : Int) ∧ (0 : Int) ≤ IntKind.i64.wrap (i + (1 : Int)) ∧ IntKind.i64.wrap (i + (1 : Int)) ≤ len ∧ ps.length ≤ (99 : Nat) ∧ (0 : Int) ≤ k ∧ k < (↑lv.length : Int)) ∧ treeGrows.L0.mu ((), g, t, lv, k, i, ps, len, IntKind.i64.wrap (i + (1 : Int))) < treeGrows.L0.mu (z, g, t, lv, k, b, ps, len, i) ∧ (True → True ∧ ((), g, t, lv, k, lastP (lv.getD k.toNat (0 : Int)) (IntKind.i64.wrap (i + (1 : Int))) i (List.drop (IntKind.i64.wrap (i + (1 : Int))).toNat ps)) = ((), g, t, lv, k, lastP (lv.getD k.toNat (0 : Int)) i b (List.drop i.toNat ps))) ∧ True) ∧ ((((True ∧ decide (i < len) = true) ∧ (0 : Int) ≤ i ∧ i < (↑ps.length : Int)) ∧ (0 : Int) ≤ k ∧ k < (↑lv.length : Int)) ∧ ((ps.getD i.toNat ((0 : Int), [])).fst == lv.getD k.toNat (0 : Int)) = false →
  (len = (↑ps.length : Int) ∧ (0 : Int) ≤ IntKind.i64.wrap (i + (1 : Int)) ∧ IntKind.i64.wrap (i + (1 : Int)) ≤ len ∧ ps.length ≤ (99 : Nat) ∧ (0 : Int) ≤ k ∧ k < (↑lv.length : Int)) ∧ treeGrows.L0.mu ((), g, t, lv, k, b, ps, len, IntKind.i64.wrap (i + (1 : Int))) < treeGrows.L0.mu (z, g, t, lv, k, b, ps, len, i) ∧ (True → True ∧ ((), g, t, lv, k, lastP (lv.getD k.toNat (0 : Int)) (IntKind.i64.wrap (i + (1 : Int))) b (List.drop (IntKind.i64.wrap (i + (1 : Int))).toNat ps)) = ((), g, t, lv, k, lastP (lv.getD k.toNat (0 : Int)) i b (List.drop i.toNat ps))) ∧ True) ∧ ((True ∧ decide (i < len) = true) ∧ ¬((0 : Int) ≤ i ∧ i < (↑ps.length : Int)) → False) ∧ (True ∧ decide (i < len) = false → True ∧ ((), g, t, lv, k, b) = ((), g, t, lv, k, lastP (lv.getD k.toNat (0 : Int)) i b (List.drop i.toNat ps))) ∧ (True)
theorem treeGrows.L0.eq  (z : Unit) (g : List ByteArray × List ByteArray × List (Int × List Int)) (t : Tree) (lv : List Int) (k : Int) (b : Int) (ps : List (Int × List Int)) (len : Int) (i : Int) : treeGrows.L0.g  z g t lv k b ps len i = treeGrows.L0.T  z g t lv k b ps len i := by kernel_rfl
theorem treeGrows.L0.ok  (z : Unit) (g : List ByteArray × List ByteArray × List (Int × List Int)) (t : Tree) (lv : List Int) (k : Int) (b : Int) (ps : List (Int × List Int)) (len : Int) (i : Int) (hx : len = ps.length ∧ 0 ≤ i ∧ i ≤ len ∧ ps.length ≤ 99 ∧ 0 ≤ k ∧ k < (lv.length : Int)) : treeGrows.L0.T  z g t lv k b ps len i := by
  obtain ⟨rfl, h0, h1, h2, h3, h4⟩ := hx
  have w1 : IntKind.i64.wrap (i + 1) = i + 1 := wrapI64 (by omega) (by omega)
  rw [treeGrows.L0.T, w1]
  have hD := fun h => drop_int (0, []) h0 (l := ps) h
  ((repeat' (first | exact trivial | apply And.intro)) <;> (intro hw; (try (simp only [true_and, and_true, decide_eq_true_eq, decide_eq_false_iff_not, beq_iff_eq, bne_iff_ne, beq_eq_false_iff_ne, bne_eq_false_iff_eq, ne_eq, Bool.not_eq_true, Bool.not_eq_false, not_true_eq_false, not_false_eq_true, Bool.not_eq_eq_eq_not, Bool.not_true, Bool.not_false, forall_const, imp_self, Bool.true_eq_false, Bool.false_eq_true, reduceCtorEq] at hw)); (try first | (exfalso; omega) | exact ⟨trivial, rfl⟩ | exact (hw hx).elim | exact (hw.2 hx).elim)))
  · rw [hD (by omega), lastP, if_pos hw.2]
    exact ⟨⟨rfl, by omega, by omega, h2, h3, h4⟩, by simp only [treeGrows.L0.mu]; omega, fun _ => ⟨trivial, rfl⟩, trivial⟩
  · rw [hD (by omega), lastP, if_neg hw.2]
    exact ⟨⟨rfl, by omega, by omega, h2, h3, h4⟩, by simp only [treeGrows.L0.mu]; omega, fun _ => ⟨trivial, rfl⟩, trivial⟩
  · rw [drop_int_end hw, lastP]
    exact ⟨trivial, rfl⟩
theorem treeGrows.L0.lp   : LpAt Try.prog 5 0 treeGrows.L0 := lp_eval (l := []) (lf := 1000) (fun _ => cfOf_ok (fns_nil _)) (lps_nil _ _) (by kernel_rfl) _ (treeGrows.L0.mu ) (fun ⟨z, g, t, lv, k, b, ps, len, i⟩ hx => (treeGrows.L0.eq  z g t lv k b ps len i).mpr (treeGrows.L0.ok  z g t lv k b ps len i hx))
def tgT (g : Gr) (l : List Int) : Tree := (treeS 4 g 100 l).1
def tgK (lv : List Int) (aa : Int) : Int := aa % (if 1 > (lv.length : Int) then 1 else (lv.length : Int))
def tgU (g : Gr) (t : Tree) (k p : Int) : Tree := (growS (prodS g p).2 p t k).1
def tgW (g : Gr) (lv : List Int) (k p : Int) : List Int := lv.take k.toNat ++ (prodS g p).2 ++ lv.drop (k + 1).toNat
noncomputable def treeGrows.R2  : LFace := ⟨[1, 2, 6, 7], [.v (.sl (.int .i64)), .v (.int .i64), .un, .p GR], fun (l, aa, z, g) => some (okG g),
  [⟨.normal, [2, 6, 7, 8], [.v (.int .i64), .un, .p GR, .p .tree], fun (l, aa, z, g) => (aa, z, g, tgT g l), fun (l, aa, z, g) => none⟩]⟩
noncomputable def treeGrows.R2.g  (l : List Int) (aa : Int) (z : Unit) (g : List ByteArray × List ByteArray × List (Int × List Int)) : Prop := GoodPA Try.prog (cfOf [treeF]) [] 1000 5 1000002 treeGrows.R2 (l, aa, z, g)
noncomputable def treeGrows.R2.T0 (l : List Int) (aa : Int) (z : Unit) (g : List ByteArray × List ByteArray × List (Int × List Int)) : Prop := (True ∧ ¬((0 : Int) ≤ (4 : Int) ∧ (4 : Int) ≤ (99 : Int) ∧ okG g) → False) ∧ (True ∧ (0 : Int) ≤ (4 : Int) ∧ (4 : Int) ≤ (99 : Int) ∧ okG g → True ∧ (aa, (), g, eT (treeS (Int.toNat (4 : Int)) g (100 : Int) l).fst) = (aa, (), g, tgT g l)) ∧ (True)
theorem treeGrows.R2.eq  (l : List Int) (aa : Int) (z : Unit) (g : List ByteArray × List ByteArray × List (Int × List Int)) : treeGrows.R2.g  l aa z g = treeGrows.R2.T0  l aa z g := by kernel_rfl
theorem treeGrows.R2.ok  (l : List Int) (aa : Int) (z : Unit) (g : List ByteArray × List ByteArray × List (Int × List Int)) (hx : okG g) : treeGrows.R2.T0  l aa z g := by
  unfold treeGrows.R2.T0
  repeat rw [eT_eq]
  ((repeat' (first | exact trivial | apply And.intro)) <;> (intro hw; (try (simp only [true_and, and_true, decide_eq_true_eq, decide_eq_false_iff_not, beq_iff_eq, bne_iff_ne, beq_eq_false_iff_ne, bne_eq_false_iff_eq, ne_eq, Bool.not_eq_true, Bool.not_eq_false, not_true_eq_false, not_false_eq_true, Bool.not_eq_eq_eq_not, Bool.not_true, Bool.not_false, forall_const, imp_self, Bool.true_eq_false, Bool.false_eq_true, reduceCtorEq] at hw)); (try first | (exfalso; omega) | exact ⟨trivial, rfl⟩ | exact (hw hx).elim | exact (hw.2 hx).elim)))
  exact hw ⟨by omega, by omega, hx⟩
theorem treeGrows.R2.lp   : LpAt Try.prog 5 1000002 treeGrows.R2 := pc_eval (l := []) (lf := 1000) (fun _ => cfOf_ok (fns_cons treeF.fn (fns_nil _))) (lps_nil _ _) (by kernel_rfl) _ (fun ⟨l, aa, z, g⟩ hx => (treeGrows.R2.eq  l aa z g).mpr (treeGrows.R2.ok  l aa z g hx))
noncomputable def treeGrows.R6  : LFace := ⟨[2, 6, 7, 8, 10], [.v (.int .i64), .un, .p GR, .p .tree, .v (.sl (.int .i64))], fun (aa, z, g, t, lv) => none,
  [⟨.normal, [6, 7, 8, 10, 11], [.un, .p GR, .p .tree, .v (.sl (.int .i64)), .v (.int .i64)], fun (aa, z, g, t, lv) => (z, g, t, lv, tgK lv aa), fun (aa, z, g, t, lv) => none⟩]⟩
noncomputable def treeGrows.R6.g  (aa : Int) (z : Unit) (g : List ByteArray × List ByteArray × List (Int × List Int)) (t : Tree) (lv : List Int) : Prop := GoodPA Try.prog (cfOf [within]) [] 1000 5 1000006 treeGrows.R6 (aa, z, g, t, lv)
noncomputable def treeGrows.R6.T (aa : Int) (z : Unit) (g : List ByteArray × List ByteArray × List (Int × List Int)) (t : Tree) (lv : List Int) : Prop := ((True ∧ lv.length ≤ (9223372036854775807 : Nat)) ∧ ¬(((0 : Int) < if (1 : Int) > (↑lv.length : Int) then (1 : Int) else (↑lv.length : Int)) ∧ (if (1 : Int) > (↑lv.length : Int) then (1 : Int) else (↑lv.length : Int)) ≤ (9223372036854775807 : Int)) →
  False) ∧ ((True ∧ lv.length ≤ (9223372036854775807 : Nat)) ∧ ((0 : Int) < if (1 : Int) > (↑lv.length : Int) then (1 : Int) else (↑lv.length : Int)) ∧ (if (1 : Int) > (↑lv.length : Int) then (1 : Int) else (↑lv.length : Int)) ≤ (9223372036854775807 : Int) →
  True ∧ ((), g, t, lv, aa % if (1 : Int) > (↑lv.length : Int) then (1 : Int) else (↑lv.length : Int)) = ((), g, t, lv, tgK lv aa)) ∧ (True)
theorem treeGrows.R6.eq  (aa : Int) (z : Unit) (g : List ByteArray × List ByteArray × List (Int × List Int)) (t : Tree) (lv : List Int) : treeGrows.R6.g  aa z g t lv = treeGrows.R6.T  aa z g t lv := by kernel_rfl
theorem treeGrows.R6.ok  (aa : Int) (z : Unit) (g : List ByteArray × List ByteArray × List (Int × List Int)) (t : Tree) (lv : List Int) : treeGrows.R6.T  aa z g t lv := by
  rw [treeGrows.R6.T]
  ((repeat' (first | exact trivial | apply And.intro)) <;> (intro hw; (try (simp only [true_and, and_true, decide_eq_true_eq, decide_eq_false_iff_not, beq_iff_eq, bne_iff_ne, beq_eq_false_iff_ne, bne_eq_false_iff_eq, ne_eq, Bool.not_eq_true, Bool.not_eq_false, not_true_eq_false, not_false_eq_true, Bool.not_eq_eq_eq_not, Bool.not_true, Bool.not_false, forall_const, imp_self, Bool.true_eq_false, Bool.false_eq_true, reduceCtorEq] at hw)); (try first | (exfalso; omega) | exact ⟨trivial, rfl⟩ | exact (hw hx).elim | exact (hw.2 hx).elim)))
theorem treeGrows.R6.lp   : LpAt Try.prog 5 1000006 treeGrows.R6 := pc_eval (l := []) (lf := 1000) (fun _ => cfOf_ok (fns_cons within.fn (fns_nil _))) (lps_nil _ _) (by kernel_rfl) _ (fun ⟨aa, z, g, t, lv⟩ hx => (treeGrows.R6.eq  aa z g t lv).mpr (treeGrows.R6.ok  aa z g t lv))
noncomputable def treeGrows.R18  : LFace := ⟨[6, 7, 8, 10, 11, 12], [.un, .p GR, .p .tree, .v (.sl (.int .i64)), .v (.int .i64), .v (.int .i64)], fun (z, g, t, lv, k, p) => some (nodesT t ≤ BIG ∧ okG g ∧ 0 ≤ p ∧ p < (g.2.2.length : Int) ∧ 0 ≤ k ∧ k ≤ 1000000000),
  [⟨.normal, [6, 7, 8, 10, 11, 12, 15], [.un, .p GR, .p .tree, .v (.sl (.int .i64)), .v (.int .i64), .v (.int .i64), .p .tree], fun (z, g, t, lv, k, p) => (z, g, t, lv, k, p, tgU g t k p), fun (z, g, t, lv, k, p) => none⟩]⟩
noncomputable def treeGrows.R18.g  (z : Unit) (g : List ByteArray × List ByteArray × List (Int × List Int)) (t : Tree) (lv : List Int) (k : Int) (p : Int) : Prop := GoodPA Try.prog (cfOf [growF]) [] 1000 5 1000018 treeGrows.R18 (z, g, t, lv, k, p)
noncomputable def treeGrows.R18.T0 (z : Unit) (g : List ByteArray × List ByteArray × List (Int × List Int)) (t : Tree) (lv : List Int) (k : Int) (p : Int) : Prop := (True ∧ ¬(nodesT (eT t) ≤ BIG ∧ okG g ∧ (0 : Int) ≤ p ∧ p < (↑(List.length g.snd.snd) : Int) ∧ (0 : Int) ≤ k ∧ k ≤ (1000000000 : Int)) → False) ∧ (True ∧ nodesT (eT t) ≤ BIG ∧ okG g ∧ (0 : Int) ≤ p ∧ p < (↑(List.length g.snd.snd) : Int) ∧ (0 : Int) ≤ k ∧ k ≤ (1000000000 : Int) → True ∧ ((), g, t, lv, k, p, eT (growS (prodS g p).snd p (eT t) k).fst) = ((), g, t, lv, k, p, tgU g t k p)) ∧ (True)
theorem treeGrows.R18.eq  (z : Unit) (g : List ByteArray × List ByteArray × List (Int × List Int)) (t : Tree) (lv : List Int) (k : Int) (p : Int) : treeGrows.R18.g  z g t lv k p = treeGrows.R18.T0  z g t lv k p := by kernel_rfl
theorem treeGrows.R18.ok  (z : Unit) (g : List ByteArray × List ByteArray × List (Int × List Int)) (t : Tree) (lv : List Int) (k : Int) (p : Int) (hx : nodesT t ≤ BIG ∧ okG g ∧ 0 ≤ p ∧ p < (g.2.2.length : Int) ∧ 0 ≤ k ∧ k ≤ 1000000000) : treeGrows.R18.T0  z g t lv k p := by
  unfold treeGrows.R18.T0
  repeat rw [eT_eq]
  ((repeat' (first | exact trivial | apply And.intro)) <;> (intro hw; (try (simp only [true_and, and_true, decide_eq_true_eq, decide_eq_false_iff_not, beq_iff_eq, bne_iff_ne, beq_eq_false_iff_ne, bne_eq_false_iff_eq, ne_eq, Bool.not_eq_true, Bool.not_eq_false, not_true_eq_false, not_false_eq_true, Bool.not_eq_eq_eq_not, Bool.not_true, Bool.not_false, forall_const, imp_self, Bool.true_eq_false, Bool.false_eq_true, reduceCtorEq] at hw)); (try first | (exfalso; omega) | exact ⟨trivial, rfl⟩ | exact (hw hx).elim | exact (hw.2 hx).elim)))
theorem treeGrows.R18.lp   : LpAt Try.prog 5 1000018 treeGrows.R18 := pc_eval (l := []) (lf := 1000) (fun _ => cfOf_ok (fns_cons growF.fn (fns_nil _))) (lps_nil _ _) (by kernel_rfl) _ (fun ⟨z, g, t, lv, k, p⟩ hx => (treeGrows.R18.eq  z g t lv k p).mpr (treeGrows.R18.ok  z g t lv k p hx))
noncomputable def treeGrows.R19  : LFace := ⟨[6, 7, 8, 10, 11, 12, 15], [.un, .p GR, .p .tree, .v (.sl (.int .i64)), .v (.int .i64), .v (.int .i64), .p .tree], fun (z, g, t, lv, k, p, u) => some (okG g ∧ 0 ≤ p ∧ p < (g.2.2.length : Int) ∧ 0 ≤ k ∧ k < (lv.length : Int) ∧ lv.length ≤ BIG),
  [⟨.normal, [6, 7, 8, 12, 15, 17], [.un, .p GR, .p .tree, .v (.int .i64), .p .tree, .v (.sl (.int .i64))], fun (z, g, t, lv, k, p, u) => (z, g, t, p, u, tgW g lv k p), fun (z, g, t, lv, k, p, u) => none⟩]⟩
noncomputable def treeGrows.R19.g  (z : Unit) (g : List ByteArray × List ByteArray × List (Int × List Int)) (t : Tree) (lv : List Int) (k : Int) (p : Int) (u : Tree) : Prop := GoodPA Try.prog (cfOf []) [] 1000 5 1000019 treeGrows.R19 (z, g, t, lv, k, p, u)
noncomputable def treeGrows.R19.T (z : Unit) (g : List ByteArray × List ByteArray × List (Int × List Int)) (t : Tree) (lv : List Int) (k : Int) (p : Int) (u : Tree) : Prop := (True ∧ ¬((0 : Int) ≤ (0 : Int) ∧ (0 : Int) ≤ k ∧ k ≤ (↑lv.length : Int)) → False) ∧ ((True ∧ (0 : Int) ≤ (0 : Int) ∧ (0 : Int) ≤ k ∧ k ≤ (↑lv.length : Int)) ∧ ¬((0 : Int) ≤ p ∧ p < (↑(List.length g.snd.snd) : Int)) → False) ∧ (((True ∧ (0 : Int) ≤ (0 : Int) ∧ (0 : Int) ≤ k ∧ k ≤ (↑lv.length : Int)) ∧ (0 : Int) ≤ p ∧ p < (↑(List.length g.snd.snd) : Int)) ∧ ¬((0 : Int) ≤ IntKind.i64.wrap (k + (1 : Int)) ∧ IntKind.i64.wrap (k + (1 : Int)) ≤ (↑lv.length : Int) ∧ (↑lv.length : Int) ≤ (↑lv.length : Int)) →
  False) ∧ ((((((True ∧ (0 : Int) ≤ (0 : Int) ∧ (0 : Int) ≤ k ∧ k ≤ (↑lv.length : Int)) ∧ (0 : Int) ≤ p ∧ p < (↑(List.length g.snd.snd) : Int)) ∧ (0 : Int) ≤ IntKind.i64.wrap (k + (1 : Int)) ∧ IntKind.i64.wrap (k + (1 : Int)) ≤ (↑lv.length : Int) ∧ (↑lv.length : Int) ≤ (↑lv.length : Int)) ∧ (List.drop (Int.toNat (0 : Int)) (List.take k.toNat lv)).length * (8 : Nat) ≤ (140737488355328 : Nat)) ∧ ((List.drop (Int.toNat (0 : Int)) (List.take k.toNat lv)).length + List.length (List.getD g.snd.snd p.toNat ((0 : Int), [])).snd) * (8 : Nat) ≤ (140737488355328 : Nat)) ∧ ((List.drop (Int.toNat (0 : Int)) (List.take k.toNat lv) ++ (List.getD g.snd.snd p.toNat ((0 : Int), [])).snd).length + (List.drop (IntKind.i64.wrap (k + (1 : Int))).toNat (List.take (↑lv.length : Int).toNat lv)).length) * (8 : Nat) ≤ (140737488355328 : Nat) →
  True ∧ ((), g, t, p, u, List.drop (Int.toNat (0 : Int)) (List.take k.toNat lv) ++ (List.getD g.snd.snd p.toNat ((0 : Int), ([] : List Int))).snd ++ List.drop (IntKind.i64.wrap (k + (1 : Int))).toNat (List.take (↑lv.length : Int).toNat lv)) = ((), g, t, p, u, tgW g lv k p)) ∧ ((((((True ∧ (0 : Int) ≤ (0 : Int) ∧ (0 : Int) ≤ k ∧ k ≤ (↑lv.length : Int)) ∧ (0 : Int) ≤ p ∧ p < (↑(List.length g.snd.snd) : Int)) ∧ (0 : Int) ≤ IntKind.i64.wrap (k + (1 : Int)) ∧ IntKind.i64.wrap (k + (1 : Int)) ≤ (↑lv.length : Int) ∧ (↑lv.length : Int) ≤ (↑lv.length : Int)) ∧ (List.drop (Int.toNat (0 : Int)) (List.take k.toNat lv)).length * (8 : Nat) ≤ (140737488355328 : Nat)) ∧ ((List.drop (Int.toNat (0 : Int)) (List.take k.toNat lv)).length + List.length (List.getD g.snd.snd p.toNat ((0 : Int), [])).snd) * (8 : Nat) ≤ (140737488355328 : Nat)) ∧ ¬((List.drop (Int.toNat (0 : Int)) (List.take k.toNat lv) ++ (List.getD g.snd.snd p.toNat ((0 : Int), [])).snd).length + (List.drop (IntKind.i64.wrap (k + (1 : Int))).toNat (List.take (↑lv.length : Int).toNat lv)).length) * (8 : Nat) ≤ (140737488355328 : Nat) →
  False) ∧ (((((True ∧ (0 : Int) ≤ (0 : Int) ∧ (0 : Int) ≤ k ∧ k ≤ (↑lv.length : Int)) ∧ (0 : Int) ≤ p ∧ p < (↑(List.length g.snd.snd) : Int)) ∧ (0 : Int) ≤ IntKind.i64.wrap (k + (1 : Int)) ∧ IntKind.i64.wrap (k + (1 : Int)) ≤ (↑lv.length : Int) ∧ (↑lv.length : Int) ≤ (↑lv.length : Int)) ∧ (List.drop (Int.toNat (0 : Int)) (List.take k.toNat lv)).length * (8 : Nat) ≤ (140737488355328 : Nat)) ∧ ¬((List.drop (Int.toNat (0 : Int)) (List.take k.toNat lv)).length + List.length (List.getD g.snd.snd p.toNat ((0 : Int), [])).snd) * (8 : Nat) ≤ (140737488355328 : Nat) →
  False) ∧ ((((True ∧ (0 : Int) ≤ (0 : Int) ∧ (0 : Int) ≤ k ∧ k ≤ (↑lv.length : Int)) ∧ (0 : Int) ≤ p ∧ p < (↑(List.length g.snd.snd) : Int)) ∧ (0 : Int) ≤ IntKind.i64.wrap (k + (1 : Int)) ∧ IntKind.i64.wrap (k + (1 : Int)) ≤ (↑lv.length : Int) ∧ (↑lv.length : Int) ≤ (↑lv.length : Int)) ∧ ¬(List.drop (Int.toNat (0 : Int)) (List.take k.toNat lv)).length * (8 : Nat) ≤ (140737488355328 : Nat) →
  False) ∧ (True)
theorem treeGrows.R19.eq  (z : Unit) (g : List ByteArray × List ByteArray × List (Int × List Int)) (t : Tree) (lv : List Int) (k : Int) (p : Int) (u : Tree) : treeGrows.R19.g  z g t lv k p u = treeGrows.R19.T  z g t lv k p u := by kernel_rfl
theorem treeGrows.R19.ok  (z : Unit) (g : List ByteArray × List ByteArray × List (Int × List Int)) (t : Tree) (lv : List Int) (k : Int) (p : Int) (u : Tree) (hx : okG g ∧ 0 ≤ p ∧ p < (g.2.2.length : Int) ∧ 0 ≤ k ∧ k < (lv.length : Int) ∧ lv.length ≤ BIG) : treeGrows.R19.T  z g t lv k p u := by
  obtain ⟨h1, h2, h3, h4, h5, h6⟩ := hx
  have hB : BIG = 1000000 := rfl
  have hps : g.2.2.getD p.toNat (0, []) = prodS g p := rfl
  have hr : (prodS g p).2.length ≤ 6 := h1.2.2.2 _ (getD_mem (by omega))
  rw [treeGrows.R19.T, wrapI64 (x := k + 1) (by omega) (by omega)]
  simp only [show Int.toNat 0 = 0 from rfl, List.drop_zero, Int.toNat_natCast, List.take_length, hps]
  have l1 : (List.take k.toNat lv).length ≤ lv.length := by rw [List.length_take]; omega
  have l2 : (List.drop (k + 1).toNat lv).length ≤ lv.length := by rw [List.length_drop]; omega
  simp only [List.length_append]
  ((repeat' (first | exact trivial | apply And.intro)) <;> (intro hw; (try (simp only [true_and, and_true, decide_eq_true_eq, decide_eq_false_iff_not, beq_iff_eq, bne_iff_ne, beq_eq_false_iff_ne, bne_eq_false_iff_eq, ne_eq, Bool.not_eq_true, Bool.not_eq_false, not_true_eq_false, not_false_eq_true, Bool.not_eq_eq_eq_not, Bool.not_true, Bool.not_false, forall_const, imp_self, Bool.true_eq_false, Bool.false_eq_true, reduceCtorEq] at hw)); (try first | (exfalso; omega) | exact ⟨trivial, rfl⟩ | exact (hw hx).elim | exact (hw.2 hx).elim)))
  all_goals first
    | (exfalso; omega)
    | exact ⟨trivial, rfl⟩
theorem treeGrows.R19.lp   : LpAt Try.prog 5 1000019 treeGrows.R19 := pc_eval (l := []) (lf := 1000) (fun _ => cfOf_ok (fns_nil _)) (lps_nil _ _) (by kernel_rfl) _ (fun ⟨z, g, t, lv, k, p, u⟩ hx => (treeGrows.R19.eq  z g t lv k p u).mpr (treeGrows.R19.ok  z g t lv k p u hx))
noncomputable def treeGrows.R20  : LFace := ⟨[6, 7, 8, 12, 15, 17], [.un, .p GR, .p .tree, .v (.int .i64), .p .tree, .v (.sl (.int .i64))], fun (z, g, t, p, u, w) => some (okG g ∧ okT u ∧ 0 ≤ p ∧ p < (g.2.2.length : Int) ∧ nodesT t ≤ BIG ∧ nodesT u ≤ BIG ∧ checkS g u 100 = true ∧ leavesS u = w ∧ nodesT u = nodesT t + (prodS g p).2.length ∧ sameT t u = false),
  [⟨.normal, [6], [.v .bool], fun (z, g, t, p, u, w) => true, fun (z, g, t, p, u, w) => none⟩]⟩
noncomputable def treeGrows.R20.g  (z : Unit) (g : List ByteArray × List ByteArray × List (Int × List Int)) (t : Tree) (p : Int) (u : Tree) (w : List Int) : Prop := GoodPA Try.prog (cfOf [checkF, leavesF, sameInt, sizeF, sameF, wakes]) [] 1000 5 1000020 treeGrows.R20 (z, g, t, p, u, w)
noncomputable def treeGrows.R20.T0 (z : Unit) (g : List ByteArray × List ByteArray × List (Int × List Int)) (t : Tree) (p : Int) (u : Tree) (w : List Int) : Prop := (True ∧ ¬(gSmall g ∧ okT (eT u)) → False) ∧ (((True ∧ gSmall g ∧ okT (eT u)) ∧ checkS g (eT u) (100 : Int) = true) ∧ ¬(leavesS (eT u)).length ≤ BIG → False) ∧ (((((True ∧ gSmall g ∧ okT (eT u)) ∧ checkS g (eT u) (100 : Int) = true) ∧ (leavesS (eT u)).length ≤ BIG) ∧ sameS (leavesS (eT u)) w = true) ∧ ¬((0 : Int) ≤ p ∧ p < (↑(List.length g.snd.snd) : Int)) → False) ∧ ((((((((True ∧ gSmall g ∧ okT (eT u)) ∧ checkS g (eT u) (100 : Int) = true) ∧ (leavesS (eT u)).length ≤ BIG) ∧ sameS (leavesS (eT u)) w = true) ∧ (0 : Int) ≤ p ∧ p < (↑(List.length g.snd.snd) : Int)) ∧ List.length (List.getD g.snd.snd p.toNat ((0 : Int), [])).snd ≤ (9223372036854775807 : Nat)) ∧ (sizeS (eT u) == IntKind.i64.wrap (sizeS (eT t) + (↑(List.length (List.getD g.snd.snd p.toNat ((0 : Int), [])).snd) : Int))) = true) ∧ (!sameT (eT t) (eT u)) = true →
  True ∧ true = true) ∧ ((((((((True ∧ gSmall g ∧ okT (eT u)) ∧ checkS g (eT u) (100 : Int) = true) ∧ (leavesS (eT u)).length ≤ BIG) ∧ sameS (leavesS (eT u)) w = true) ∧ (0 : Int) ≤ p ∧ p < (↑(List.length g.snd.snd) : Int)) ∧ List.length (List.getD g.snd.snd p.toNat ((0 : Int), [])).snd ≤ (9223372036854775807 : Nat)) ∧ (sizeS (eT u) == IntKind.i64.wrap (sizeS (eT t) + (↑(List.length (List.getD g.snd.snd p.toNat ((0 : Int), [])).snd) : Int))) = true) ∧ (!sameT (eT t) (eT u)) = false →
  True ∧ false = true) ∧ (((((((True ∧ gSmall g ∧ okT (eT u)) ∧ checkS g (eT u) (100 : Int) = true) ∧ (leavesS (eT u)).length ≤ BIG) ∧ sameS (leavesS (eT u)) w = true) ∧ (0 : Int) ≤ p ∧ p < (↑(List.length g.snd.snd) : Int)) ∧ List.length (List.getD g.snd.snd p.toNat ((0 : Int), [])).snd ≤ (9223372036854775807 : Nat)) ∧ (sizeS (eT u) == IntKind.i64.wrap (sizeS (eT t) + (↑(List.length (List.getD g.snd.snd p.toNat ((0 : Int), [])).snd) : Int))) = false →
  True ∧ false = true) ∧ ((((True ∧ gSmall g ∧ okT (eT u)) ∧ checkS g (eT u) (100 : Int) = true) ∧ (leavesS (eT u)).length ≤ BIG) ∧ sameS (leavesS (eT u)) w = false → True ∧ false = true) ∧ ((True ∧ gSmall g ∧ okT (eT u)) ∧ checkS g (eT u) (100 : Int) = false → True ∧ false = true) ∧ (True)
theorem treeGrows.R20.eq  (z : Unit) (g : List ByteArray × List ByteArray × List (Int × List Int)) (t : Tree) (p : Int) (u : Tree) (w : List Int) : treeGrows.R20.g  z g t p u w = treeGrows.R20.T0  z g t p u w := by kernel_rfl
theorem treeGrows.R20.ok  (z : Unit) (g : List ByteArray × List ByteArray × List (Int × List Int)) (t : Tree) (p : Int) (u : Tree) (w : List Int) (hx : okG g ∧ okT u ∧ 0 ≤ p ∧ p < (g.2.2.length : Int) ∧ nodesT t ≤ BIG ∧ nodesT u ≤ BIG ∧ checkS g u 100 = true ∧ leavesS u = w ∧ nodesT u = nodesT t + (prodS g p).2.length ∧ sameT t u = false) : treeGrows.R20.T0  z g t p u w := by
  unfold treeGrows.R20.T0
  repeat rw [eT_eq]
  obtain ⟨h1, h2, h3, h4, h5, h6, h7, rfl, h9, h10⟩ := hx
  have hB : BIG = 1000000 := rfl
  have hps : g.2.2.getD p.toNat (0, []) = prodS g p := rfl
  have hr : (prodS g p).2.length ≤ 6 := h1.2.2.2 _ (getD_mem (by omega))
  have hlv := leaves_nodes u
  have s2 := sameS_refl (leavesS u)
  rw [sizeS_nodes u (by omega), sizeS_nodes t (by omega), hps, wrapI64 (by omega) (by omega)]
  ((repeat' (first | exact trivial | apply And.intro)) <;> (intro hw; (try (simp only [true_and, and_true, decide_eq_true_eq, decide_eq_false_iff_not, beq_iff_eq, bne_iff_ne, beq_eq_false_iff_ne, bne_eq_false_iff_eq, ne_eq, Bool.not_eq_true, Bool.not_eq_false, not_true_eq_false, not_false_eq_true, Bool.not_eq_eq_eq_not, Bool.not_true, Bool.not_false, forall_const, imp_self, Bool.true_eq_false, Bool.false_eq_true, reduceCtorEq] at hw)); (try first | (exfalso; omega) | exact ⟨trivial, rfl⟩ | exact (hw hx).elim | exact (hw.2 hx).elim)))
  all_goals first
    | (exfalso; omega)
    | exact hw ⟨⟨h1.1, h1.2.1⟩, h2⟩
    | (exfalso; rw [h10] at hw; exact absurd hw.2 (by decide))
    | (exfalso; rw [s2] at hw; exact absurd hw.2 (by decide))
    | (exfalso; rw [h7] at hw; exact absurd hw.2 (by decide))
theorem treeGrows.R20.lp   : LpAt Try.prog 5 1000020 treeGrows.R20 := pc_eval (l := []) (lf := 1000) (fun _ => cfOf_ok (fns_cons checkF.fn (fns_cons leavesF.fn (fns_cons sameInt.fn (fns_cons sizeF.fn (fns_cons sameF.fn (fns_cons wakes.fn (fns_nil _)))))))) (lps_nil _ _) (by kernel_rfl) _ (fun ⟨z, g, t, p, u, w⟩ hx => (treeGrows.R20.eq  z g t p u w).mpr (treeGrows.R20.ok  z g t p u w hx))
mutual
theorem check_leaves {g : Gr} : ∀ {t : Tree} {s : Int}, checkS g t s = true → ∀ x ∈ leavesS t, isS g x = true
  | .mk s q ks, root, h, x, hx => by
    rw [checkS, Bool.and_eq_true] at h
    obtain ⟨_, h⟩ := h
    by_cases hq : q = -1
    · rw [if_pos hq] at h
      rw [leavesS, if_pos hq, List.mem_singleton] at hx
      simp only [Bool.and_eq_true] at h
      rw [hx]; exact h.2
    · rw [if_neg hq] at h
      rw [leavesS, if_neg hq] at hx
      simp only [Bool.and_eq_true] at h
      exact checks_leaves h.2.2.2 x hx
theorem checks_leaves {g : Gr} : ∀ {l : List Tree} {q : List Int}, checksS g l q = true → ∀ x ∈ leavesL l, isS g x = true
  | [], q, h, x, hx => by simp [leavesL] at hx
  | k :: r, [], h, x, hx => by simp [checksS] at h
  | k :: r, s :: q, h, x, hx => by
    simp only [checksS, Bool.and_eq_true] at h
    rw [leavesL] at hx
    rcases List.mem_append.1 hx with hx | hx
    · exact check_leaves h.1 x hx
    · exact checks_leaves h.2 x hx
end
theorem okKs_leafs {k : Int} (hk : 1 ≤ k) : ∀ {l : List Int}, (∀ s ∈ l, -k ≤ s ∧ s ≤ k) → okKs k (l.map leafOf)
  | [], _ => trivial
  | s :: r, h => by
    have := h s List.mem_cons_self
    exact ⟨(okK_eq _ _).2 ⟨by simp only [leafOf, Tree.sym, Tree.prod]; omega, trivial⟩, okKs_leafs hk (fun x hx => h x (List.mem_cons_of_mem _ hx))⟩
mutual
theorem growS_okK {right : List Int} {p k : Int} (hk : 1 ≤ k) (hr : ∀ s ∈ right, -k ≤ s ∧ s ≤ k) (hp : -k ≤ p ∧ p ≤ k) : ∀ (t : Tree) (j : Int), okK k t → okK k (growS right p t j).1
  | .mk s q ks, j, h => by
    rw [growS]
    simp only [okK] at h
    split
    · show okK k (if j = 0 then Tree.mk s p (right.map leafOf) else Tree.mk s q ks)
      split
      · simp only [okK]; exact ⟨⟨h.1.1, h.1.2.1, hp⟩, okKs_leafs hk hr⟩
      · simp only [okK]; exact h
    · show okK k (.mk s q (growL right p ks j).1)
      simp only [okK]; exact ⟨h.1, growL_okK hk hr hp ks j h.2⟩
theorem growL_okK {right : List Int} {p k : Int} (hk : 1 ≤ k) (hr : ∀ s ∈ right, -k ≤ s ∧ s ≤ k) (hp : -k ≤ p ∧ p ≤ k) : ∀ (l : List Tree) (j : Int), okKs k l → okKs k (growL right p l j).1
  | [], j, h => by rw [growL]; exact h
  | t :: r, j, h => by
    rw [growL]
    split
    · exact ⟨growS_okK hk hr hp t j h.1, growL_okK hk hr hp r _ h.2⟩
    · exact h
end
theorem grow_ne {right : List Int} {p : Int} {t : Tree} {k : Int} (hp : p ≠ -1) (h0 : 0 ≤ k) (h : k < ((leavesS t).length : Int)) (hn : nodesT (growS right p t k).1 = nodesT t + right.length) : sameT t (growS right p t k).1 = false := by
  cases hs : sameT t (growS right p t k).1 with
  | false => rfl
  | true =>
    have e := sameT_imp hs
    have hl := (grow_hit (right := right) hp t k h0 h).2
    rw [← e] at hn hl
    have hr : right = [] := List.eq_nil_of_length_eq_zero (by omega)
    have := congrArg List.length hl
    rw [hr] at this
    simp only [List.append_nil, List.length_append, List.length_take, List.length_drop] at this
    omega
noncomputable def treeGrows  : Face := ⟨5, [.v RAW, .v (.sl (.int .i64)), .v (.int .i64)], fun (r, l, aa) => none,
  [⟨false, [.v .bool], fun (r, l, aa) => true, fun (r, l, aa) => none⟩]⟩
noncomputable def treeGrows.g  (r : Int × Int × Int × Int × List (List Int) × ByteArray) (l : List Int) (aa : Int) : Prop := GoodFA Try.prog (cfOf [any, checkF, leavesF, wakes]) [(1000002, treeGrows.R2), (1000006, treeGrows.R6), (1000018, treeGrows.R18), (1000019, treeGrows.R19), (1000020, treeGrows.R20), (0, treeGrows.L0)] 1000 treeGrows (r, l, aa)
noncomputable def treeGrows.T0 (r : Int × Int × Int × Int × List (List Int) × ByteArray) (l : List Int) (aa : Int) : Prop := (True ∧ ¬okG (anyS r) → False) ∧ ((True ∧ okG (anyS r)) ∧ ¬(gSmall (anyS r) ∧ okT (eT (tgT (anyS r) l))) → False) ∧ (((True ∧ okG (anyS r)) ∧ gSmall (anyS r) ∧ okT (eT (tgT (anyS r) l))) ∧ (!checkS (anyS r) (eT (tgT (anyS r) l)) (100 : Int)) = true → True ∧ false = true) ∧ ((((True ∧ okG (anyS r)) ∧ gSmall (anyS r) ∧ okT (eT (tgT (anyS r) l))) ∧ (!checkS (anyS r) (eT (tgT (anyS r) l)) (100 : Int)) = false) ∧ ¬(leavesS (eT (tgT (anyS r) l))).length ≤ BIG → False) ∧ ((((((True ∧ okG (anyS r)) ∧ gSmall (anyS r) ∧ okT (eT (tgT (anyS r) l))) ∧ (!checkS (anyS r) (eT (tgT (anyS r) l)) (100 : Int)) = false) ∧ (leavesS (eT (tgT (anyS r) l))).length ≤ BIG) ∧ (leavesS (eT (tgT (anyS r) l))).length ≤ (9223372036854775807 : Nat)) ∧ ((↑(leavesS (eT (tgT (anyS r) l))).length : Int) == (0 : Int)) = true →
  True ∧ true = true) ∧ ((((((((True ∧ okG (anyS r)) ∧ gSmall (anyS r) ∧ okT (eT (tgT (anyS r) l))) ∧ (!checkS (anyS r) (eT (tgT (anyS r) l)) (100 : Int)) = false) ∧ (leavesS (eT (tgT (anyS r) l))).length ≤ BIG) ∧ (leavesS (eT (tgT (anyS r) l))).length ≤ (9223372036854775807 : Nat)) ∧ ((↑(leavesS (eT (tgT (anyS r) l))).length : Int) == (0 : Int)) = false) ∧ (0 : Int) ≤ tgK (leavesS (eT (tgT (anyS r) l))) aa ∧ tgK (leavesS (eT (tgT (anyS r) l))) aa < (↑(leavesS (eT (tgT (anyS r) l))).length : Int)) ∧ decide ((leavesS (eT (tgT (anyS r) l))).getD (tgK (leavesS (eT (tgT (anyS r) l))) aa).toNat (0 : Int) < (100 : Int)) = true →
  True ∧ true = true) ∧ ((((((((((True ∧ okG (anyS r)) ∧ gSmall (anyS r) ∧ okT (eT (tgT (anyS r) l))) ∧ (!checkS (anyS r) (eT (tgT (anyS r) l)) (100 : Int)) = false) ∧ (leavesS (eT (tgT (anyS r) l))).length ≤ BIG) ∧ (leavesS (eT (tgT (anyS r) l))).length ≤ (9223372036854775807 : Nat)) ∧ ((↑(leavesS (eT (tgT (anyS r) l))).length : Int) == (0 : Int)) = false) ∧ (0 : Int) ≤ tgK (leavesS (eT (tgT (anyS r) l))) aa ∧ tgK (leavesS (eT (tgT (anyS r) l))) aa < (↑(leavesS (eT (tgT (anyS r) l))).length : Int)) ∧ decide ((leavesS (eT (tgT (anyS r) l))).getD (tgK (leavesS (eT (tgT (anyS r) l))) aa).toNat (0 : Int) < (100 : Int)) = false) ∧ List.length (anyS r).snd.snd ≤ (9223372036854775807 : Nat)) ∧ ¬((↑(List.length (anyS r).snd.snd) : Int) = (↑(List.length (anyS r).snd.snd) : Int) ∧ (0 : Int) ≤ (0 : Int) ∧ (0 : Int) ≤ (↑(List.length (anyS r).snd.snd) : Int) ∧ List.length (anyS r).snd.snd ≤ (99 : Nat) ∧ (0 : Int) ≤ tgK (leavesS (eT (tgT (anyS r) l))) aa ∧ tgK (leavesS (eT (tgT (anyS r) l))) aa < (↑(leavesS (eT (tgT (anyS r) l))).length : Int)) →
  False) ∧ (((((((((((True ∧ okG (anyS r)) ∧ gSmall (anyS r) ∧ okT (eT (tgT (anyS r) l))) ∧ (!checkS (anyS r) (eT (tgT (anyS r) l)) (100 : Int)) = false) ∧ (leavesS (eT (tgT (anyS r) l))).length ≤ BIG) ∧ (leavesS (eT (tgT (anyS r) l))).length ≤ (9223372036854775807 : Nat)) ∧ ((↑(leavesS (eT (tgT (anyS r) l))).length : Int) == (0 : Int)) = false) ∧ (0 : Int) ≤ tgK (leavesS (eT (tgT (anyS r) l))) aa ∧ tgK (leavesS (eT (tgT (anyS r) l))) aa < (↑(leavesS (eT (tgT (anyS r) l))).length : Int)) ∧ decide ((leavesS (eT (tgT (anyS r) l))).getD (tgK (leavesS (eT (tgT (anyS r) l))) aa).toNat (0 : Int) < (100 : Int)) = false) ∧ List.length (anyS r).snd.snd ≤ (9223372036854775807 : Nat)) ∧ (↑(List.length (anyS r).snd.snd) : Int) = (↑(List.length (anyS r).snd.snd) : Int) ∧ (0 : Int) ≤ (0 : Int) ∧ (0 : Int) ≤ (↑(List.length (anyS r).snd.snd) : Int) ∧ List.length (anyS r).snd.snd ≤ (99 : Nat) ∧ (0 : Int) ≤ tgK (leavesS (eT (tgT (anyS r) l))) aa ∧ tgK (leavesS (eT (tgT (anyS r) l))) aa < (↑(leavesS (eT (tgT (anyS r) l))).length : Int)) ∧ decide (lastP ((leavesS (eT (tgT (anyS r) l))).getD (tgK (leavesS (eT (tgT (anyS r) l))) aa).toNat (0 : Int)) (0 : Int) (-1 : Int) (List.drop (Int.toNat (0 : Int)) (anyS r).snd.snd) < (0 : Int)) = true →
  True ∧ false = true) ∧ ((((((((((((True ∧ okG (anyS r)) ∧ gSmall (anyS r) ∧ okT (eT (tgT (anyS r) l))) ∧ (!checkS (anyS r) (eT (tgT (anyS r) l)) (100 : Int)) = false) ∧ (leavesS (eT (tgT (anyS r) l))).length ≤ BIG) ∧ (leavesS (eT (tgT (anyS r) l))).length ≤ (9223372036854775807 : Nat)) ∧ ((↑(leavesS (eT (tgT (anyS r) l))).length : Int) == (0 : Int)) = false) ∧ (0 : Int) ≤ tgK (leavesS (eT (tgT (anyS r) l))) aa ∧ tgK (leavesS (eT (tgT (anyS r) l))) aa < (↑(leavesS (eT (tgT (anyS r) l))).length : Int)) ∧ decide ((leavesS (eT (tgT (anyS r) l))).getD (tgK (leavesS (eT (tgT (anyS r) l))) aa).toNat (0 : Int) < (100 : Int)) = false) ∧ List.length (anyS r).snd.snd ≤ (9223372036854775807 : Nat)) ∧ (↑(List.length (anyS r).snd.snd) : Int) = (↑(List.length (anyS r).snd.snd) : Int) ∧ (0 : Int) ≤ (0 : Int) ∧ (0 : Int) ≤ (↑(List.length (anyS r).snd.snd) : Int) ∧ List.length (anyS r).snd.snd ≤ (99 : Nat) ∧ (0 : Int) ≤ tgK (leavesS (eT (tgT (anyS r) l))) aa ∧ tgK (leavesS (eT (tgT (anyS r) l))) aa < (↑(leavesS (eT (tgT (anyS r) l))).length : Int)) ∧ decide (lastP ((leavesS (eT (tgT (anyS r) l))).getD (tgK (leavesS (eT (tgT (anyS r) l))) aa).toNat (0 : Int)) (0 : Int) (-1 : Int) (List.drop (Int.toNat (0 : Int)) (anyS r).snd.snd) < (0 : Int)) = false) ∧ ¬(nodesT (tgT (anyS r) l) ≤ BIG ∧ okG (anyS r) ∧ (0 : Int) ≤ lastP ((leavesS (eT (tgT (anyS r) l))).getD (tgK (leavesS (eT (tgT (anyS r) l))) aa).toNat (0 : Int)) (0 : Int) (-1 : Int) (List.drop (Int.toNat (0 : Int)) (anyS r).snd.snd) ∧ lastP ((leavesS (eT (tgT (anyS r) l))).getD (tgK (leavesS (eT (tgT (anyS r) l))) aa).toNat (0 : Int)) (0 : Int) (-1 : Int) (List.drop (Int.toNat (0 : Int)) (anyS r).snd.snd) < (↑(List.length (anyS r).snd.snd) : Int) ∧ (0 : Int) ≤ tgK (leavesS (eT (tgT (anyS r) l))) aa ∧ tgK (leavesS (eT (tgT (anyS r) l))) aa ≤ (1000000000 : Int)) →
  False) ∧ (((((((((((((True ∧ okG (anyS r)) ∧ gSmall (anyS r) ∧ okT (eT (tgT (anyS r) l))) ∧ (!checkS (anyS r) (eT (tgT (anyS r) l)) (100 : Int)) = false) ∧ (leavesS (eT (tgT (anyS r) l))).length ≤ BIG) ∧ (leavesS (eT (tgT (anyS r) l))).length ≤ (9223372036854775807 : Nat)) ∧ ((↑(leavesS (eT (tgT (anyS r) l))).length : Int) == (0 : Int)) = false) ∧ (0 : Int) ≤ tgK (leavesS (eT (tgT (anyS r) l))) aa ∧ tgK (leavesS (eT (tgT (anyS r) l))) aa < (↑(leavesS (eT (tgT (anyS r) l))).length : Int)) ∧ decide ((leavesS (eT (tgT (anyS r) l))).getD (tgK (leavesS (eT (tgT (anyS r) l))) aa).toNat (0 : Int) < (100 : Int)) = false) ∧ List.length (anyS r).snd.snd ≤ (9223372036854775807 : Nat)) ∧ (↑(List.length (anyS r).snd.snd) : Int) = (↑(List.length (anyS r).snd.snd) : Int) ∧ (0 : Int) ≤ (0 : Int) ∧ (0 : Int) ≤ (↑(List.length (anyS r).snd.snd) : Int) ∧ List.length (anyS r).snd.snd ≤ (99 : Nat) ∧ (0 : Int) ≤ tgK (leavesS (eT (tgT (anyS r) l))) aa ∧ tgK (leavesS (eT (tgT (anyS r) l))) aa < (↑(leavesS (eT (tgT (anyS r) l))).length : Int)) ∧ decide (lastP ((leavesS (eT (tgT (anyS r) l))).getD (tgK (leavesS (eT (tgT (anyS r) l))) aa).toNat (0 : Int)) (0 : Int) (-1 : Int) (List.drop (Int.toNat (0 : Int)) (anyS r).snd.snd) < (0 : Int)) = false) ∧ nodesT (tgT (anyS r) l) ≤ BIG ∧ okG (anyS r) ∧ (0 : Int) ≤ lastP ((leavesS (eT (tgT (anyS r) l))).getD (tgK (leavesS (eT (tgT (anyS r) l))) aa).toNat (0 : Int)) (0 : Int) (-1 : Int) (List.drop (Int.toNat (0 : Int)) (anyS r).snd.snd) ∧ lastP ((leavesS (eT (tgT (anyS r) l))).getD (tgK (leavesS (eT (tgT (anyS r) l))) aa).toNat (0 : Int)) (0 : Int) (-1 : Int) (List.drop (Int.toNat (0 : Int)) (anyS r).snd.snd) < (↑(List.length (anyS r).snd.snd) : Int) ∧ (0 : Int) ≤ tgK (leavesS (eT (tgT (anyS r) l))) aa ∧ tgK (leavesS (eT (tgT (anyS r) l))) aa ≤ (1000000000 : Int)) ∧ ¬(okG (anyS r) ∧ (0 : Int) ≤ lastP ((leavesS (eT (tgT (anyS r) l))).getD (tgK (leavesS (eT (tgT (anyS r) l))) aa).toNat (0 : Int)) (0 : Int) (-1 : Int) (List.drop (Int.toNat (0 : Int)) (anyS r).snd.snd) ∧ lastP ((leavesS (eT (tgT (anyS r) l))).getD (tgK (leavesS (eT (tgT (anyS r) l))) aa).toNat (0 : Int)) (0 : Int) (-1 : Int) (List.drop (Int.toNat (0 : Int)) (anyS r).snd.snd) < (↑(List.length (anyS r).snd.snd) : Int) ∧ (0 : Int) ≤ tgK (leavesS (eT (tgT (anyS r) l))) aa ∧ tgK (leavesS (eT (tgT (anyS r) l))) aa < (↑(leavesS (eT (tgT (anyS r) l))).length : Int) ∧ (leavesS (eT (tgT (anyS r) l))).length ≤ BIG) →
  False) ∧ ((((((((((((((True ∧ okG (anyS r)) ∧ gSmall (anyS r) ∧ okT (eT (tgT (anyS r) l))) ∧ (!checkS (anyS r) (eT (tgT (anyS r) l)) (100 : Int)) = false) ∧ (leavesS (eT (tgT (anyS r) l))).length ≤ BIG) ∧ (leavesS (eT (tgT (anyS r) l))).length ≤ (9223372036854775807 : Nat)) ∧ ((↑(leavesS (eT (tgT (anyS r) l))).length : Int) == (0 : Int)) = false) ∧ (0 : Int) ≤ tgK (leavesS (eT (tgT (anyS r) l))) aa ∧ tgK (leavesS (eT (tgT (anyS r) l))) aa < (↑(leavesS (eT (tgT (anyS r) l))).length : Int)) ∧ decide ((leavesS (eT (tgT (anyS r) l))).getD (tgK (leavesS (eT (tgT (anyS r) l))) aa).toNat (0 : Int) < (100 : Int)) = false) ∧ List.length (anyS r).snd.snd ≤ (9223372036854775807 : Nat)) ∧ (↑(List.length (anyS r).snd.snd) : Int) = (↑(List.length (anyS r).snd.snd) : Int) ∧ (0 : Int) ≤ (0 : Int) ∧ (0 : Int) ≤ (↑(List.length (anyS r).snd.snd) : Int) ∧ List.length (anyS r).snd.snd ≤ (99 : Nat) ∧ (0 : Int) ≤ tgK (leavesS (eT (tgT (anyS r) l))) aa ∧ tgK (leavesS (eT (tgT (anyS r) l))) aa < (↑(leavesS (eT (tgT (anyS r) l))).length : Int)) ∧ decide (lastP ((leavesS (eT (tgT (anyS r) l))).getD (tgK (leavesS (eT (tgT (anyS r) l))) aa).toNat (0 : Int)) (0 : Int) (-1 : Int) (List.drop (Int.toNat (0 : Int)) (anyS r).snd.snd) < (0 : Int)) = false) ∧ nodesT (tgT (anyS r) l) ≤ BIG ∧ okG (anyS r) ∧ (0 : Int) ≤ lastP ((leavesS (eT (tgT (anyS r) l))).getD (tgK (leavesS (eT (tgT (anyS r) l))) aa).toNat (0 : Int)) (0 : Int) (-1 : Int) (List.drop (Int.toNat (0 : Int)) (anyS r).snd.snd) ∧ lastP ((leavesS (eT (tgT (anyS r) l))).getD (tgK (leavesS (eT (tgT (anyS r) l))) aa).toNat (0 : Int)) (0 : Int) (-1 : Int) (List.drop (Int.toNat (0 : Int)) (anyS r).snd.snd) < (↑(List.length (anyS r).snd.snd) : Int) ∧ (0 : Int) ≤ tgK (leavesS (eT (tgT (anyS r) l))) aa ∧ tgK (leavesS (eT (tgT (anyS r) l))) aa ≤ (1000000000 : Int)) ∧ okG (anyS r) ∧ (0 : Int) ≤ lastP ((leavesS (eT (tgT (anyS r) l))).getD (tgK (leavesS (eT (tgT (anyS r) l))) aa).toNat (0 : Int)) (0 : Int) (-1 : Int) (List.drop (Int.toNat (0 : Int)) (anyS r).snd.snd) ∧ lastP ((leavesS (eT (tgT (anyS r) l))).getD (tgK (leavesS (eT (tgT (anyS r) l))) aa).toNat (0 : Int)) (0 : Int) (-1 : Int) (List.drop (Int.toNat (0 : Int)) (anyS r).snd.snd) < (↑(List.length (anyS r).snd.snd) : Int) ∧ (0 : Int) ≤ tgK (leavesS (eT (tgT (anyS r) l))) aa ∧ tgK (leavesS (eT (tgT (anyS r) l))) aa < (↑(leavesS (eT (tgT (anyS r) l))).length : Int) ∧ (leavesS (eT (tgT (anyS r) l))).length ≤ BIG) ∧ ¬(okG (anyS r) ∧ okT (tgU (anyS r) (tgT (anyS r) l) (tgK (leavesS (eT (tgT (anyS r) l))) aa) (lastP ((leavesS (eT (tgT (anyS r) l))).getD (tgK (leavesS (eT (tgT (anyS r) l))) aa).toNat (0 : Int)) (0 : Int) (-1 : Int) (List.drop (Int.toNat (0 : Int)) (anyS r).snd.snd))) ∧ (0 : Int) ≤ lastP ((leavesS (eT (tgT (anyS r) l))).getD (tgK (leavesS (eT (tgT (anyS r) l))) aa).toNat (0 : Int)) (0 : Int) (-1 : Int) (List.drop (Int.toNat (0 : Int)) (anyS r).snd.snd) ∧ lastP ((leavesS (eT (tgT (anyS r) l))).getD (tgK (leavesS (eT (tgT (anyS r) l))) aa).toNat (0 : Int)) (0 : Int) (-1 : Int) (List.drop (Int.toNat (0 : Int)) (anyS r).snd.snd) < (↑(List.length (anyS r).snd.snd) : Int) ∧ nodesT (tgT (anyS r) l) ≤ BIG ∧ nodesT (tgU (anyS r) (tgT (anyS r) l) (tgK (leavesS (eT (tgT (anyS r) l))) aa) (lastP ((leavesS (eT (tgT (anyS r) l))).getD (tgK (leavesS (eT (tgT (anyS r) l))) aa).toNat (0 : Int)) (0 : Int) (-1 : Int) (List.drop (Int.toNat (0 : Int)) (anyS r).snd.snd))) ≤ BIG ∧ checkS (anyS r) (tgU (anyS r) (tgT (anyS r) l) (tgK (leavesS (eT (tgT (anyS r) l))) aa) (lastP ((leavesS (eT (tgT (anyS r) l))).getD (tgK (leavesS (eT (tgT (anyS r) l))) aa).toNat (0 : Int)) (0 : Int) (-1 : Int) (List.drop (Int.toNat (0 : Int)) (anyS r).snd.snd))) (100 : Int) = true ∧ leavesS (tgU (anyS r) (tgT (anyS r) l) (tgK (leavesS (eT (tgT (anyS r) l))) aa) (lastP ((leavesS (eT (tgT (anyS r) l))).getD (tgK (leavesS (eT (tgT (anyS r) l))) aa).toNat (0 : Int)) (0 : Int) (-1 : Int) (List.drop (Int.toNat (0 : Int)) (anyS r).snd.snd))) = tgW (anyS r) (leavesS (eT (tgT (anyS r) l))) (tgK (leavesS (eT (tgT (anyS r) l))) aa) (lastP ((leavesS (eT (tgT (anyS r) l))).getD (tgK (leavesS (eT (tgT (anyS r) l))) aa).toNat (0 : Int)) (0 : Int) (-1 : Int) (List.drop (Int.toNat (0 : Int)) (anyS r).snd.snd)) ∧ nodesT (tgU (anyS r) (tgT (anyS r) l) (tgK (leavesS (eT (tgT (anyS r) l))) aa) (lastP ((leavesS (eT (tgT (anyS r) l))).getD (tgK (leavesS (eT (tgT (anyS r) l))) aa).toNat (0 : Int)) (0 : Int) (-1 : Int) (List.drop (Int.toNat (0 : Int)) (anyS r).snd.snd))) = nodesT (tgT (anyS r) l) + (prodS (anyS r) (lastP ((leavesS (eT (tgT (anyS r) l))).getD (tgK (leavesS (eT (tgT (anyS r) l))) aa).toNat (0 : Int)) (0 : Int) (-1 : Int) (List.drop (Int.toNat (0 : Int)) (anyS r).snd.snd))).snd.length ∧ sameT (tgT (anyS r) l) (tgU (anyS r) (tgT (anyS r) l) (tgK (leavesS (eT (tgT (anyS r) l))) aa) (lastP ((leavesS (eT (tgT (anyS r) l))).getD (tgK (leavesS (eT (tgT (anyS r) l))) aa).toNat (0 : Int)) (0 : Int) (-1 : Int) (List.drop (Int.toNat (0 : Int)) (anyS r).snd.snd))) = false) →
  False) ∧ ((((((((((((((True ∧ okG (anyS r)) ∧ gSmall (anyS r) ∧ okT (eT (tgT (anyS r) l))) ∧ (!checkS (anyS r) (eT (tgT (anyS r) l)) (100 : Int)) = false) ∧ (leavesS (eT (tgT (anyS r) l))).length ≤ BIG) ∧ (leavesS (eT (tgT (anyS r) l))).length ≤ (9223372036854775807 : Nat)) ∧ ((↑(leavesS (eT (tgT (anyS r) l))).length : Int) == (0 : Int)) = false) ∧ (0 : Int) ≤ tgK (leavesS (eT (tgT (anyS r) l))) aa ∧ tgK (leavesS (eT (tgT (anyS r) l))) aa < (↑(leavesS (eT (tgT (anyS r) l))).length : Int)) ∧ decide ((leavesS (eT (tgT (anyS r) l))).getD (tgK (leavesS (eT (tgT (anyS r) l))) aa).toNat (0 : Int) < (100 : Int)) = false) ∧ List.length (anyS r).snd.snd ≤ (9223372036854775807 : Nat)) ∧ (↑(List.length (anyS r).snd.snd) : Int) = (↑(List.length (anyS r).snd.snd) : Int) ∧ (0 : Int) ≤ (0 : Int) ∧ (0 : Int) ≤ (↑(List.length (anyS r).snd.snd) : Int) ∧ List.length (anyS r).snd.snd ≤ (99 : Nat) ∧ (0 : Int) ≤ tgK (leavesS (eT (tgT (anyS r) l))) aa ∧ tgK (leavesS (eT (tgT (anyS r) l))) aa < (↑(leavesS (eT (tgT (anyS r) l))).length : Int)) ∧ decide (lastP ((leavesS (eT (tgT (anyS r) l))).getD (tgK (leavesS (eT (tgT (anyS r) l))) aa).toNat (0 : Int)) (0 : Int) (-1 : Int) (List.drop (Int.toNat (0 : Int)) (anyS r).snd.snd) < (0 : Int)) = false) ∧ nodesT (tgT (anyS r) l) ≤ BIG ∧ okG (anyS r) ∧ (0 : Int) ≤ lastP ((leavesS (eT (tgT (anyS r) l))).getD (tgK (leavesS (eT (tgT (anyS r) l))) aa).toNat (0 : Int)) (0 : Int) (-1 : Int) (List.drop (Int.toNat (0 : Int)) (anyS r).snd.snd) ∧ lastP ((leavesS (eT (tgT (anyS r) l))).getD (tgK (leavesS (eT (tgT (anyS r) l))) aa).toNat (0 : Int)) (0 : Int) (-1 : Int) (List.drop (Int.toNat (0 : Int)) (anyS r).snd.snd) < (↑(List.length (anyS r).snd.snd) : Int) ∧ (0 : Int) ≤ tgK (leavesS (eT (tgT (anyS r) l))) aa ∧ tgK (leavesS (eT (tgT (anyS r) l))) aa ≤ (1000000000 : Int)) ∧ okG (anyS r) ∧ (0 : Int) ≤ lastP ((leavesS (eT (tgT (anyS r) l))).getD (tgK (leavesS (eT (tgT (anyS r) l))) aa).toNat (0 : Int)) (0 : Int) (-1 : Int) (List.drop (Int.toNat (0 : Int)) (anyS r).snd.snd) ∧ lastP ((leavesS (eT (tgT (anyS r) l))).getD (tgK (leavesS (eT (tgT (anyS r) l))) aa).toNat (0 : Int)) (0 : Int) (-1 : Int) (List.drop (Int.toNat (0 : Int)) (anyS r).snd.snd) < (↑(List.length (anyS r).snd.snd) : Int) ∧ (0 : Int) ≤ tgK (leavesS (eT (tgT (anyS r) l))) aa ∧ tgK (leavesS (eT (tgT (anyS r) l))) aa < (↑(leavesS (eT (tgT (anyS r) l))).length : Int) ∧ (leavesS (eT (tgT (anyS r) l))).length ≤ BIG) ∧ okG (anyS r) ∧ okT (tgU (anyS r) (tgT (anyS r) l) (tgK (leavesS (eT (tgT (anyS r) l))) aa) (lastP ((leavesS (eT (tgT (anyS r) l))).getD (tgK (leavesS (eT (tgT (anyS r) l))) aa).toNat (0 : Int)) (0 : Int) (-1 : Int) (List.drop (Int.toNat (0 : Int)) (anyS r).snd.snd))) ∧ (0 : Int) ≤ lastP ((leavesS (eT (tgT (anyS r) l))).getD (tgK (leavesS (eT (tgT (anyS r) l))) aa).toNat (0 : Int)) (0 : Int) (-1 : Int) (List.drop (Int.toNat (0 : Int)) (anyS r).snd.snd) ∧ lastP ((leavesS (eT (tgT (anyS r) l))).getD (tgK (leavesS (eT (tgT (anyS r) l))) aa).toNat (0 : Int)) (0 : Int) (-1 : Int) (List.drop (Int.toNat (0 : Int)) (anyS r).snd.snd) < (↑(List.length (anyS r).snd.snd) : Int) ∧ nodesT (tgT (anyS r) l) ≤ BIG ∧ nodesT (tgU (anyS r) (tgT (anyS r) l) (tgK (leavesS (eT (tgT (anyS r) l))) aa) (lastP ((leavesS (eT (tgT (anyS r) l))).getD (tgK (leavesS (eT (tgT (anyS r) l))) aa).toNat (0 : Int)) (0 : Int) (-1 : Int) (List.drop (Int.toNat (0 : Int)) (anyS r).snd.snd))) ≤ BIG ∧ checkS (anyS r) (tgU (anyS r) (tgT (anyS r) l) (tgK (leavesS (eT (tgT (anyS r) l))) aa) (lastP ((leavesS (eT (tgT (anyS r) l))).getD (tgK (leavesS (eT (tgT (anyS r) l))) aa).toNat (0 : Int)) (0 : Int) (-1 : Int) (List.drop (Int.toNat (0 : Int)) (anyS r).snd.snd))) (100 : Int) = true ∧ leavesS (tgU (anyS r) (tgT (anyS r) l) (tgK (leavesS (eT (tgT (anyS r) l))) aa) (lastP ((leavesS (eT (tgT (anyS r) l))).getD (tgK (leavesS (eT (tgT (anyS r) l))) aa).toNat (0 : Int)) (0 : Int) (-1 : Int) (List.drop (Int.toNat (0 : Int)) (anyS r).snd.snd))) = tgW (anyS r) (leavesS (eT (tgT (anyS r) l))) (tgK (leavesS (eT (tgT (anyS r) l))) aa) (lastP ((leavesS (eT (tgT (anyS r) l))).getD (tgK (leavesS (eT (tgT (anyS r) l))) aa).toNat (0 : Int)) (0 : Int) (-1 : Int) (List.drop (Int.toNat (0 : Int)) (anyS r).snd.snd)) ∧ nodesT (tgU (anyS r) (tgT (anyS r) l) (tgK (leavesS (eT (tgT (anyS r) l))) aa) (lastP ((leavesS (eT (tgT (anyS r) l))).getD (tgK (leavesS (eT (tgT (anyS r) l))) aa).toNat (0 : Int)) (0 : Int) (-1 : Int) (List.drop (Int.toNat (0 : Int)) (anyS r).snd.snd))) = nodesT (tgT (anyS r) l) + (prodS (anyS r) (lastP ((leavesS (eT (tgT (anyS r) l))).getD (tgK (leavesS (eT (tgT (anyS r) l))) aa).toNat (0 : Int)) (0 : Int) (-1 : Int) (List.drop (Int.toNat (0 : Int)) (anyS r).snd.snd))).snd.length ∧ sameT (tgT (anyS r) l) (tgU (anyS r) (tgT (anyS r) l) (tgK (leavesS (eT (tgT (anyS r) l))) aa) (lastP ((leavesS (eT (tgT (anyS r) l))).getD (tgK (leavesS (eT (tgT (anyS r) l))) aa).toNat (0 : Int)) (0 : Int) (-1 : Int) (List.drop (Int.toNat (0 : Int)) (anyS r).snd.snd))) = false →
  True ∧ true = true) ∧ (((((((True ∧ okG (anyS r)) ∧ gSmall (anyS r) ∧ okT (eT (tgT (anyS r) l))) ∧ (!checkS (anyS r) (eT (tgT (anyS r) l)) (100 : Int)) = false) ∧ (leavesS (eT (tgT (anyS r) l))).length ≤ BIG) ∧ (leavesS (eT (tgT (anyS r) l))).length ≤ (9223372036854775807 : Nat)) ∧ ((↑(leavesS (eT (tgT (anyS r) l))).length : Int) == (0 : Int)) = false) ∧ ¬((0 : Int) ≤ tgK (leavesS (eT (tgT (anyS r) l))) aa ∧ tgK (leavesS (eT (tgT (anyS r) l))) aa < (↑(leavesS (eT (tgT (anyS r) l))).length : Int)) →
  False) ∧ (True)
theorem treeGrows.eq  (r : Int × Int × Int × Int × List (List Int) × ByteArray) (l : List Int) (aa : Int) : treeGrows.g  r l aa = treeGrows.T0  r l aa := by kernel_rfl
theorem treeGrows.ok  (r : Int × Int × Int × Int × List (List Int) × ByteArray) (l : List Int) (aa : Int) : treeGrows.T0  r l aa := by
  unfold treeGrows.T0
  repeat rw [eT_eq]
  have hG := anyS_ok r
  obtain ⟨hV, hN, hH⟩ := anyS_V r
  have hX : okX (anyS r) := ⟨hG, (anyS_okY r).2.2.2⟩
  generalize anyS r = g at *
  have hgs : gSmall g := ⟨hG.1, hG.2.1⟩
  have i100 : isS g 100 = true := by
    simp only [isS, termS, nonS, Bool.or_eq_true, Bool.and_eq_true, decide_eq_true_eq]
    right; omega
  obtain ⟨hK, hn⟩ := treeS_ok hX 4 100 l (by omega) (by omega)
  have hc : checkS g (tgT g l) 100 = true := treeS_check hV.2.2.2 hG 4 100 l i100
  have hok : okT (tgT g l) := okK_T (by omega) hK
  have hK : okK 999 (tgT g l) := hK
  have hn : nodesT (tgT g l) ≤ 2401 := hn
  generalize tgT g l = t at *
  have hlv := leaves_nodes t
  have hB : BIG = 1000000 := rfl
  have hk : 0 ≤ tgK (leavesS t) aa ∧ ((leavesS t).length = 0 ∨ tgK (leavesS t) aa < ((leavesS t).length : Int)) := by
    unfold tgK
    split
    · exact ⟨by omega, by omega⟩
    · exact ⟨Int.emod_nonneg _ (by omega), .inr (Int.emod_lt_of_pos _ (by omega))⟩
  generalize tgK (leavesS t) aa = k at *
  simp only [show Int.toNat 0 = 0 from rfl, List.drop_zero]
  have hp : (leavesS t).length ≠ 0 → ¬ (leavesS t).getD k.toNat 0 < 100 → 0 ≤ lastP ((leavesS t).getD k.toNat 0) 0 (-1) g.2.2 ∧ lastP ((leavesS t).getD k.toNat 0) 0 (-1) g.2.2 < (g.2.2.length : Int) ∧ (prodS g (lastP ((leavesS t).getD k.toNat 0) 0 (-1) g.2.2)).1 = (leavesS t).getD k.toNat 0 := fun h1 h2 => by
    have hm : (leavesS t).getD k.toNat 0 ∈ leavesS t := getD_mem (by omega)
    have hi := check_leaves hc _ hm
    have h99 := hG.1
    have hnon : 100 ≤ (leavesS t).getD k.toNat 0 ∧ (leavesS t).getD k.toNat 0 < 100 + (g.2.1.length : Int) := by
      simp only [isS, termS, nonS, Bool.or_eq_true, Bool.and_eq_true, decide_eq_true_eq] at hi
      omega
    rcases lastP_spec ((leavesS t).getD k.toNat 0) g.2.2 0 (-1) with ⟨_, h3⟩ | ⟨h3, h4, h5⟩
    · obtain ⟨q, hq, e⟩ := hH _ hnon.1 hnon.2
      exact absurd e (h3 q hq)
    · rw [Int.sub_zero] at h5
      exact ⟨h3, by omega, h5⟩
  generalize lastP ((leavesS t).getD k.toNat 0) 0 (-1) g.2.2 = p at *
  have fin : (leavesS t).length ≠ 0 → ¬ (leavesS t).getD k.toNat 0 < 100 → okT (tgU g t k p) ∧ nodesT (tgU g t k p) ≤ BIG ∧ checkS g (tgU g t k p) 100 = true ∧ leavesS (tgU g t k p) = tgW g (leavesS t) k p ∧ nodesT (tgU g t k p) = nodesT t + (prodS g p).2.length ∧ sameT t (tgU g t k p) = false := fun h1 h2 => by
    obtain ⟨p1, p2, p3⟩ := hp h1 h2
    have hm : prodS g p ∈ g.2.2 := getD_mem (by omega)
    have hr := hG.2.2.2 _ hm
    have hq := hG.2.2.1
    obtain ⟨c1, c2⟩ := grow_check hV.2.2.2 p1 p2 t k 100 hc hk.1 (by omega) p3
    refine ⟨okK_T (by omega) (growS_okK (by omega) (hX.2.1 _ hm) (by omega) t k hK), by unfold tgU; omega, c1, ?_, c2, grow_ne (by omega) hk.1 (by omega) c2⟩
    unfold tgU tgW
    rw [(grow_hit (right := (prodS g p).2) (show p ≠ -1 by omega) t k hk.1 (by omega)).2, show (k + 1).toNat = k.toNat + 1 by omega]
  have hq := hG.2.2.1
  ((repeat' (first | exact trivial | apply And.intro)) <;> (intro hw; (try (simp only [true_and, and_true, decide_eq_true_eq, decide_eq_false_iff_not, beq_iff_eq, bne_iff_ne, beq_eq_false_iff_ne, bne_eq_false_iff_eq, ne_eq, Bool.not_eq_true, Bool.not_eq_false, not_true_eq_false, not_false_eq_true, Bool.not_eq_eq_eq_not, Bool.not_true, Bool.not_false, forall_const, imp_self, Bool.true_eq_false, Bool.false_eq_true, reduceCtorEq] at hw)); (try first | (exfalso; omega) | exact ⟨trivial, rfl⟩ | exact (hw hx).elim | exact (hw.2 hx).elim)))
  all_goals first
    | exact absurd hG hw
    | exact ⟨trivial, trivial⟩
    | exact hw.2 ⟨hgs, hok⟩
    | (exfalso; rw [hc] at hw; exact absurd hw.2 (by decide))
    | (exfalso; omega)
    | (have hp := hp (by omega) (by omega); exact hw.2 ⟨by omega, hG, by omega, by omega, by omega, by omega⟩)
    | (have hp := hp (by omega) (by omega); exact hw.2 ⟨hG, by omega, by omega, by omega, by omega, by omega⟩)
    | (have hp := hp (by omega) (by omega); obtain ⟨f1, f2, f3, f4, f5, f6⟩ := fin (by omega) (by omega); exact hw.2 ⟨hG, f1, by omega, by omega, by omega, f2, f3, f4, f5, f6⟩)
    | skip
theorem treeGrows.fn   : FnOk Try.prog treeGrows := fn_eval (l := [(1000002, treeGrows.R2), (1000006, treeGrows.R6), (1000018, treeGrows.R18), (1000019, treeGrows.R19), (1000020, treeGrows.R20), (0, treeGrows.L0)]) (lf := 1000) (fun _ => cfOf_ok (fns_cons any.fn (fns_cons checkF.fn (fns_cons leavesF.fn (fns_cons wakes.fn (fns_nil _)))))) _ (lps_cons (treeGrows.R2.lp) (lps_cons (treeGrows.R6.lp) (lps_cons (treeGrows.R18.lp) (lps_cons (treeGrows.R19.lp) (lps_cons (treeGrows.R20.lp) (lps_cons (treeGrows.L0.lp) (lps_nil _ _))))))) (by kernel_rfl) (fun ⟨r, l, aa⟩ hx => (treeGrows.eq  r l aa).mpr (treeGrows.ok  r l aa))
theorem treeGrows_pre (r : Raw) (l : List Int) (aa : Int) (h0 : rng RAW r) (h1 : rng (.sl (.int .i64)) l) (h3 : rng (.int .i64) aa) : holds (treeGrows.pre (r, l, aa)) := trivial
end Go.Proofs.Ytdmljeaigjfenaa.D
