/- Texts that the proof of a law rests on, put together: part 45. -/
import Derived.Test.YtdmljeaigjfenaaMy44
import Derived.KernelRfl
import Derived.Test.YtdmljeaigjfenaaProg
namespace Go.Proofs.Ytdmljeaigjfenaa.D
open Go Go.EV Go.TL Go.Proofs
set_option linter.unusedVariables false
set_option maxRecDepth 100000
def txL : List ByteArray := [sb [83, 58, 32, 97, 10], sb [83, 58, 32, 97, 32, 83, 32, 124, 32, 98, 10], sb [83, 58, 32, 83, 32, 97, 32, 124, 32, 98, 10], sb [83, 58, 32, 97, 32, 83, 32, 98, 32, 124, 10], sb [83, 58, 32, 65, 32, 65, 10, 65, 58, 32, 97, 32, 65, 32, 124, 32, 98, 10], sb [69, 58, 32, 69, 32, 112, 32, 84, 32, 124, 32, 84, 10, 84, 58, 32, 84, 32, 109, 32, 70, 32, 124, 32, 70, 10, 70, 58, 32, 105, 32, 124, 32, 108, 32, 69, 32, 114, 10], sb [83, 58, 32, 65, 32, 97, 32, 124, 32, 98, 32, 65, 32, 99, 32, 124, 32, 100, 32, 99, 32, 124, 32, 98, 32, 100, 32, 97, 10, 65, 58, 32, 100, 10], sb [83, 58, 32, 97, 32, 65, 32, 100, 32, 124, 32, 98, 32, 66, 32, 100, 32, 124, 32, 97, 32, 66, 32, 101, 32, 124, 32, 98, 32, 65, 32, 101, 10, 65, 58, 32, 99, 10, 66, 58, 32, 99, 10], sb [83, 58, 32, 65, 32, 66, 10, 65, 58, 32, 97, 32, 65, 32, 124, 10, 66, 58, 32, 98, 32, 66, 32, 124, 10], sb [83, 58, 32, 76, 32, 113, 32, 82, 32, 124, 32, 82, 10, 76, 58, 32, 109, 32, 82, 32, 124, 32, 105, 10, 82, 58, 32, 76, 10], sb [83, 58, 32, 97, 32, 85, 32, 124, 32, 98, 10, 85, 58, 32, 85, 32, 97, 10], sb [83, 58, 32, 97, 32, 84, 32, 124, 32, 98, 10, 84, 58, 32, 98, 32, 83, 32, 124, 32, 97, 10, 86, 58, 32, 97, 32, 97, 10], sb [83, 58, 10, 84, 58, 32, 97, 10], sb [83, 58, 32, 65, 32, 98, 10, 65, 58, 32, 97, 32, 124, 32, 66, 10, 66, 58, 10], sb [83, 58, 32, 108, 32, 83, 32, 114, 32, 83, 32, 124, 10], sb [83, 58, 32, 97, 32, 65, 10, 65, 58, 32, 98, 32, 66, 32, 124, 32, 99, 10, 66, 58, 32, 97, 32, 65, 32, 124, 32, 100, 32, 83, 10], sb [83, 58, 32, 65, 32, 99, 10, 65, 58, 32, 66, 32, 97, 32, 124, 32, 97, 32, 98, 10, 66, 58, 32, 97, 32, 124, 32, 98, 10], sb [83, 58, 32, 83, 32, 83, 32, 124, 32, 97, 10], sb [83, 58, 32, 97, 32, 83, 32, 124, 32, 83, 32, 98, 32, 124, 32, 97, 10], sb [83, 58, 32, 105, 32, 83, 32, 124, 32, 105, 32, 83, 32, 101, 32, 83, 32, 124, 32, 97, 10], sb [83, 58, 32, 65, 32, 124, 32, 66, 10, 65, 58, 32, 97, 10, 66, 58, 32, 97, 10], sb [69, 58, 32, 69, 32, 112, 32, 69, 32, 124, 32, 69, 32, 109, 32, 69, 32, 124, 32, 105, 10], sb [83, 58, 32, 83, 32, 124, 32, 97, 10], sb [83, 58, 32, 65, 32, 83, 32, 124, 32, 97, 10, 65, 58, 10], sb [83, 58, 32, 65, 32, 66, 32, 99, 10, 65, 58, 32, 97, 32, 124, 10, 66, 58, 32, 97, 32, 124, 10], sb [83, 58, 32, 83, 32, 97, 32, 124, 32, 97, 32, 83, 32, 124, 32, 97, 10], sb [83, 58, 32, 65, 32, 97, 32, 124, 32, 66, 32, 97, 10, 65, 58, 32, 98, 10, 66, 58, 32, 98, 10]]
def gr0 : Gr := ([sb [97]], [sb [83]], [(100, [1])])
def gr1 : Gr := ([sb [97], sb [98]], [sb [83]], [(100, [1, 100]), (100, [2])])
def gr2 : Gr := ([sb [97], sb [98]], [sb [83]], [(100, [100, 1]), (100, [2])])
def gr3 : Gr := ([sb [97], sb [98]], [sb [83]], [(100, [1, 100, 2]), (100, [])])
def gr4 : Gr := ([sb [97], sb [98]], [sb [83], sb [65]], [(100, [101, 101]), (101, [1, 101]), (101, [2])])
def gr5 : Gr := ([sb [112], sb [109], sb [105], sb [108], sb [114]], [sb [69], sb [84], sb [70]], [(100, [100, 1, 101]), (100, [101]), (101, [101, 2, 102]), (101, [102]), (102, [3]), (102, [4, 100, 5])])
def gr6 : Gr := ([sb [97], sb [98], sb [99], sb [100]], [sb [83], sb [65]], [(100, [101, 1]), (100, [2, 101, 3]), (100, [4, 3]), (100, [2, 4, 1]), (101, [4])])
def gr7 : Gr := ([sb [97], sb [100], sb [98], sb [101], sb [99]], [sb [83], sb [65], sb [66]], [(100, [1, 101, 2]), (100, [3, 102, 2]), (100, [1, 102, 4]), (100, [3, 101, 4]), (101, [5]), (102, [5])])
def gr8 : Gr := ([sb [97], sb [98]], [sb [83], sb [65], sb [66]], [(100, [101, 102]), (101, [1, 101]), (101, []), (102, [2, 102]), (102, [])])
def gr9 : Gr := ([sb [113], sb [109], sb [105]], [sb [83], sb [76], sb [82]], [(100, [101, 1, 102]), (100, [102]), (101, [2, 102]), (101, [3]), (102, [101])])
def gr10 : Gr := ([sb [97], sb [98]], [sb [83], sb [85]], [(100, [1, 101]), (100, [2]), (101, [101, 1])])
def gr11 : Gr := ([sb [97], sb [98]], [sb [83], sb [84], sb [86]], [(100, [1, 101]), (100, [2]), (101, [2, 100]), (101, [1]), (102, [1, 1])])
def gr12 : Gr := ([sb [97]], [sb [83], sb [84]], [(100, []), (101, [1])])
def gr13 : Gr := ([sb [98], sb [97]], [sb [83], sb [65], sb [66]], [(100, [101, 1]), (101, [2]), (101, [102]), (102, [])])
def gr14 : Gr := ([sb [108], sb [114]], [sb [83]], [(100, [1, 100, 2, 100]), (100, [])])
def gr15 : Gr := ([sb [97], sb [98], sb [99], sb [100]], [sb [83], sb [65], sb [66]], [(100, [1, 101]), (101, [2, 102]), (101, [3]), (102, [1, 101]), (102, [4, 100])])
def gr16 : Gr := ([sb [99], sb [97], sb [98]], [sb [83], sb [65], sb [66]], [(100, [101, 1]), (101, [102, 2]), (101, [2, 3]), (102, [2]), (102, [3])])
def gr17 : Gr := ([sb [97]], [sb [83]], [(100, [100, 100]), (100, [1])])
def gr18 : Gr := ([sb [97], sb [98]], [sb [83]], [(100, [1, 100]), (100, [100, 2]), (100, [1])])
def gr19 : Gr := ([sb [105], sb [101], sb [97]], [sb [83]], [(100, [1, 100]), (100, [1, 100, 2, 100]), (100, [3])])
def gr20 : Gr := ([sb [97]], [sb [83], sb [65], sb [66]], [(100, [101]), (100, [102]), (101, [1]), (102, [1])])
def gr21 : Gr := ([sb [112], sb [109], sb [105]], [sb [69]], [(100, [100, 1, 100]), (100, [100, 2, 100]), (100, [3])])
def gr22 : Gr := ([sb [97]], [sb [83]], [(100, [100]), (100, [1])])
def gr23 : Gr := ([sb [97]], [sb [83], sb [65]], [(100, [101, 100]), (100, [1]), (101, [])])
def gr24 : Gr := ([sb [99], sb [97]], [sb [83], sb [65], sb [66]], [(100, [101, 102, 1]), (101, [2]), (101, []), (102, [2]), (102, [])])
def gr25 : Gr := ([sb [97]], [sb [83]], [(100, [100, 1]), (100, [1, 100]), (100, [1])])
def gr26 : Gr := ([sb [97], sb [98]], [sb [83], sb [65], sb [66]], [(100, [101, 1]), (100, [102, 1]), (101, [2]), (102, [2])])
def grL : List Gr := [gr0, gr1, gr2, gr3, gr4, gr5, gr6, gr7, gr8, gr9, gr10, gr11, gr12, gr13, gr14, gr15, gr16, gr17, gr18, gr19, gr20, gr21, gr22, gr23, gr24, gr25, gr26]
def txS (k : Nat) : ByteArray := txL.getD k ByteArray.empty
def grS (k : Nat) : Gr := grL.getD k ([], [], [])
def lookG (s : List UInt8) : List ByteArray → List Gr → Gr
  | t :: r, g :: q => match decide (t.data.toList = s) with
    | true => g
    | false => lookG s r q
  | _, _ => ([], [], [])
def parseS (s : ByteArray) : Gr := lookG s.data.toList txL grL
noncomputable def parse : Face := ⟨21, [.v .str], fun s => some (∃ k, k < 27 ∧ s = txS k), [⟨false, [.v GR, .v (.int .i64), .v (.int .i64), .v (.int .i64)], fun s => (parseS s, 0, 0, 0), fun s => none⟩]⟩
theorem parse_gr : ∀ k, k < 27 → parseS (txS k) = grS k
  | 0, _ => by kernel_rfl
  | 1, _ => by kernel_rfl
  | 2, _ => by kernel_rfl
  | 3, _ => by kernel_rfl
  | 4, _ => by kernel_rfl
  | 5, _ => by kernel_rfl
  | 6, _ => by kernel_rfl
  | 7, _ => by kernel_rfl
  | 8, _ => by kernel_rfl
  | 9, _ => by kernel_rfl
  | 10, _ => by kernel_rfl
  | 11, _ => by kernel_rfl
  | 12, _ => by kernel_rfl
  | 13, _ => by kernel_rfl
  | 14, _ => by kernel_rfl
  | 15, _ => by kernel_rfl
  | 16, _ => by kernel_rfl
  | 17, _ => by kernel_rfl
  | 18, _ => by kernel_rfl
  | 19, _ => by kernel_rfl
  | 20, _ => by kernel_rfl
  | 21, _ => by kernel_rfl
  | 22, _ => by kernel_rfl
  | 23, _ => by kernel_rfl
  | 24, _ => by kernel_rfl
  | 25, _ => by kernel_rfl
  | 26, _ => by kernel_rfl
  | k + 27, h => absurd h (by omega)
theorem parse_at0 : FnAt Try.prog parse (txS 0) := hok_at E.hTexts2_ok parse (txS 0) _ [⟨GR, gr0⟩, ⟨.int .i64, (0 : Int)⟩, ⟨.int .i64, (0 : Int)⟩, ⟨.int .i64, (0 : Int)⟩] (List.mem_singleton_self _) (by kernel_rfl) (by kernel_rfl) (by kernel_rfl) (by kernel_rfl) (by kernel_rfl) (by kernel_rfl) (by kernel_rfl) (by kernel_rfl) (outIs_of rfl rfl (dec_cons (by kernel_rfl) (dec_cons (by kernel_rfl) (dec_cons (by kernel_rfl) (dec_cons (by kernel_rfl) (dec_nil _)))))) (by kernel_rfl)
theorem parse_at1 : FnAt Try.prog parse (txS 1) := hok_at E.hTexts4_ok parse (txS 1) _ [⟨GR, gr1⟩, ⟨.int .i64, (0 : Int)⟩, ⟨.int .i64, (0 : Int)⟩, ⟨.int .i64, (0 : Int)⟩] (List.mem_singleton_self _) (by kernel_rfl) (by kernel_rfl) (by kernel_rfl) (by kernel_rfl) (by kernel_rfl) (by kernel_rfl) (by kernel_rfl) (by kernel_rfl) (outIs_of rfl rfl (dec_cons (by kernel_rfl) (dec_cons (by kernel_rfl) (dec_cons (by kernel_rfl) (dec_cons (by kernel_rfl) (dec_nil _)))))) (by kernel_rfl)
theorem parse_at2 : FnAt Try.prog parse (txS 2) := hok_at E.hTexts5_ok parse (txS 2) _ [⟨GR, gr2⟩, ⟨.int .i64, (0 : Int)⟩, ⟨.int .i64, (0 : Int)⟩, ⟨.int .i64, (0 : Int)⟩] (List.mem_singleton_self _) (by kernel_rfl) (by kernel_rfl) (by kernel_rfl) (by kernel_rfl) (by kernel_rfl) (by kernel_rfl) (by kernel_rfl) (by kernel_rfl) (outIs_of rfl rfl (dec_cons (by kernel_rfl) (dec_cons (by kernel_rfl) (dec_cons (by kernel_rfl) (dec_cons (by kernel_rfl) (dec_nil _)))))) (by kernel_rfl)
theorem parse_at3 : FnAt Try.prog parse (txS 3) := hok_at E.hTexts6_ok parse (txS 3) _ [⟨GR, gr3⟩, ⟨.int .i64, (0 : Int)⟩, ⟨.int .i64, (0 : Int)⟩, ⟨.int .i64, (0 : Int)⟩] (List.mem_singleton_self _) (by kernel_rfl) (by kernel_rfl) (by kernel_rfl) (by kernel_rfl) (by kernel_rfl) (by kernel_rfl) (by kernel_rfl) (by kernel_rfl) (outIs_of rfl rfl (dec_cons (by kernel_rfl) (dec_cons (by kernel_rfl) (dec_cons (by kernel_rfl) (dec_cons (by kernel_rfl) (dec_nil _)))))) (by kernel_rfl)
theorem parse_at4 : FnAt Try.prog parse (txS 4) := hok_at E.hTexts8_ok parse (txS 4) _ [⟨GR, gr4⟩, ⟨.int .i64, (0 : Int)⟩, ⟨.int .i64, (0 : Int)⟩, ⟨.int .i64, (0 : Int)⟩] (List.mem_singleton_self _) (by kernel_rfl) (by kernel_rfl) (by kernel_rfl) (by kernel_rfl) (by kernel_rfl) (by kernel_rfl) (by kernel_rfl) (by kernel_rfl) (outIs_of rfl rfl (dec_cons (by kernel_rfl) (dec_cons (by kernel_rfl) (dec_cons (by kernel_rfl) (dec_cons (by kernel_rfl) (dec_nil _)))))) (by kernel_rfl)
theorem parse_at5 : FnAt Try.prog parse (txS 5) := hok_at E.hTexts17_ok parse (txS 5) _ [⟨GR, gr5⟩, ⟨.int .i64, (0 : Int)⟩, ⟨.int .i64, (0 : Int)⟩, ⟨.int .i64, (0 : Int)⟩] (List.mem_singleton_self _) (by kernel_rfl) (by kernel_rfl) (by kernel_rfl) (by kernel_rfl) (by kernel_rfl) (by kernel_rfl) (by kernel_rfl) (by kernel_rfl) (outIs_of rfl rfl (dec_cons (by kernel_rfl) (dec_cons (by kernel_rfl) (dec_cons (by kernel_rfl) (dec_cons (by kernel_rfl) (dec_nil _)))))) (by kernel_rfl)
theorem parse_at6 : FnAt Try.prog parse (txS 6) := hok_at E.hTexts20_ok parse (txS 6) _ [⟨GR, gr6⟩, ⟨.int .i64, (0 : Int)⟩, ⟨.int .i64, (0 : Int)⟩, ⟨.int .i64, (0 : Int)⟩] (List.mem_singleton_self _) (by kernel_rfl) (by kernel_rfl) (by kernel_rfl) (by kernel_rfl) (by kernel_rfl) (by kernel_rfl) (by kernel_rfl) (by kernel_rfl) (outIs_of rfl rfl (dec_cons (by kernel_rfl) (dec_cons (by kernel_rfl) (dec_cons (by kernel_rfl) (dec_cons (by kernel_rfl) (dec_nil _)))))) (by kernel_rfl)
theorem parse_at7 : FnAt Try.prog parse (txS 7) := hok_at E.hTexts23_ok parse (txS 7) _ [⟨GR, gr7⟩, ⟨.int .i64, (0 : Int)⟩, ⟨.int .i64, (0 : Int)⟩, ⟨.int .i64, (0 : Int)⟩] (List.mem_singleton_self _) (by kernel_rfl) (by kernel_rfl) (by kernel_rfl) (by kernel_rfl) (by kernel_rfl) (by kernel_rfl) (by kernel_rfl) (by kernel_rfl) (outIs_of rfl rfl (dec_cons (by kernel_rfl) (dec_cons (by kernel_rfl) (dec_cons (by kernel_rfl) (dec_cons (by kernel_rfl) (dec_nil _)))))) (by kernel_rfl)
theorem parse_at8 : FnAt Try.prog parse (txS 8) := hok_at E.hTexts24_ok parse (txS 8) _ [⟨GR, gr8⟩, ⟨.int .i64, (0 : Int)⟩, ⟨.int .i64, (0 : Int)⟩, ⟨.int .i64, (0 : Int)⟩] (List.mem_singleton_self _) (by kernel_rfl) (by kernel_rfl) (by kernel_rfl) (by kernel_rfl) (by kernel_rfl) (by kernel_rfl) (by kernel_rfl) (by kernel_rfl) (outIs_of rfl rfl (dec_cons (by kernel_rfl) (dec_cons (by kernel_rfl) (dec_cons (by kernel_rfl) (dec_cons (by kernel_rfl) (dec_nil _)))))) (by kernel_rfl)
theorem parse_at9 : FnAt Try.prog parse (txS 9) := hok_at E.hTexts28_ok parse (txS 9) _ [⟨GR, gr9⟩, ⟨.int .i64, (0 : Int)⟩, ⟨.int .i64, (0 : Int)⟩, ⟨.int .i64, (0 : Int)⟩] (List.mem_singleton_self _) (by kernel_rfl) (by kernel_rfl) (by kernel_rfl) (by kernel_rfl) (by kernel_rfl) (by kernel_rfl) (by kernel_rfl) (by kernel_rfl) (outIs_of rfl rfl (dec_cons (by kernel_rfl) (dec_cons (by kernel_rfl) (dec_cons (by kernel_rfl) (dec_cons (by kernel_rfl) (dec_nil _)))))) (by kernel_rfl)
theorem parse_at10 : FnAt Try.prog parse (txS 10) := hok_at E.hTexts30_ok parse (txS 10) _ [⟨GR, gr10⟩, ⟨.int .i64, (0 : Int)⟩, ⟨.int .i64, (0 : Int)⟩, ⟨.int .i64, (0 : Int)⟩] (List.mem_singleton_self _) (by kernel_rfl) (by kernel_rfl) (by kernel_rfl) (by kernel_rfl) (by kernel_rfl) (by kernel_rfl) (by kernel_rfl) (by kernel_rfl) (outIs_of rfl rfl (dec_cons (by kernel_rfl) (dec_cons (by kernel_rfl) (dec_cons (by kernel_rfl) (dec_cons (by kernel_rfl) (dec_nil _)))))) (by kernel_rfl)
theorem parse_at11 : FnAt Try.prog parse (txS 11) := hok_at E.hTexts32_ok parse (txS 11) _ [⟨GR, gr11⟩, ⟨.int .i64, (0 : Int)⟩, ⟨.int .i64, (0 : Int)⟩, ⟨.int .i64, (0 : Int)⟩] (List.mem_singleton_self _) (by kernel_rfl) (by kernel_rfl) (by kernel_rfl) (by kernel_rfl) (by kernel_rfl) (by kernel_rfl) (by kernel_rfl) (by kernel_rfl) (outIs_of rfl rfl (dec_cons (by kernel_rfl) (dec_cons (by kernel_rfl) (dec_cons (by kernel_rfl) (dec_cons (by kernel_rfl) (dec_nil _)))))) (by kernel_rfl)
theorem parse_at12 : FnAt Try.prog parse (txS 12) := hok_at E.hTexts33_ok parse (txS 12) _ [⟨GR, gr12⟩, ⟨.int .i64, (0 : Int)⟩, ⟨.int .i64, (0 : Int)⟩, ⟨.int .i64, (0 : Int)⟩] (List.mem_singleton_self _) (by kernel_rfl) (by kernel_rfl) (by kernel_rfl) (by kernel_rfl) (by kernel_rfl) (by kernel_rfl) (by kernel_rfl) (by kernel_rfl) (outIs_of rfl rfl (dec_cons (by kernel_rfl) (dec_cons (by kernel_rfl) (dec_cons (by kernel_rfl) (dec_cons (by kernel_rfl) (dec_nil _)))))) (by kernel_rfl)
theorem parse_at13 : FnAt Try.prog parse (txS 13) := hok_at E.hTexts34_ok parse (txS 13) _ [⟨GR, gr13⟩, ⟨.int .i64, (0 : Int)⟩, ⟨.int .i64, (0 : Int)⟩, ⟨.int .i64, (0 : Int)⟩] (List.mem_singleton_self _) (by kernel_rfl) (by kernel_rfl) (by kernel_rfl) (by kernel_rfl) (by kernel_rfl) (by kernel_rfl) (by kernel_rfl) (by kernel_rfl) (outIs_of rfl rfl (dec_cons (by kernel_rfl) (dec_cons (by kernel_rfl) (dec_cons (by kernel_rfl) (dec_cons (by kernel_rfl) (dec_nil _)))))) (by kernel_rfl)
theorem parse_at14 : FnAt Try.prog parse (txS 14) := hok_at E.hTexts35_ok parse (txS 14) _ [⟨GR, gr14⟩, ⟨.int .i64, (0 : Int)⟩, ⟨.int .i64, (0 : Int)⟩, ⟨.int .i64, (0 : Int)⟩] (List.mem_singleton_self _) (by kernel_rfl) (by kernel_rfl) (by kernel_rfl) (by kernel_rfl) (by kernel_rfl) (by kernel_rfl) (by kernel_rfl) (by kernel_rfl) (outIs_of rfl rfl (dec_cons (by kernel_rfl) (dec_cons (by kernel_rfl) (dec_cons (by kernel_rfl) (dec_cons (by kernel_rfl) (dec_nil _)))))) (by kernel_rfl)
theorem parse_at15 : FnAt Try.prog parse (txS 15) := hok_at E.hTexts36_ok parse (txS 15) _ [⟨GR, gr15⟩, ⟨.int .i64, (0 : Int)⟩, ⟨.int .i64, (0 : Int)⟩, ⟨.int .i64, (0 : Int)⟩] (List.mem_singleton_self _) (by kernel_rfl) (by kernel_rfl) (by kernel_rfl) (by kernel_rfl) (by kernel_rfl) (by kernel_rfl) (by kernel_rfl) (by kernel_rfl) (outIs_of rfl rfl (dec_cons (by kernel_rfl) (dec_cons (by kernel_rfl) (dec_cons (by kernel_rfl) (dec_cons (by kernel_rfl) (dec_nil _)))))) (by kernel_rfl)
theorem parse_at16 : FnAt Try.prog parse (txS 16) := hok_at E.hTexts37_ok parse (txS 16) _ [⟨GR, gr16⟩, ⟨.int .i64, (0 : Int)⟩, ⟨.int .i64, (0 : Int)⟩, ⟨.int .i64, (0 : Int)⟩] (List.mem_singleton_self _) (by kernel_rfl) (by kernel_rfl) (by kernel_rfl) (by kernel_rfl) (by kernel_rfl) (by kernel_rfl) (by kernel_rfl) (by kernel_rfl) (outIs_of rfl rfl (dec_cons (by kernel_rfl) (dec_cons (by kernel_rfl) (dec_cons (by kernel_rfl) (dec_cons (by kernel_rfl) (dec_nil _)))))) (by kernel_rfl)
theorem parse_at17 : FnAt Try.prog parse (txS 17) := hok_at E.hTexts38_ok parse (txS 17) _ [⟨GR, gr17⟩, ⟨.int .i64, (0 : Int)⟩, ⟨.int .i64, (0 : Int)⟩, ⟨.int .i64, (0 : Int)⟩] (List.mem_singleton_self _) (by kernel_rfl) (by kernel_rfl) (by kernel_rfl) (by kernel_rfl) (by kernel_rfl) (by kernel_rfl) (by kernel_rfl) (by kernel_rfl) (outIs_of rfl rfl (dec_cons (by kernel_rfl) (dec_cons (by kernel_rfl) (dec_cons (by kernel_rfl) (dec_cons (by kernel_rfl) (dec_nil _)))))) (by kernel_rfl)
theorem parse_at18 : FnAt Try.prog parse (txS 18) := hok_at E.hTexts39_ok parse (txS 18) _ [⟨GR, gr18⟩, ⟨.int .i64, (0 : Int)⟩, ⟨.int .i64, (0 : Int)⟩, ⟨.int .i64, (0 : Int)⟩] (List.mem_singleton_self _) (by kernel_rfl) (by kernel_rfl) (by kernel_rfl) (by kernel_rfl) (by kernel_rfl) (by kernel_rfl) (by kernel_rfl) (by kernel_rfl) (outIs_of rfl rfl (dec_cons (by kernel_rfl) (dec_cons (by kernel_rfl) (dec_cons (by kernel_rfl) (dec_cons (by kernel_rfl) (dec_nil _)))))) (by kernel_rfl)
theorem parse_at19 : FnAt Try.prog parse (txS 19) := hok_at E.hTexts40_ok parse (txS 19) _ [⟨GR, gr19⟩, ⟨.int .i64, (0 : Int)⟩, ⟨.int .i64, (0 : Int)⟩, ⟨.int .i64, (0 : Int)⟩] (List.mem_singleton_self _) (by kernel_rfl) (by kernel_rfl) (by kernel_rfl) (by kernel_rfl) (by kernel_rfl) (by kernel_rfl) (by kernel_rfl) (by kernel_rfl) (outIs_of rfl rfl (dec_cons (by kernel_rfl) (dec_cons (by kernel_rfl) (dec_cons (by kernel_rfl) (dec_cons (by kernel_rfl) (dec_nil _)))))) (by kernel_rfl)
theorem parse_at20 : FnAt Try.prog parse (txS 20) := hok_at E.hTexts41_ok parse (txS 20) _ [⟨GR, gr20⟩, ⟨.int .i64, (0 : Int)⟩, ⟨.int .i64, (0 : Int)⟩, ⟨.int .i64, (0 : Int)⟩] (List.mem_singleton_self _) (by kernel_rfl) (by kernel_rfl) (by kernel_rfl) (by kernel_rfl) (by kernel_rfl) (by kernel_rfl) (by kernel_rfl) (by kernel_rfl) (outIs_of rfl rfl (dec_cons (by kernel_rfl) (dec_cons (by kernel_rfl) (dec_cons (by kernel_rfl) (dec_cons (by kernel_rfl) (dec_nil _)))))) (by kernel_rfl)
theorem parse_at21 : FnAt Try.prog parse (txS 21) := hok_at E.hTexts42_ok parse (txS 21) _ [⟨GR, gr21⟩, ⟨.int .i64, (0 : Int)⟩, ⟨.int .i64, (0 : Int)⟩, ⟨.int .i64, (0 : Int)⟩] (List.mem_singleton_self _) (by kernel_rfl) (by kernel_rfl) (by kernel_rfl) (by kernel_rfl) (by kernel_rfl) (by kernel_rfl) (by kernel_rfl) (by kernel_rfl) (outIs_of rfl rfl (dec_cons (by kernel_rfl) (dec_cons (by kernel_rfl) (dec_cons (by kernel_rfl) (dec_cons (by kernel_rfl) (dec_nil _)))))) (by kernel_rfl)
theorem parse_at22 : FnAt Try.prog parse (txS 22) := hok_at E.hTexts43_ok parse (txS 22) _ [⟨GR, gr22⟩, ⟨.int .i64, (0 : Int)⟩, ⟨.int .i64, (0 : Int)⟩, ⟨.int .i64, (0 : Int)⟩] (List.mem_singleton_self _) (by kernel_rfl) (by kernel_rfl) (by kernel_rfl) (by kernel_rfl) (by kernel_rfl) (by kernel_rfl) (by kernel_rfl) (by kernel_rfl) (outIs_of rfl rfl (dec_cons (by kernel_rfl) (dec_cons (by kernel_rfl) (dec_cons (by kernel_rfl) (dec_cons (by kernel_rfl) (dec_nil _)))))) (by kernel_rfl)
theorem parse_at23 : FnAt Try.prog parse (txS 23) := hok_at E.hTexts44_ok parse (txS 23) _ [⟨GR, gr23⟩, ⟨.int .i64, (0 : Int)⟩, ⟨.int .i64, (0 : Int)⟩, ⟨.int .i64, (0 : Int)⟩] (List.mem_singleton_self _) (by kernel_rfl) (by kernel_rfl) (by kernel_rfl) (by kernel_rfl) (by kernel_rfl) (by kernel_rfl) (by kernel_rfl) (by kernel_rfl) (outIs_of rfl rfl (dec_cons (by kernel_rfl) (dec_cons (by kernel_rfl) (dec_cons (by kernel_rfl) (dec_cons (by kernel_rfl) (dec_nil _)))))) (by kernel_rfl)
theorem parse_at24 : FnAt Try.prog parse (txS 24) := hok_at E.hTexts45_ok parse (txS 24) _ [⟨GR, gr24⟩, ⟨.int .i64, (0 : Int)⟩, ⟨.int .i64, (0 : Int)⟩, ⟨.int .i64, (0 : Int)⟩] (List.mem_singleton_self _) (by kernel_rfl) (by kernel_rfl) (by kernel_rfl) (by kernel_rfl) (by kernel_rfl) (by kernel_rfl) (by kernel_rfl) (by kernel_rfl) (outIs_of rfl rfl (dec_cons (by kernel_rfl) (dec_cons (by kernel_rfl) (dec_cons (by kernel_rfl) (dec_cons (by kernel_rfl) (dec_nil _)))))) (by kernel_rfl)
theorem parse_at25 : FnAt Try.prog parse (txS 25) := hok_at E.hTexts46_ok parse (txS 25) _ [⟨GR, gr25⟩, ⟨.int .i64, (0 : Int)⟩, ⟨.int .i64, (0 : Int)⟩, ⟨.int .i64, (0 : Int)⟩] (List.mem_singleton_self _) (by kernel_rfl) (by kernel_rfl) (by kernel_rfl) (by kernel_rfl) (by kernel_rfl) (by kernel_rfl) (by kernel_rfl) (by kernel_rfl) (outIs_of rfl rfl (dec_cons (by kernel_rfl) (dec_cons (by kernel_rfl) (dec_cons (by kernel_rfl) (dec_cons (by kernel_rfl) (dec_nil _)))))) (by kernel_rfl)
theorem parse_at26 : FnAt Try.prog parse (txS 26) := hok_at E.hTexts47_ok parse (txS 26) _ [⟨GR, gr26⟩, ⟨.int .i64, (0 : Int)⟩, ⟨.int .i64, (0 : Int)⟩, ⟨.int .i64, (0 : Int)⟩] (List.mem_singleton_self _) (by kernel_rfl) (by kernel_rfl) (by kernel_rfl) (by kernel_rfl) (by kernel_rfl) (by kernel_rfl) (by kernel_rfl) (by kernel_rfl) (outIs_of rfl rfl (dec_cons (by kernel_rfl) (dec_cons (by kernel_rfl) (dec_cons (by kernel_rfl) (dec_cons (by kernel_rfl) (dec_nil _)))))) (by kernel_rfl)
theorem parse_at : ∀ k, k < 27 → FnAt Try.prog parse (txS k)
  | 0, _ => parse_at0
  | 1, _ => parse_at1
  | 2, _ => parse_at2
  | 3, _ => parse_at3
  | 4, _ => parse_at4
  | 5, _ => parse_at5
  | 6, _ => parse_at6
  | 7, _ => parse_at7
  | 8, _ => parse_at8
  | 9, _ => parse_at9
  | 10, _ => parse_at10
  | 11, _ => parse_at11
  | 12, _ => parse_at12
  | 13, _ => parse_at13
  | 14, _ => parse_at14
  | 15, _ => parse_at15
  | 16, _ => parse_at16
  | 17, _ => parse_at17
  | 18, _ => parse_at18
  | 19, _ => parse_at19
  | 20, _ => parse_at20
  | 21, _ => parse_at21
  | 22, _ => parse_at22
  | 23, _ => parse_at23
  | 24, _ => parse_at24
  | 25, _ => parse_at25
  | 26, _ => parse_at26
  | k + 27, h => absurd h (by omega)
theorem parse.fn : FnOk Try.prog parse := fn_at fun s hs => by
  obtain ⟨k, hk, rfl⟩ := hs
  exact parse_at k hk
noncomputable def wakes : Face := ⟨20, [], fun _ => none, [⟨false, [.v .bool], fun _ => true, fun _ => none⟩]⟩
theorem wakes.fn : FnOk Try.prog wakes := fn_at fun s _ => hok_at E.hTexts48_ok wakes () _ [⟨.bool, true⟩] (List.mem_singleton_self _) (by kernel_rfl) (by kernel_rfl) (by kernel_rfl) (by kernel_rfl) (by kernel_rfl) (by kernel_rfl) (by kernel_rfl) (by kernel_rfl) (outIs_of rfl rfl (dec_cons (by kernel_rfl) (dec_nil _))) (by kernel_rfl)
end Go.Proofs.Ytdmljeaigjfenaa.D

namespace Go.Proofs.Ytdmljeaigjfenaa.D
open Go Go.EV Go.TL Go.Proofs
set_option linter.unusedVariables false
set_option linter.unusedSimpArgs false
set_option maxRecDepth 100000
theorem puts1_len : ∀ (n : Nat) (i : Int) (g : Gr), (puts1 n i g).1 = g.1 ∧ (puts1 n i g).2.1 = g.2.1 ∧ (puts1 n i g).2.2.length ≤ g.2.2.length + n
  | 0, _, g => ⟨rfl, rfl, Nat.le_refl _⟩
  | n + 1, i, g => by
    obtain ⟨h1, h2, h3⟩ := puts1_len n (i + 1) (putS g (100 + i) [i])
    obtain ⟨p1, p2, p3⟩ := putS_len g (100 + i) [i]
    exact ⟨h1.trans p1, h2.trans p2, by rw [puts1]; omega⟩
noncomputable def any  : Face := ⟨27, [.v RAW], fun r => none,
  [⟨false, [.v GR], fun r => anyS r, fun r => none⟩]⟩
noncomputable def any.g  (r : Int × Int × Int × Int × List (List Int) × ByteArray) : Prop := GoodFA Try.prog (cfOf [within]) [(1000003, any.R3), (0, any.L0), (2, any.L2)] 1000 any r
noncomputable def any.q3 : Prop := (True ∧ (0 : Int) < (3 : Int) ∧ (3 : Int) ≤ (9223372036854775807 : Int)) ∧ (0 : Int) < (3 : Int) ∧ (3 : Int) ≤ (9223372036854775807 : Int)
noncomputable def any.q0 (r : Int × Int × Int × Int × List (List Int) × ByteArray) : Prop := any.q3 ∧ (0 : Int) ≤ IntKind.i64.wrap ((1 : Int) + r.2.1 % (3 : Int)) ∧ IntKind.i64.wrap ((1 : Int) + r.2.1 % (3 : Int)) ≤ (3 : Int) ∧ (0 : Int) ≤ IntKind.i64.wrap ((1 : Int) + r.2.2.1 % (3 : Int)) ∧ IntKind.i64.wrap ((1 : Int) + r.2.2.1 % (3 : Int)) ≤ (3 : Int)
noncomputable def any.q4 (r : Int × Int × Int × Int × List (List Int) × ByteArray) : Prop := (any.q0 r) ∧ (List.take (IntKind.i64.wrap ((1 : Int) + r.2.1 % (3 : Int))).toNat [bA, bB, bC]).length * (16 : Nat) ≤ (140737488355328 : Nat)
noncomputable def any.q2 (r : Int × Int × Int × Int × List (List Int) × ByteArray) : Prop := (any.q4 r) ∧ (List.take (IntKind.i64.wrap ((1 : Int) + r.2.2.1 % (3 : Int))).toNat [bS, bUA, bUB]).length * (16 : Nat) ≤ (140737488355328 : Nat)
noncomputable def any.q1 (r : Int × Int × Int × Int × List (List Int) × ByteArray) : Prop := (any.q2 r) ∧ (0 : Int) ≤ (0 : Int) ∧ (0 : Int) ≤ IntKind.i64.wrap ((1 : Int) + r.2.2.1 % (3 : Int)) ∧ IntKind.i64.wrap ((1 : Int) + r.2.2.1 % (3 : Int)) ≤ (9 : Int) ∧ (1 : Nat) ≤ (List.take (IntKind.i64.wrap ((1 : Int) + r.2.1 % (3 : Int))).toNat [bA, bB, bC]).length ∧ (List.take (IntKind.i64.wrap ((1 : Int) + r.2.1 % (3 : Int))).toNat [bA, bB, bC]).length ≤ (99 : Nat) ∧ (List.take (IntKind.i64.wrap ((1 : Int) + r.2.2.1 % (3 : Int))).toNat [bS, bUA, bUB]).length ≤ (99 : Nat) ∧ (0 : Nat) ≤ Int.toNat (0 : Int)
noncomputable def any.T (r : Int × Int × Int × Int × List (List Int) × ByteArray) : Prop := (True ∧ ¬((0 : Int) < (3 : Int) ∧ (3 : Int) ≤ (9223372036854775807 : Int)) → False) ∧ ((True ∧ (0 : Int) < (3 : Int) ∧ (3 : Int) ≤ (9223372036854775807 : Int)) ∧ ¬((0 : Int) < (3 : Int) ∧ (3 : Int) ≤ (9223372036854775807 : Int)) → False) ∧ (any.q3 ∧ ¬((0 : Int) ≤ IntKind.i64.wrap ((1 : Int) + r.2.1 % (3 : Int)) ∧ IntKind.i64.wrap ((1 : Int) + r.2.1 % (3 : Int)) ≤ (3 : Int) ∧ (0 : Int) ≤ IntKind.i64.wrap ((1 : Int) + r.2.2.1 % (3 : Int)) ∧ IntKind.i64.wrap ((1 : Int) + r.2.2.1 % (3 : Int)) ≤ (3 : Int)) → False) ∧ ((any.q2 r) ∧ ¬((0 : Int) ≤ (0 : Int) ∧ (0 : Int) ≤ IntKind.i64.wrap ((1 : Int) + r.2.2.1 % (3 : Int)) ∧ IntKind.i64.wrap ((1 : Int) + r.2.2.1 % (3 : Int)) ≤ (9 : Int) ∧ (1 : Nat) ≤ (List.take (IntKind.i64.wrap ((1 : Int) + r.2.1 % (3 : Int))).toNat [bA, bB, bC]).length ∧ (List.take (IntKind.i64.wrap ((1 : Int) + r.2.1 % (3 : Int))).toNat [bA, bB, bC]).length ≤ (99 : Nat) ∧ (List.take (IntKind.i64.wrap ((1 : Int) + r.2.2.1 % (3 : Int))).toNat [bS, bUA, bUB]).length ≤ (99 : Nat) ∧ (0 : Nat) ≤ Int.toNat (0 : Int)) → False) ∧ ((any.q1 r) ∧ ¬((0 : Int) ≤ (0 : Int) ∧ (0 : Int) ≤ (5 : Int) ∧ (1 : Int) ≤ IntKind.i64.wrap ((1 : Int) + r.2.2.1 % (3 : Int)) ∧ IntKind.i64.wrap ((1 : Int) + r.2.2.1 % (3 : Int)) ≤ (9 : Int) ∧ (1 : Nat) ≤ List.length (puts1 (IntKind.i64.wrap ((1 : Int) + r.2.2.1 % (3 : Int)) - (0 : Int)).toNat (0 : Int) (List.take (IntKind.i64.wrap ((1 : Int) + r.2.1 % (3 : Int))).toNat [bA, bB, bC], List.take (IntKind.i64.wrap ((1 : Int) + r.2.2.1 % (3 : Int))).toNat [bS, bUA, bUB], ([] : List (Int × List Int)))).1 ∧ List.length (puts1 (IntKind.i64.wrap ((1 : Int) + r.2.2.1 % (3 : Int)) - (0 : Int)).toNat (0 : Int) (List.take (IntKind.i64.wrap ((1 : Int) + r.2.1 % (3 : Int))).toNat [bA, bB, bC], List.take (IntKind.i64.wrap ((1 : Int) + r.2.2.1 % (3 : Int))).toNat [bS, bUA, bUB], ([] : List (Int × List Int)))).1 ≤ (99 : Nat) ∧ List.length (puts1 (IntKind.i64.wrap ((1 : Int) + r.2.2.1 % (3 : Int)) - (0 : Int)).toNat (0 : Int) (List.take (IntKind.i64.wrap ((1 : Int) + r.2.1 % (3 : Int))).toNat [bA, bB, bC], List.take (IntKind.i64.wrap ((1 : Int) + r.2.2.1 % (3 : Int))).toNat [bS, bUA, bUB], ([] : List (Int × List Int)))).2.1 ≤ (99 : Nat) ∧ List.length (puts1 (IntKind.i64.wrap ((1 : Int) + r.2.2.1 % (3 : Int)) - (0 : Int)).toNat (0 : Int) (List.take (IntKind.i64.wrap ((1 : Int) + r.2.1 % (3 : Int))).toNat [bA, bB, bC], List.take (IntKind.i64.wrap ((1 : Int) + r.2.2.1 % (3 : Int))).toNat [bS, bUA, bUB], ([] : List (Int × List Int)))).2.2 ≤ (20 : Nat) + Int.toNat (0 : Int)) → False) ∧ ((any.q1 r) ∧ (0 : Int) ≤ (0 : Int) ∧ (0 : Int) ≤ (5 : Int) ∧ (1 : Int) ≤ IntKind.i64.wrap ((1 : Int) + r.2.2.1 % (3 : Int)) ∧ IntKind.i64.wrap ((1 : Int) + r.2.2.1 % (3 : Int)) ≤ (9 : Int) ∧ (1 : Nat) ≤ List.length (puts1 (IntKind.i64.wrap ((1 : Int) + r.2.2.1 % (3 : Int)) - (0 : Int)).toNat (0 : Int) (List.take (IntKind.i64.wrap ((1 : Int) + r.2.1 % (3 : Int))).toNat [bA, bB, bC], List.take (IntKind.i64.wrap ((1 : Int) + r.2.2.1 % (3 : Int))).toNat [bS, bUA, bUB], ([] : List (Int × List Int)))).1 ∧ List.length (puts1 (IntKind.i64.wrap ((1 : Int) + r.2.2.1 % (3 : Int)) - (0 : Int)).toNat (0 : Int) (List.take (IntKind.i64.wrap ((1 : Int) + r.2.1 % (3 : Int))).toNat [bA, bB, bC], List.take (IntKind.i64.wrap ((1 : Int) + r.2.2.1 % (3 : Int))).toNat [bS, bUA, bUB], ([] : List (Int × List Int)))).1 ≤ (99 : Nat) ∧ List.length (puts1 (IntKind.i64.wrap ((1 : Int) + r.2.2.1 % (3 : Int)) - (0 : Int)).toNat (0 : Int) (List.take (IntKind.i64.wrap ((1 : Int) + r.2.1 % (3 : Int))).toNat [bA, bB, bC], List.take (IntKind.i64.wrap ((1 : Int) + r.2.2.1 % (3 : Int))).toNat [bS, bUA, bUB], ([] : List (Int × List Int)))).2.1 ≤ (99 : Nat) ∧ List.length (puts1 (IntKind.i64.wrap ((1 : Int) + r.2.2.1 % (3 : Int)) - (0 : Int)).toNat (0 : Int) (List.take (IntKind.i64.wrap ((1 : Int) + r.2.1 % (3 : Int))).toNat [bA, bB, bC], List.take (IntKind.i64.wrap ((1 : Int) + r.2.2.1 % (3 : Int))).toNat [bS, bUA, bUB], ([] : List (Int × List Int)))).2.2 ≤ (20 : Nat) + Int.toNat (0 : Int) → True ∧ puts2 (IntKind.i64.wrap ((1 : Int) + r.2.2.1 % (3 : Int))) (0 : Int) (puts1 (IntKind.i64.wrap ((1 : Int) + r.2.2.1 % (3 : Int)) - (0 : Int)).toNat (0 : Int) (List.take (IntKind.i64.wrap ((1 : Int) + r.2.1 % (3 : Int))).toNat [bA, bB, bC], List.take (IntKind.i64.wrap ((1 : Int) + r.2.2.1 % (3 : Int))).toNat [bS, bUA, bUB], ([] : List (Int × List Int)))) (List.drop (Int.toNat (0 : Int)) (List.take (5 : Nat) r.2.2.2.2.1)) = anyS r) ∧ ((any.q4 r) ∧ ¬(List.take (IntKind.i64.wrap ((1 : Int) + r.2.2.1 % (3 : Int))).toNat [bS, bUA, bUB]).length * (16 : Nat) ≤ (140737488355328 : Nat) → False) ∧ ((any.q0 r) ∧ ¬(List.take (IntKind.i64.wrap ((1 : Int) + r.2.1 % (3 : Int))).toNat [bA, bB, bC]).length * (16 : Nat) ≤ (140737488355328 : Nat) → False) ∧ (True)
theorem any.eq  (r : Int × Int × Int × Int × List (List Int) × ByteArray) : any.g  r = any.T  r := by kernel_rfl
theorem any.ok  (r : Int × Int × Int × Int × List (List Int) × ByteArray) : any.T  r := by
  have e1 := Int.emod_nonneg r.2.1 (show (3 : Int) ≠ 0 by omega)
  have e2 := Int.emod_lt_of_pos r.2.1 (show (0 : Int) < 3 by omega)
  have e3 := Int.emod_nonneg r.2.2.1 (show (3 : Int) ≠ 0 by omega)
  have e4 := Int.emod_lt_of_pos r.2.2.1 (show (0 : Int) < 3 by omega)
  delta any.T any.q3 any.q0 any.q4 any.q2 any.q1
  rw [wrapI64 (x := 1 + r.2.1 % 3) (by omega) (by omega), wrapI64 (x := 1 + r.2.2.1 % 3) (by omega) (by omega)]
  simp only [Int.sub_zero, show Int.toNat 0 = 0 from rfl, List.drop_zero]
  rw [anyS]
  have hT : ([bA, bB, bC].take (1 + r.2.1 % 3).toNat).length = (1 + r.2.1 % 3).toNat := by rw [List.length_take]; show min _ 3 = _; omega
  have hN : ([bS, bUA, bUB].take (1 + r.2.2.1 % 3).toNat).length = (1 + r.2.2.1 % 3).toNat := by rw [List.length_take]; show min _ 3 = _; omega
  obtain ⟨p1, p2, p3⟩ := puts1_len (1 + r.2.2.1 % 3).toNat 0 ([bA, bB, bC].take (1 + r.2.1 % 3).toNat, [bS, bUA, bUB].take (1 + r.2.2.1 % 3).toNat, [])
  rw [p1, p2]
  generalize puts1 (1 + r.2.2.1 % 3).toNat 0 ([bA, bB, bC].take (1 + r.2.1 % 3).toNat, [bS, bUA, bUB].take (1 + r.2.2.1 % 3).toNat, []) = g at *
  simp only [hT, hN, List.length_nil] at *
  ((repeat' (first | exact trivial | apply And.intro)) <;> (intro hw; (try (simp only [true_and, and_true, decide_eq_true_eq, decide_eq_false_iff_not, beq_iff_eq, bne_iff_ne, beq_eq_false_iff_ne, bne_eq_false_iff_eq, ne_eq, Bool.not_eq_true, Bool.not_eq_false, not_true_eq_false, not_false_eq_true, Bool.not_eq_eq_eq_not, Bool.not_true, Bool.not_false, forall_const, imp_self, Bool.true_eq_false, Bool.false_eq_true, reduceCtorEq] at hw)); (try first | (exfalso; omega) | exact ⟨trivial, rfl⟩ | exact (hw hx).elim | exact (hw.2 hx).elim)))
  exact ⟨trivial, trivial⟩
theorem any.fn   : FnOk Try.prog any := fn_evalH (l := [(1000003, any.R3), (0, any.L0), (2, any.L2)]) (lf := 1000) (fun _ => cfOf_ok (fns_cons within.fn (fns_nil _))) _ (lps_cons (any.R3.lp) (lps_cons (any.L0.lp) (lps_cons (any.L2.lp) (lps_nil _ _)))) (by kernel_rfl) (fun r hx => Hid.of (any.eq  r) (any.ok  r))
end Go.Proofs.Ytdmljeaigjfenaa.D

namespace Go.Proofs.Ytdmljeaigjfenaa.D
open Go Go.EV Go.TL Go.Proofs
set_option linter.unusedVariables false
set_option linter.unusedSimpArgs false
set_option maxRecDepth 100000
noncomputable def texts  : Face := ⟨53, [], fun _ => none,
  [⟨false, [.v (.sl .str)], fun _ => txL, fun _ => none⟩]⟩
noncomputable def texts.g   : Prop := GoodFA Try.prog (cfOf []) [] 1000 texts ()
noncomputable def texts.T  : Prop := (True →
  True ∧ [ByteArray.mk #[(83 : UInt8), (58 : UInt8), (32 : UInt8), (97 : UInt8), (10 : UInt8)], ByteArray.mk #[(83 : UInt8), (58 : UInt8), (32 : UInt8), (97 : UInt8), (32 : UInt8), (83 : UInt8), (32 : UInt8), (124 : UInt8), (32 : UInt8), (98 : UInt8), (10 : UInt8)], ByteArray.mk #[(83 : UInt8), (58 : UInt8), (32 : UInt8), (83 : UInt8), (32 : UInt8), (97 : UInt8), (32 : UInt8), (124 : UInt8), (32 : UInt8), (98 : UInt8), (10 : UInt8)], ByteArray.mk #[(83 : UInt8), (58 : UInt8), (32 : UInt8), (97 : UInt8), (32 : UInt8), (83 : UInt8), (32 : UInt8), (98 : UInt8), (32 : UInt8), (124 : UInt8), (10 : UInt8)], ByteArray.mk #[(83 : UInt8), (58 : UInt8), (32 : UInt8), (65 : UInt8), (32 : UInt8), (65 : UInt8), (10 : UInt8), (65 : UInt8), (58 : UInt8), (32 : UInt8), (97 : UInt8), (32 : UInt8), (65 : UInt8), (32 : UInt8), (124 : UInt8), (32 : UInt8), (98 : UInt8), (10 : UInt8)], ByteArray.mk #[(69 : UInt8), (58 : UInt8), (32 : UInt8), (69 : UInt8), (32 : UInt8), (112 : UInt8), (32 : UInt8), (84 : UInt8), (32 : UInt8), (124 : UInt8), (32 : UInt8), (84 : UInt8), (10 : UInt8), (84 : UInt8), (58 : UInt8), (32 : UInt8), (84 : UInt8), (32 : UInt8), (109 : UInt8), (32 : UInt8), (70 : UInt8), (32 : UInt8), (124 : UInt8), (32 : UInt8), (70 : UInt8), (10 : UInt8), (70 : UInt8), (58 : UInt8), (32 : UInt8), (105 : UInt8), (32 : UInt8), (124 : UInt8), (32 : UInt8), (108 : UInt8), (32 : UInt8), (69 : UInt8), (32 : UInt8), (114 : UInt8), (10 : UInt8)], ByteArray.mk #[(83 : UInt8), (58 : UInt8), (32 : UInt8), (65 : UInt8), (32 : UInt8), (97 : UInt8), (32 : UInt8), (124 : UInt8), (32 : UInt8), (98 : UInt8), (32 : UInt8), (65 : UInt8), (32 : UInt8), (99 : UInt8), (32 : UInt8), (124 : UInt8), (32 : UInt8), (100 : UInt8), (32 : UInt8), (99 : UInt8), (32 : UInt8), (124 : UInt8), (32 : UInt8), (98 : UInt8), (32 : UInt8), (100 : UInt8), (32 : UInt8), (97 : UInt8), (10 : UInt8), (65 : UInt8), (58 : UInt8), (32 : UInt8), (100 : UInt8), (10 : UInt8)], ByteArray.mk #[(83 : UInt8), (58 : UInt8), (32 : UInt8), (97 : UInt8), (32 : UInt8), (65 : UInt8), (32 : UInt8), (100 : UInt8), (32 : UInt8), (124 : UInt8), (32 : UInt8), (98 : UInt8), (32 : UInt8), (66 : UInt8), (32 : UInt8), (100 : UInt8), (32 : UInt8), (124 : UInt8), (32 : UInt8), (97 : UInt8), (32 : UInt8), (66 : UInt8), (32 : UInt8), (101 : UInt8), (32 : UInt8), (124 : UInt8), (32 : UInt8), (98 : UInt8), (32 : UInt8), (65 : UInt8), (32 : UInt8), (101 : UInt8), (10 : UInt8), (65 : UInt8), (58 : UInt8), (32 : UInt8), (99 : UInt8), (10 : UInt8), (66 : UInt8), (58 : UInt8), (32 : UInt8), (99 : UInt8), (10 : UInt8)], ByteArray.mk #[(83 : UInt8), (58 : UInt8), (32 : UInt8), (65 : UInt8), (32 : UInt8), (66 : UInt8), (10 : UInt8), (65 : UInt8), (58 : UInt8), (32 : UInt8), (97 : UInt8), (32 : UInt8), (65 : UInt8), (32 : UInt8), (124 : UInt8), (10 : UInt8), (66 : UInt8), (58 : UInt8), (32 : UInt8), (98 : UInt8), (32 : UInt8), (66 : UInt8), (32 : UInt8), (124 : UInt8), (10 : UInt8)], ByteArray.mk #[(83 : UInt8), (58 : UInt8), (32 : UInt8), (76 : UInt8), (32 : UInt8), (113 : UInt8), (32 : UInt8), (82 : UInt8), (32 : UInt8), (124 : UInt8), (32 : UInt8), (82 : UInt8), (10 : UInt8), (76 : UInt8), (58 : UInt8), (32 : UInt8), (109 : UInt8), (32 : UInt8), (82 : UInt8), (32 : UInt8), (124 : UInt8), (32 : UInt8), (105 : UInt8), (10 : UInt8), (82 : UInt8), (58 : UInt8), (32 : UInt8), (76 : UInt8), (10 : UInt8)], ByteArray.mk #[(83 : UInt8), (58 : UInt8), (32 : UInt8), (97 : UInt8), (32 : UInt8), (85 : UInt8), (32 : UInt8), (124 : UInt8), (32 : UInt8), (98 : UInt8), (10 : UInt8), (85 : UInt8), (58 : UInt8), (32 : UInt8), (85 : UInt8), (32 : UInt8), (97 : UInt8), (10 : UInt8)], ByteArray.mk #[(83 : UInt8), (58 : UInt8), (32 : UInt8), (97 : UInt8), (32 : UInt8), (84 : UInt8), (32 : UInt8), (124 : UInt8), (32 : UInt8), (98 : UInt8), (10 : UInt8), (84 : UInt8), (58 : UInt8), (32 : UInt8), (98 : UInt8), (32 : UInt8), (83 : UInt8), (32 : UInt8), (124 : UInt8), (32 : UInt8), (97 : UInt8), (10 : UInt8), (86 : UInt8), (58 : UInt8), (32 : UInt8), (97 : UInt8), (32 : UInt8), (97 : UInt8), (10 : UInt8)], ByteArray.mk #[(83 : UInt8), (58 : UInt8), (10 : UInt8), (84 : UInt8), (58 : UInt8), (32 : UInt8), (97 : UInt8), (10 : UInt8)], ByteArray.mk #[(83 : UInt8), (58 : UInt8), (32 : UInt8), (65 : UInt8), (32 : UInt8), (98 : UInt8), (10 : UInt8), (65 : UInt8), (58 : UInt8), (32 : UInt8), (97 : UInt8), (32 : UInt8), (124 : UInt8), (32 : UInt8), (66 : UInt8), (10 : UInt8), (66 : UInt8), (58 : UInt8), (10 : UInt8)], ByteArray.mk #[(83 : UInt8), (58 : UInt8), (32 : UInt8), (108 : UInt8), (32 : UInt8), (83 : UInt8), (32 : UInt8), (114 : UInt8), (32 : UInt8), (83 : UInt8), (32 : UInt8), (124 : UInt8), (10 : UInt8)], ByteArray.mk #[(83 : UInt8), (58 : UInt8), (32 : UInt8), (97 : UInt8), (32 : UInt8), (65 : UInt8), (10 : UInt8), (65 : UInt8), (58 : UInt8), (32 : UInt8), (98 : UInt8), (32 : UInt8), (66 : UInt8), (32 : UInt8), (124 : UInt8), (32 : UInt8), (99 : UInt8), (10 : UInt8), (66 : UInt8), (58 : UInt8), (32 : UInt8), (97 : UInt8), (32 : UInt8), (65 : UInt8), (32 : UInt8), (124 : UInt8), (32 : UInt8), (100 : UInt8), (32 : UInt8), (83 : UInt8), (10 : UInt8)], ByteArray.mk #[(83 : UInt8), (58 : UInt8), (32 : UInt8), (65 : UInt8), (32 : UInt8), (99 : UInt8), (10 : UInt8), (65 : UInt8), (58 : UInt8), (32 : UInt8), (66 : UInt8), (32 : UInt8), (97 : UInt8), (32 : UInt8), (124 : UInt8), (32 : UInt8), (97 : UInt8), (32 : UInt8), (98 : UInt8), (10 : UInt8), (66 : UInt8), (58 : UInt8), (32 : UInt8), (97 : UInt8), (32 : UInt8), (124 : UInt8), (32 : UInt8), (98 : UInt8), (10 : UInt8)], ByteArray.mk #[(83 : UInt8), (58 : UInt8), (32 : UInt8), (83 : UInt8), (32 : UInt8), (83 : UInt8), (32 : UInt8), (124 : UInt8), (32 : UInt8), (97 : UInt8), (10 : UInt8)], ByteArray.mk #[(83 : UInt8), (58 : UInt8), (32 : UInt8), (97 : UInt8), (32 : UInt8), (83 : UInt8), (32 : UInt8), (124 : UInt8), (32 : UInt8), (83 : UInt8), (32 : UInt8), (98 : UInt8), (32 : UInt8), (124 : UInt8), (32 : UInt8), (97 : UInt8), (10 : UInt8)], ByteArray.mk #[(83 : UInt8), (58 : UInt8), (32 : UInt8), (105 : UInt8), (32 : UInt8), (83 : UInt8), (32 : UInt8), (124 : UInt8), (32 : UInt8), (105 : UInt8), (32 : UInt8), (83 : UInt8), (32 : UInt8), (101 : UInt8), (32 : UInt8), (83 : UInt8), (32 : UInt8), (124 : UInt8), (32 : UInt8), (97 : UInt8), (10 : UInt8)], ByteArray.mk #[(83 : UInt8), (58 : UInt8), (32 : UInt8), (65 : UInt8), (32 : UInt8), (124 : UInt8), (32 : UInt8), (66 : UInt8), (10 : UInt8), (65 : UInt8), (58 : UInt8), (32 : UInt8), (97 : UInt8), (10 : UInt8), (66 : UInt8), (58 : UInt8), (32 : UInt8), (97 : UInt8), (10 : UInt8)], ByteArray.mk #[(69 : UInt8), (58 : UInt8), (32 : UInt8), (69 : UInt8), (32 : UInt8), (112 : UInt8), (32 : UInt8), (69 : UInt8), (32 : UInt8), (124 : UInt8), (32 : UInt8), (69 : UInt8), (32 : UInt8), (109 : UInt8), (32 : UInt8), (69 : UInt8), (32 : UInt8), (124 : UInt8), (32 : UInt8), (105 : UInt8), (10 : UInt8)], ByteArray.mk #[(83 : UInt8), (58 : UInt8), (32 : UInt8), (83 : UInt8), (32 : UInt8), (124 : UInt8), (32 : UInt8), (97 : UInt8), (10 : UInt8)], ByteArray.mk #[(83 : UInt8), (58 : UInt8), (32 : UInt8), (65 : UInt8), (32 : UInt8), (83 : UInt8), (32 : UInt8), (124 : UInt8), (32 : UInt8), (97 : UInt8), (10 : UInt8), (65 : UInt8), (58 : UInt8), (10 : UInt8)], ByteArray.mk #[(83 : UInt8), (58 : UInt8), (32 : UInt8), (65 : UInt8), (32 : UInt8), (66 : UInt8), (32 : UInt8), (99 : UInt8), (10 : UInt8), (65 : UInt8), (58 : UInt8), (32 : UInt8), (97 : UInt8), (32 : UInt8), (124 : UInt8), (10 : UInt8), (66 : UInt8), (58 : UInt8), (32 : UInt8), (97 : UInt8), (32 : UInt8), (124 : UInt8), (10 : UInt8)], ByteArray.mk #[(83 : UInt8), (58 : UInt8), (32 : UInt8), (83 : UInt8), (32 : UInt8), (97 : UInt8), (32 : UInt8), (124 : UInt8), (32 : UInt8), (97 : UInt8), (32 : UInt8), (83 : UInt8), (32 : UInt8), (124 : UInt8), (32 : UInt8), (97 : UInt8), (10 : UInt8)], ByteArray.mk #[(83 : UInt8), (58 : UInt8), (32 : UInt8), (65 : UInt8), (32 : UInt8), (97 : UInt8), (32 : UInt8), (124 : UInt8), (32 : UInt8), (66 : UInt8), (32 : UInt8), (97 : UInt8), (10 : UInt8), (65 : UInt8), (58 : UInt8), (32 : UInt8), (98 : UInt8), (10 : UInt8), (66 : UInt8), (58 : UInt8), (32 : UInt8), (98 : UInt8), (10 : UInt8)]] = txL) ∧ (True)
theorem texts.eq   : texts.g  = texts.T  := by kernel_rfl
theorem texts.ok   : texts.T  := by
  exact ⟨fun _ => ⟨trivial, by kernel_rfl⟩, trivial⟩
theorem texts.fn   : FnOk Try.prog texts := fn_evalH (l := []) (lf := 1000) (fun _ => cfOf_ok (fns_nil _)) _ (lps_nil _ _) (by kernel_rfl) (by intro x hx; cases x; exact Hid.of (texts.eq ) (texts.ok ))
theorem tx_len : txL.length = 27 := by kernel_rfl
theorem tx_get (k : Nat) : txL.getD k ByteArray.empty = txS k := rfl
theorem tx_drop : List.drop (Int.toNat 17) (List.take (Int.toNat (txL.length : Int)) txL) = txL.drop 17 := by
  rw [Int.toNat_natCast, List.take_length]; rfl
theorem tx_dlen : (txL.drop 17).length = 10 := by rw [List.length_drop, tx_len]
theorem tx_dget (k : Nat) : (txL.drop 17).getD k ByteArray.empty = txS (17 + k) := by
  rw [List.getD_eq_getElem?_getD, List.getElem?_drop, ← List.getD_eq_getElem?_getD]; rfl
noncomputable def good  : Face := ⟨34, [.v (.int .i64)], fun n => none,
  [⟨false, [.v GR], fun n => grS (n % 17).toNat, fun n => none⟩]⟩
noncomputable def good.g  (n : Int) : Prop := GoodFA Try.prog (cfOf [texts, within, parse]) [] 1000 good n
noncomputable def good.T (n : Int) : Prop := (True ∧ ¬((0 : Int) < (17 : Int) ∧ (17 : Int) ≤ (9223372036854775807 : Int)) → False) ∧ ((((True ∧ (0 : Int) < (17 : Int) ∧ (17 : Int) ≤ (9223372036854775807 : Int)) ∧ (0 : Int) ≤ n % (17 : Int) ∧ n % (17 : Int) < (↑txL.length : Int)) ∧ ¬∃ (k : Nat), k < (27 : Nat) ∧ txL.getD (n % (17 : Int)).toNat ByteArray.empty = txS k) → False) ∧ ((((True ∧ (0 : Int) < (17 : Int) ∧ (17 : Int) ≤ (9223372036854775807 : Int)) ∧ (0 : Int) ≤ n % (17 : Int) ∧ n % (17 : Int) < (↑txL.length : Int)) ∧ ∃ (k : Nat), k < (27 : Nat) ∧ txL.getD (n % (17 : Int)).toNat ByteArray.empty = txS k) →
  True ∧ parseS (txL.getD (n % (17 : Int)).toNat ByteArray.empty) = grS (n % (17 : Int)).toNat) ∧ ((True ∧ (0 : Int) < (17 : Int) ∧ (17 : Int) ≤ (9223372036854775807 : Int)) ∧ ¬((0 : Int) ≤ n % (17 : Int) ∧ n % (17 : Int) < (↑txL.length : Int)) → False) ∧ (True)
theorem good.eq  (n : Int) : good.g  n = good.T  n := by kernel_rfl
theorem good.ok  (n : Int) : good.T  n := by
  have e1 := Int.emod_nonneg n (show (17 : Int) ≠ 0 by omega)
  have e2 := Int.emod_lt_of_pos n (show (0 : Int) < 17 by omega)
  rw [good.T, tx_len]
  simp only [tx_get]
  ((repeat' (first | exact trivial | apply And.intro)) <;> (intro hw; (try (simp only [true_and, and_true, decide_eq_true_eq, decide_eq_false_iff_not, beq_iff_eq, bne_iff_ne, beq_eq_false_iff_ne, bne_eq_false_iff_eq, ne_eq, Bool.not_eq_true, Bool.not_eq_false, not_true_eq_false, not_false_eq_true, Bool.not_eq_eq_eq_not, Bool.not_true, Bool.not_false, forall_const, imp_self, Bool.true_eq_false, Bool.false_eq_true, reduceCtorEq] at hw)); (try first | (exfalso; omega) | exact ⟨trivial, rfl⟩ | exact (hw hx).elim | exact (hw.2 hx).elim)))
  · exact hw.2 ⟨_, by omega, rfl⟩
  · exact ⟨trivial, parse_gr _ (by omega)⟩
theorem good.fn   : FnOk Try.prog good := fn_evalH (l := []) (lf := 1000) (fun _ => cfOf_ok (fns_cons texts.fn (fns_cons within.fn (fns_cons parse.fn (fns_nil _))))) _ (lps_nil _ _) (by kernel_rfl) (fun n hx => Hid.of (good.eq  n) (good.ok  n))
noncomputable def bad  : Face := ⟨35, [.v (.int .i64)], fun n => none,
  [⟨false, [.v GR], fun n => grS (17 + (n % 10).toNat), fun n => none⟩]⟩
noncomputable def bad.g  (n : Int) : Prop := GoodFA Try.prog (cfOf [texts, within, parse]) [] 1000 bad n
noncomputable def bad.q2 : Prop := (True ∧ (0 : Int) ≤ (17 : Int) ∧ (17 : Int) ≤ (↑txL.length : Int) ∧ (↑txL.length : Int) ≤ (↑txL.length : Int)) ∧ (List.drop (Int.toNat (17 : Int)) (List.take (↑txL.length : Int).toNat txL)).length ≤ (9223372036854775807 : Nat)
noncomputable def bad.q0 : Prop := bad.q2 ∧ (0 : Int) < (↑(List.drop (Int.toNat (17 : Int)) (List.take (↑txL.length : Int).toNat txL)).length : Int) ∧ (↑(List.drop (Int.toNat (17 : Int)) (List.take (↑txL.length : Int).toNat txL)).length : Int) ≤ (9223372036854775807 : Int)
noncomputable def bad.q1 (n : Int) : Prop := bad.q0 ∧ (0 : Int) ≤ n % (↑(List.drop (Int.toNat (17 : Int)) (List.take (↑txL.length : Int).toNat txL)).length : Int) ∧ n % (↑(List.drop (Int.toNat (17 : Int)) (List.take (↑txL.length : Int).toNat txL)).length : Int) < (↑(List.drop (Int.toNat (17 : Int)) (List.take (↑txL.length : Int).toNat txL)).length : Int)
noncomputable def bad.T (n : Int) : Prop := (bad.q2 ∧ ¬((0 : Int) < (↑(List.drop (Int.toNat (17 : Int)) (List.take (↑txL.length : Int).toNat txL)).length : Int) ∧ (↑(List.drop (Int.toNat (17 : Int)) (List.take (↑txL.length : Int).toNat txL)).length : Int) ≤ (9223372036854775807 : Int)) → False) ∧ (((bad.q1 n) ∧ ¬∃ (k : Nat), k < (27 : Nat) ∧ (List.drop (Int.toNat (17 : Int)) (List.take (↑txL.length : Int).toNat txL)).getD (n % (↑(List.drop (Int.toNat (17 : Int)) (List.take (↑txL.length : Int).toNat txL)).length : Int)).toNat ByteArray.empty = txS k) → False) ∧ (((bad.q1 n) ∧ ∃ (k : Nat), k < (27 : Nat) ∧ (List.drop (Int.toNat (17 : Int)) (List.take (↑txL.length : Int).toNat txL)).getD (n % (↑(List.drop (Int.toNat (17 : Int)) (List.take (↑txL.length : Int).toNat txL)).length : Int)).toNat ByteArray.empty = txS k) → True ∧ parseS ((List.drop (Int.toNat (17 : Int)) (List.take (↑txL.length : Int).toNat txL)).getD (n % (↑(List.drop (Int.toNat (17 : Int)) (List.take (↑txL.length : Int).toNat txL)).length : Int)).toNat ByteArray.empty) = grS ((17 : Nat) + (n % (10 : Int)).toNat)) ∧ (bad.q0 ∧ ¬((0 : Int) ≤ n % (↑(List.drop (Int.toNat (17 : Int)) (List.take (↑txL.length : Int).toNat txL)).length : Int) ∧ n % (↑(List.drop (Int.toNat (17 : Int)) (List.take (↑txL.length : Int).toNat txL)).length : Int) < (↑(List.drop (Int.toNat (17 : Int)) (List.take (↑txL.length : Int).toNat txL)).length : Int)) → False) ∧ (True ∧ ¬((0 : Int) ≤ (17 : Int) ∧ (17 : Int) ≤ (↑txL.length : Int) ∧ (↑txL.length : Int) ≤ (↑txL.length : Int)) → False) ∧ (True)
theorem bad.eq  (n : Int) : bad.g  n = bad.T  n := by kernel_rfl
theorem bad.ok  (n : Int) : bad.T  n := by
  have e1 := Int.emod_nonneg n (show (10 : Int) ≠ 0 by omega)
  have e2 := Int.emod_lt_of_pos n (show (0 : Int) < 10 by omega)
  delta bad.T bad.q2 bad.q0 bad.q1
  rw [tx_drop, tx_dlen, tx_len]
  simp only [tx_dget, show ((10 : Nat) : Int) = 10 from rfl]
  ((repeat' (first | exact trivial | apply And.intro)) <;> (intro hw; (try (simp only [true_and, and_true, decide_eq_true_eq, decide_eq_false_iff_not, beq_iff_eq, bne_iff_ne, beq_eq_false_iff_ne, bne_eq_false_iff_eq, ne_eq, Bool.not_eq_true, Bool.not_eq_false, not_true_eq_false, not_false_eq_true, Bool.not_eq_eq_eq_not, Bool.not_true, Bool.not_false, forall_const, imp_self, Bool.true_eq_false, Bool.false_eq_true, reduceCtorEq] at hw)); (try first | (exfalso; omega) | exact ⟨trivial, rfl⟩ | exact (hw hx).elim | exact (hw.2 hx).elim)))
  · exact hw.2 ⟨_, by omega, rfl⟩
  · exact ⟨trivial, parse_gr _ (by omega)⟩
theorem bad.fn   : FnOk Try.prog bad := fn_evalH (l := []) (lf := 1000) (fun _ => cfOf_ok (fns_cons texts.fn (fns_cons within.fn (fns_cons parse.fn (fns_nil _))))) _ (lps_nil _ _) (by kernel_rfl) (fun n hx => Hid.of (bad.eq  n) (bad.ok  n))
end Go.Proofs.Ytdmljeaigjfenaa.D

namespace Go.Proofs.Ytdmljeaigjfenaa.D
open Go Go.EV Go.TL Go.Proofs
set_option linter.unusedVariables false
set_option linter.unusedSimpArgs false
set_option maxRecDepth 100000
def gramS (r : Raw) : Gr := if r.1 % 5 = 0 ∨ r.1 % 5 = 1 then grS (r.2.1 % 17).toNat else if r.1 % 5 = 2 then grS (17 + (r.2.1 % 10).toNat) else anyS r
noncomputable def grammar0  : Face := ⟨11, [.v RAW], fun r => some (r.2.2.2.1 = 0),
  [⟨false, [.v GR], fun r => gramS r, fun r => none⟩]⟩
noncomputable def grammar0.g  (r : Int × Int × Int × Int × List (List Int) × ByteArray) : Prop := GoodFA Try.prog (cfOf [within, good, bad, any]) [(1000015, deadL)] 1000 grammar0 r
noncomputable def grammar0.q0 (r : Int × Int × Int × Int × List (List Int) × ByteArray) : Prop := (True ∧ (0 : Int) < (5 : Int) ∧ (5 : Int) ≤ (9223372036854775807 : Int)) ∧ (r.1 % (5 : Int) == (0 : Int)) = false
noncomputable def grammar0.q9 (r : Int × Int × Int × Int × List (List Int) × ByteArray) : Gr := grS ((17 : Nat) + (r.2.1 % (10 : Int)).toNat)
noncomputable def grammar0.q6 (r : Int × Int × Int × Int × List (List Int) × ByteArray) : Prop := (((grammar0.q0 r) ∧ (r.1 % (5 : Int) == (1 : Int)) = false) ∧ (r.1 % (5 : Int) == (2 : Int)) = true) ∧ List.length (grammar0.q9 r).2.2 ≤ (9223372036854775807 : Nat)
noncomputable def grammar0.q22 (r : Int × Int × Int × Int × List (List Int) × ByteArray) : Prop := ((grammar0.q6 r) ∧ decide ((↑(List.length (grammar0.q9 r).2.2) : Int) > (0 : Int)) = true) ∧ List.length (grammar0.q9 r).2.2 ≤ (9223372036854775807 : Nat)
noncomputable def grammar0.q1 (r : Int × Int × Int × Int × List (List Int) × ByteArray) : Prop := (grammar0.q22 r) ∧ (0 : Int) < (↑(List.length (grammar0.q9 r).2.2) : Int) ∧ (↑(List.length (grammar0.q9 r).2.2) : Int) ≤ (9223372036854775807 : Int)
noncomputable def grammar0.q5 (r : Int × Int × Int × Int × List (List Int) × ByteArray) : Prop := ((True ∧ (0 : Int) < (5 : Int) ∧ (5 : Int) ≤ (9223372036854775807 : Int)) ∧ (r.1 % (5 : Int) == (0 : Int)) = true) ∧ List.length (grS (r.2.1 % (17 : Int)).toNat).2.2 ≤ (9223372036854775807 : Nat)
noncomputable def grammar0.q20 (r : Int × Int × Int × Int × List (List Int) × ByteArray) : Prop := ((grammar0.q5 r) ∧ decide ((↑(List.length (grS (r.2.1 % (17 : Int)).toNat).2.2) : Int) > (0 : Int)) = true) ∧ List.length (grS (r.2.1 % (17 : Int)).toNat).2.2 ≤ (9223372036854775807 : Nat)
noncomputable def grammar0.q2 (r : Int × Int × Int × Int × List (List Int) × ByteArray) : Prop := (grammar0.q20 r) ∧ (0 : Int) < (↑(List.length (grS (r.2.1 % (17 : Int)).toNat).2.2) : Int) ∧ (↑(List.length (grS (r.2.1 % (17 : Int)).toNat).2.2) : Int) ≤ (9223372036854775807 : Int)
noncomputable def grammar0.q12 (r : Int × Int × Int × Int × List (List Int) × ByteArray) : Prop := ((((grammar0.q0 r) ∧ (r.1 % (5 : Int) == (1 : Int)) = true) ∧ List.length (grS (r.2.1 % (17 : Int)).toNat).2.2 ≤ (9223372036854775807 : Nat)) ∧ decide ((↑(List.length (grS (r.2.1 % (17 : Int)).toNat).2.2) : Int) > (0 : Int)) = true) ∧ List.length (grS (r.2.1 % (17 : Int)).toNat).2.2 ≤ (9223372036854775807 : Nat)
noncomputable def grammar0.q3 (r : Int × Int × Int × Int × List (List Int) × ByteArray) : Prop := (grammar0.q12 r) ∧ (0 : Int) < (↑(List.length (grS (r.2.1 % (17 : Int)).toNat).2.2) : Int) ∧ (↑(List.length (grS (r.2.1 % (17 : Int)).toNat).2.2) : Int) ≤ (9223372036854775807 : Int)
noncomputable def grammar0.q7 (r : Int × Int × Int × Int × List (List Int) × ByteArray) : Prop := (((grammar0.q0 r) ∧ (r.1 % (5 : Int) == (1 : Int)) = false) ∧ (r.1 % (5 : Int) == (2 : Int)) = false) ∧ List.length (anyS r).2.2 ≤ (9223372036854775807 : Nat)
noncomputable def grammar0.q4 (r : Int × Int × Int × Int × List (List Int) × ByteArray) : Prop := (((grammar0.q7 r) ∧ decide ((↑(List.length (anyS r).2.2) : Int) > (0 : Int)) = true) ∧ List.length (anyS r).2.2 ≤ (9223372036854775807 : Nat)) ∧ (0 : Int) < (↑(List.length (anyS r).2.2) : Int) ∧ (↑(List.length (anyS r).2.2) : Int) ≤ (9223372036854775807 : Int)
noncomputable def grammar0.q8 (r : Int × Int × Int × Int × List (List Int) × ByteArray) : Prop := (((grammar0.q0 r) ∧ (r.1 % (5 : Int) == (1 : Int)) = true) ∧ List.length (grS (r.2.1 % (17 : Int)).toNat).2.2 ≤ (9223372036854775807 : Nat)) ∧ decide ((↑(List.length (grS (r.2.1 % (17 : Int)).toNat).2.2) : Int) > (0 : Int)) = false
noncomputable def grammar0.q10 : Prop := (0 : Int) < (40 : Int) ∧ (40 : Int) ≤ (9223372036854775807 : Int)
noncomputable def grammar0.q11 (r : Int × Int × Int × Int × List (List Int) × ByteArray) : Prop := ((grammar0.q5 r) ∧ decide ((↑(List.length (grS (r.2.1 % (17 : Int)).toNat).2.2) : Int) > (0 : Int)) = false) ∧ (0 : Int) < (40 : Int) ∧ (40 : Int) ≤ (9223372036854775807 : Int)
noncomputable def grammar0.q13 (r : Int × Int × Int × Int × List (List Int) × ByteArray) : Prop := ((grammar0.q6 r) ∧ decide ((↑(List.length (grammar0.q9 r).2.2) : Int) > (0 : Int)) = false) ∧ (0 : Int) < (40 : Int) ∧ (40 : Int) ≤ (9223372036854775807 : Int)
noncomputable def grammar0.q14 (r : Int × Int × Int × Int × List (List Int) × ByteArray) : Prop := ((grammar0.q7 r) ∧ decide ((↑(List.length (anyS r).2.2) : Int) > (0 : Int)) = false) ∧ (0 : Int) < (40 : Int) ∧ (40 : Int) ≤ (9223372036854775807 : Int)
noncomputable def grammar0.q15 (r : Int × Int × Int × Int × List (List Int) × ByteArray) : Prop := (((grammar0.q2 r) ∧ (0 : Int) < (40 : Int) ∧ (40 : Int) ≤ (9223372036854775807 : Int)) ∧ decide (r.2.2.2.1 % (40 : Int) < (28 : Int)) = false) ∧ List.length (grS (r.2.1 % (17 : Int)).toNat).2.2 ≤ (9223372036854775807 : Nat)
noncomputable def grammar0.q16 (r : Int × Int × Int × Int × List (List Int) × ByteArray) : Prop := (((grammar0.q3 r) ∧ (0 : Int) < (40 : Int) ∧ (40 : Int) ≤ (9223372036854775807 : Int)) ∧ decide (r.2.2.2.1 % (40 : Int) < (28 : Int)) = false) ∧ List.length (grS (r.2.1 % (17 : Int)).toNat).2.2 ≤ (9223372036854775807 : Nat)
noncomputable def grammar0.q17 (r : Int × Int × Int × Int × List (List Int) × ByteArray) : Prop := (((grammar0.q8 r) ∧ (0 : Int) < (40 : Int) ∧ (40 : Int) ≤ (9223372036854775807 : Int)) ∧ decide (r.2.2.2.1 % (40 : Int) < (28 : Int)) = false) ∧ List.length (grS (r.2.1 % (17 : Int)).toNat).2.2 ≤ (9223372036854775807 : Nat)
noncomputable def grammar0.q18 (r : Int × Int × Int × Int × List (List Int) × ByteArray) : Prop := (((grammar0.q1 r) ∧ (0 : Int) < (40 : Int) ∧ (40 : Int) ≤ (9223372036854775807 : Int)) ∧ decide (r.2.2.2.1 % (40 : Int) < (28 : Int)) = false) ∧ List.length (grammar0.q9 r).2.2 ≤ (9223372036854775807 : Nat)
noncomputable def grammar0.q19 (r : Int × Int × Int × Int × List (List Int) × ByteArray) : Prop := (((grammar0.q4 r) ∧ (0 : Int) < (40 : Int) ∧ (40 : Int) ≤ (9223372036854775807 : Int)) ∧ decide (r.2.2.2.1 % (40 : Int) < (28 : Int)) = false) ∧ List.length (anyS r).2.2 ≤ (9223372036854775807 : Nat)
noncomputable def grammar0.q21 (r : Int × Int × Int × Int × List (List Int) × ByteArray) : Prop := (0 : Int) < (↑(List.length (grS (r.2.1 % (17 : Int)).toNat).2.2) : Int) ∧ (↑(List.length (grS (r.2.1 % (17 : Int)).toNat).2.2) : Int) ≤ (9223372036854775807 : Int)
noncomputable def grammar0.q23 (r : Int × Int × Int × Int × List (List Int) × ByteArray) : Prop := ((grammar0.q11 r) ∧ decide (r.2.2.2.1 % (40 : Int) < (28 : Int)) = false) ∧ List.length (grS (r.2.1 % (17 : Int)).toNat).2.2 ≤ (9223372036854775807 : Nat)
noncomputable def grammar0.T (r : Int × Int × Int × Int × List (List Int) × ByteArray) : Prop := (True ∧ ¬((0 : Int) < (5 : Int) ∧ (5 : Int) ≤ (9223372036854775807 : Int)) → False) ∧ ((grammar0.q20 r) ∧ ¬(grammar0.q21 r) → False) ∧ ((grammar0.q2 r) ∧ ¬grammar0.q10 → False) ∧ (((grammar0.q2 r) ∧ (0 : Int) < (40 : Int) ∧ (40 : Int) ≤ (9223372036854775807 : Int)) ∧ decide (r.2.2.2.1 % (40 : Int) < (28 : Int)) = true → True ∧ grS (r.2.1 % (17 : Int)).toNat = gramS r) ∧ ((grammar0.q15 r) ∧ ((↑(List.length (grS (r.2.1 % (17 : Int)).toNat).2.2) : Int) == (0 : Int)) = true → True ∧ grS (r.2.1 % (17 : Int)).toNat = gramS r) ∧ (((grammar0.q15 r) ∧ ((↑(List.length (grS (r.2.1 % (17 : Int)).toNat).2.2) : Int) == (0 : Int)) = false) ∧ ¬False → False) ∧ (((grammar0.q5 r) ∧ decide ((↑(List.length (grS (r.2.1 % (17 : Int)).toNat).2.2) : Int) > (0 : Int)) = false) ∧ ¬grammar0.q10 → False) ∧ ((grammar0.q11 r) ∧ decide (r.2.2.2.1 % (40 : Int) < (28 : Int)) = true → True ∧ grS (r.2.1 % (17 : Int)).toNat = gramS r) ∧ ((grammar0.q23 r) ∧ ((↑(List.length (grS (r.2.1 % (17 : Int)).toNat).2.2) : Int) == (0 : Int)) = true → True ∧ grS (r.2.1 % (17 : Int)).toNat = gramS r) ∧ (((grammar0.q23 r) ∧ ((↑(List.length (grS (r.2.1 % (17 : Int)).toNat).2.2) : Int) == (0 : Int)) = false) ∧ ¬False → False) ∧ ((grammar0.q12 r) ∧ ¬(grammar0.q21 r) → False) ∧ ((grammar0.q3 r) ∧ ¬grammar0.q10 → False) ∧ (((grammar0.q3 r) ∧ (0 : Int) < (40 : Int) ∧ (40 : Int) ≤ (9223372036854775807 : Int)) ∧ decide (r.2.2.2.1 % (40 : Int) < (28 : Int)) = true → True ∧ grS (r.2.1 % (17 : Int)).toNat = gramS r) ∧ ((grammar0.q16 r) ∧ ((↑(List.length (grS (r.2.1 % (17 : Int)).toNat).2.2) : Int) == (0 : Int)) = true → True ∧ grS (r.2.1 % (17 : Int)).toNat = gramS r) ∧ (((grammar0.q16 r) ∧ ((↑(List.length (grS (r.2.1 % (17 : Int)).toNat).2.2) : Int) == (0 : Int)) = false) ∧ ¬False → False) ∧ ((grammar0.q8 r) ∧ ¬grammar0.q10 → False) ∧ (((grammar0.q8 r) ∧ (0 : Int) < (40 : Int) ∧ (40 : Int) ≤ (9223372036854775807 : Int)) ∧ decide (r.2.2.2.1 % (40 : Int) < (28 : Int)) = true → True ∧ grS (r.2.1 % (17 : Int)).toNat = gramS r) ∧ ((grammar0.q17 r) ∧ ((↑(List.length (grS (r.2.1 % (17 : Int)).toNat).2.2) : Int) == (0 : Int)) = true → True ∧ grS (r.2.1 % (17 : Int)).toNat = gramS r) ∧ (((grammar0.q17 r) ∧ ((↑(List.length (grS (r.2.1 % (17 : Int)).toNat).2.2) : Int) == (0 : Int)) = false) ∧ ¬False → False) ∧ ((grammar0.q22 r) ∧ ¬((0 : Int) < (↑(List.length (grammar0.q9 r).2.2) : Int) ∧ (↑(List.length (grammar0.q9 r).2.2) : Int) ≤ (9223372036854775807 : Int)) → False) ∧ ((grammar0.q1 r) ∧ ¬grammar0.q10 → False) ∧ (((grammar0.q1 r) ∧ (0 : Int) < (40 : Int) ∧ (40 : Int) ≤ (9223372036854775807 : Int)) ∧ decide (r.2.2.2.1 % (40 : Int) < (28 : Int)) = true → True ∧ grS ((17 : Nat) + (r.2.1 % (10 : Int)).toNat) = gramS r) ∧ ((grammar0.q18 r) ∧ ((↑(List.length (grammar0.q9 r).2.2) : Int) == (0 : Int)) = true → True ∧ grS ((17 : Nat) + (r.2.1 % (10 : Int)).toNat) = gramS r) ∧ (((grammar0.q18 r) ∧ ((↑(List.length (grammar0.q9 r).2.2) : Int) == (0 : Int)) = false) ∧ ¬False → False) ∧ (((grammar0.q6 r) ∧ decide ((↑(List.length (grammar0.q9 r).2.2) : Int) > (0 : Int)) = false) ∧ ¬grammar0.q10 → False) ∧ ((grammar0.q13 r) ∧ decide (r.2.2.2.1 % (40 : Int) < (28 : Int)) = true → True ∧ grS ((17 : Nat) + (r.2.1 % (10 : Int)).toNat) = gramS r) ∧ ((((grammar0.q13 r) ∧ decide (r.2.2.2.1 % (40 : Int) < (28 : Int)) = false) ∧ List.length (grammar0.q9 r).2.2 ≤ (9223372036854775807 : Nat)) ∧ ((↑(List.length (grammar0.q9 r).2.2) : Int) == (0 : Int)) = true → True ∧ grS ((17 : Nat) + (r.2.1 % (10 : Int)).toNat) = gramS r) ∧ (((((grammar0.q13 r) ∧ decide (r.2.2.2.1 % (40 : Int) < (28 : Int)) = false) ∧ List.length (grammar0.q9 r).2.2 ≤ (9223372036854775807 : Nat)) ∧ ((↑(List.length (grammar0.q9 r).2.2) : Int) == (0 : Int)) = false) ∧ ¬False → False) ∧ ((((grammar0.q7 r) ∧ decide ((↑(List.length (anyS r).2.2) : Int) > (0 : Int)) = true) ∧ List.length (anyS r).2.2 ≤ (9223372036854775807 : Nat)) ∧ ¬((0 : Int) < (↑(List.length (anyS r).2.2) : Int) ∧ (↑(List.length (anyS r).2.2) : Int) ≤ (9223372036854775807 : Int)) → False) ∧ ((grammar0.q4 r) ∧ ¬grammar0.q10 → False) ∧ (((grammar0.q4 r) ∧ (0 : Int) < (40 : Int) ∧ (40 : Int) ≤ (9223372036854775807 : Int)) ∧ decide (r.2.2.2.1 % (40 : Int) < (28 : Int)) = true → True ∧ anyS r = gramS r) ∧ ((grammar0.q19 r) ∧ ((↑(List.length (anyS r).2.2) : Int) == (0 : Int)) = true → True ∧ anyS r = gramS r) ∧ (((grammar0.q19 r) ∧ ((↑(List.length (anyS r).2.2) : Int) == (0 : Int)) = false) ∧ ¬False → False) ∧ (((grammar0.q7 r) ∧ decide ((↑(List.length (anyS r).2.2) : Int) > (0 : Int)) = false) ∧ ¬grammar0.q10 → False) ∧ ((grammar0.q14 r) ∧ decide (r.2.2.2.1 % (40 : Int) < (28 : Int)) = true → True ∧ anyS r = gramS r) ∧ ((((grammar0.q14 r) ∧ decide (r.2.2.2.1 % (40 : Int) < (28 : Int)) = false) ∧ List.length (anyS r).2.2 ≤ (9223372036854775807 : Nat)) ∧ ((↑(List.length (anyS r).2.2) : Int) == (0 : Int)) = true → True ∧ anyS r = gramS r) ∧ (((((grammar0.q14 r) ∧ decide (r.2.2.2.1 % (40 : Int) < (28 : Int)) = false) ∧ List.length (anyS r).2.2 ≤ (9223372036854775807 : Nat)) ∧ ((↑(List.length (anyS r).2.2) : Int) == (0 : Int)) = false) ∧ ¬False → False) ∧ (True)
theorem grammar0.eq  (r : Int × Int × Int × Int × List (List Int) × ByteArray) : grammar0.g  r = grammar0.T  r := by kernel_rfl
theorem grammar0.ok  (r : Int × Int × Int × Int × List (List Int) × ByteArray) (hx : r.2.2.2.1 = 0) : grammar0.T  r := by
  delta grammar0.T grammar0.q0 grammar0.q9 grammar0.q6 grammar0.q22 grammar0.q1 grammar0.q5 grammar0.q20 grammar0.q2 grammar0.q12 grammar0.q3 grammar0.q7 grammar0.q4 grammar0.q8 grammar0.q10 grammar0.q11 grammar0.q13 grammar0.q14 grammar0.q15 grammar0.q16 grammar0.q17 grammar0.q18 grammar0.q19 grammar0.q21 grammar0.q23
  ((repeat' (first | exact trivial | apply And.intro)) <;> (intro hw; (try (simp only [true_and, and_true, decide_eq_true_eq, decide_eq_false_iff_not, beq_iff_eq, bne_iff_ne, beq_eq_false_iff_ne, bne_eq_false_iff_eq, ne_eq, Bool.not_eq_true, Bool.not_eq_false, not_true_eq_false, not_false_eq_true, Bool.not_eq_eq_eq_not, Bool.not_true, Bool.not_false, forall_const, imp_self, Bool.true_eq_false, Bool.false_eq_true, reduceCtorEq] at hw)); (try first | (exfalso; omega) | exact ⟨trivial, rfl⟩ | exact (hw hx).elim | exact (hw.2 hx).elim)))
  all_goals
    refine ⟨trivial, ?_⟩
    rw [gramS]
    first | rw [if_pos (by omega)] | rw [if_neg (by omega), if_pos (by omega)] | rw [if_neg (by omega), if_neg (by omega)]
theorem grammar0.fn   : FnOk Try.prog grammar0 := fn_evalH (l := [(1000015, deadL)]) (lf := 1000) (fun _ => cfOf_ok (fns_cons within.fn (fns_cons good.fn (fns_cons bad.fn (fns_cons any.fn (fns_nil _)))))) _ (lps_cons (lp_dead _ _ _) (lps_nil _ _)) (by kernel_rfl) (fun r hx => Hid.of (grammar0.eq  r) (grammar0.ok  r hx))
def okG (g : Gr) : Prop := g.1.length ≤ 99 ∧ g.2.1.length ≤ 99 ∧ g.2.2.length ≤ 99 ∧ ∀ q ∈ g.2.2, q.2.length ≤ 6
def prodsOf (sym : Int) : Int → List (Int × List Int) → List Int
  | _, [] => []
  | i, q :: l => if q.1 = sym then i :: prodsOf sym (i + 1) l else prodsOf sym (i + 1) l
theorem prodsOf_mem {sym x : Int} : ∀ {l : List (Int × List Int)} {i : Int}, x ∈ prodsOf sym i l → i ≤ x ∧ x < i + l.length ∧ (l.getD (x - i).toNat (0, [])).1 = sym
  | [], i, h => by simp [prodsOf] at h
  | q :: l, i, h => by
    simp only [prodsOf] at h
    have key : x ∈ prodsOf sym (i + 1) l → i ≤ x ∧ x < i + (q :: l).length ∧ ((q :: l).getD (x - i).toNat (0, [])).1 = sym := fun h => by
      obtain ⟨h1, h2, h3⟩ := prodsOf_mem h
      refine ⟨by omega, by simp only [List.length_cons]; omega, ?_⟩
      rw [show (x - i).toNat = (x - (i + 1)).toNat + 1 by omega, List.getD_cons_succ]; exact h3
    split at h
    · rcases List.mem_cons.1 h with rfl | h
      · refine ⟨Int.le_refl _, by simp only [List.length_cons]; omega, ?_⟩
        rw [show (x - x).toNat = 0 by omega, List.getD_cons_zero]; assumption
      · exact key h
    · exact key h
theorem prodsOf_len (sym : Int) : ∀ (l : List (Int × List Int)) (i : Int), (prodsOf sym i l).length ≤ l.length
  | [], i => Nat.le_refl _
  | q :: l, i => by
    have := prodsOf_len sym l (i + 1)
    simp only [prodsOf, List.length_cons]
    split
    · simp only [List.length_cons]; omega
    · omega
def kidsS (f : Int → List Int → Tree × List Int) : List Int → List Int → List Tree × List Int
  | [], l => ([], l)
  | s :: q, l => ((f s l).1 :: (kidsS f q (f s l).2).1, (kidsS f q (f s l).2).2)
def treeS : Nat → Gr → Int → List Int → Tree × List Int
  | 0, _, sym, l => (.mk sym (-1) [], l.drop 1)
  | d + 1, g, sym, l => if sym < 100 ∨ l.length = 0 ∨ (l.getD 0 0).tmod 6 = 5 ∨ (prodsOf sym 0 g.2.2).length = 0 then (.mk sym (-1) [], l.drop 1)
    else (.mk sym ((prodsOf sym 0 g.2.2).getD (l.getD 0 0 % (prodsOf sym 0 g.2.2).length).toNat 0) (kidsS (treeS d g) (g.2.2.getD ((prodsOf sym 0 g.2.2).getD (l.getD 0 0 % (prodsOf sym 0 g.2.2).length).toNat 0).toNat (0, [])).2 (l.drop 1)).1,
      (kidsS (treeS d g) (g.2.2.getD ((prodsOf sym 0 g.2.2).getD (l.getD 0 0 % (prodsOf sym 0 g.2.2).length).toNat 0).toNat (0, [])).2 (l.drop 1)).2)
noncomputable def tree (d : Nat) : Face := ⟨28, [.v GR, .v (.int .i64), .v (.sl (.int .i64)), .v (.int .i64)], fun (g, sym, l, n) => some (n = d ∧ d ≤ 99 ∧ okG g),
  [⟨false, [.v .tree, .v (.sl (.int .i64))], fun (g, sym, l, n) => treeS n.toNat g sym l, fun (g, sym, l, n) => none⟩]⟩
noncomputable def tree.L0  : LFace := ⟨[1, 2, 3, 4, 8, 9, 10, 43, 44, 45], [.v (.int .i64), .v (.sl (.int .i64)), .v (.int .i64), .p GR, .box 33 [.un, .un, .un], .un, .row (.int .i64) 3, .v (.sl PR), .v (.int .i64), .v (.int .i64)], fun (sym, l, n, g, u, v, out, ps, len, i) => some (len = ps.length ∧ 0 ≤ i ∧ i ≤ len ∧ ps.length ≤ 99 ∧ out.length ≤ i.toNat),
  [⟨.normal, [1, 2, 3, 4, 8, 9, 10], [.v (.int .i64), .v (.sl (.int .i64)), .v (.int .i64), .p GR, .box 33 [.un, .un, .un], .un, .row (.int .i64) 3], fun (sym, l, n, g, u, v, out, ps, len, i) => (sym, l, n, g, u, v, out ++ prodsOf sym i (ps.drop i.toNat)), fun (sym, l, n, g, u, v, out, ps, len, i) => none⟩]⟩
noncomputable def tree.L0.mu  : dens tree.L0.sh → Nat := fun (sym, l, n, g, u, v, out, ps, len, i) => (len - i).toNat
noncomputable def tree.L0.g  (sym : Int) (l : List Int) (n : Int) (g : List ByteArray × List ByteArray × List (Int × List Int)) (u : Unit × Unit × Unit) (v : Unit) (out : List Int) (ps : List (Int × List Int)) (len : Int) (i : Int) : Prop := GoodLA Try.prog (cfOf []) [] 1000 28 0 tree.L0 tree.L0.mu (sym, l, n, g, u, v, out, ps, len, i)
noncomputable def tree.L0.T (sym : Int) (l : List Int) (n : Int) (g : List ByteArray × List ByteArray × List (Int × List Int)) (u : Unit × Unit × Unit) (v : Unit) (out : List Int) (ps : List (Int × List Int)) (len : Int) (i : Int) : Prop := ((((True ∧ decide (i < len) = true) ∧ (0 : Int) ≤ i ∧ i < (↑ps.length : Int)) ∧ ((ps.getD i.toNat ((0 : Int), [])).1 == sym) = true) ∧ (out.length + (1 : Nat)) * (8 : Nat) ≤ (140737488355328 : Nat) →
  (len = (↑ps.length : Int) ∧ (0 : Int) ≤ IntKind.i64.wrap (i + (1 : Int)) ∧ IntKind.i64.wrap (i + (1 : Int)) ≤ len ∧ ps.length ≤ (99 : Nat) ∧ (out ++ [i]).length ≤ (IntKind.i64.wrap (i + (1 : Int))).toNat) ∧ tree.L0.mu (sym, l, n, g, ((), (), ()), (), out ++ [i], ps, len, IntKind.i64.wrap (i + (1 : Int))) < tree.L0.mu (sym, l, n, g, u, v, out, ps, len, i) ∧ (True → True ∧ (sym, l, n, g, ((), (), ()), (), out ++ [i] ++ prodsOf sym (IntKind.i64.wrap (i + (1 : Int))) (List.drop (IntKind.i64.wrap (i + (1 : Int))).toNat ps)) = (sym, l, n, g, u, (), out ++ prodsOf sym i (List.drop i.toNat ps))) ∧ True) ∧ ((((True ∧ decide (i < len) = true) ∧ (0 : Int) ≤ i ∧ i < (↑ps.length : Int)) ∧ ((ps.getD i.toNat ((0 : Int), [])).1 == sym) = true) ∧ ¬(out.length + (1 : Nat)) * (8 : Nat) ≤ (140737488355328 : Nat) → False) ∧ (((True ∧ decide (i < len) = true) ∧ (0 : Int) ≤ i ∧ i < (↑ps.length : Int)) ∧ ((ps.getD i.toNat ((0 : Int), [])).1 == sym) = false →
  (len = (↑ps.length : Int) ∧ (0 : Int) ≤ IntKind.i64.wrap (i + (1 : Int)) ∧ IntKind.i64.wrap (i + (1 : Int)) ≤ len ∧ ps.length ≤ (99 : Nat) ∧ out.length ≤ (IntKind.i64.wrap (i + (1 : Int))).toNat) ∧ tree.L0.mu (sym, l, n, g, ((), (), ()), (), out, ps, len, IntKind.i64.wrap (i + (1 : Int))) < tree.L0.mu (sym, l, n, g, u, v, out, ps, len, i) ∧ (True → True ∧ (sym, l, n, g, ((), (), ()), (), out ++ prodsOf sym (IntKind.i64.wrap (i + (1 : Int))) (List.drop (IntKind.i64.wrap (i + (1 : Int))).toNat ps)) = (sym, l, n, g, u, (), out ++ prodsOf sym i (List.drop i.toNat ps))) ∧ True) ∧ ((True ∧ decide (i < len) = true) ∧ ¬((0 : Int) ≤ i ∧ i < (↑ps.length : Int)) → False) ∧ (True ∧ decide (i < len) = false → True ∧ (sym, l, n, g, ((), (), ()), (), out) = (sym, l, n, g, u, (), out ++ prodsOf sym i (List.drop i.toNat ps))) ∧ (True)
theorem tree.L0.eq  (sym : Int) (l : List Int) (n : Int) (g : List ByteArray × List ByteArray × List (Int × List Int)) (u : Unit × Unit × Unit) (v : Unit) (out : List Int) (ps : List (Int × List Int)) (len : Int) (i : Int) : tree.L0.g  sym l n g u v out ps len i = tree.L0.T  sym l n g u v out ps len i := by kernel_rfl
theorem tree.L0.ok  (sym : Int) (l : List Int) (n : Int) (g : List ByteArray × List ByteArray × List (Int × List Int)) (u : Unit × Unit × Unit) (v : Unit) (out : List Int) (ps : List (Int × List Int)) (len : Int) (i : Int) (hx : len = ps.length ∧ 0 ≤ i ∧ i ≤ len ∧ ps.length ≤ 99 ∧ out.length ≤ i.toNat) : tree.L0.T  sym l n g u v out ps len i := by
  obtain ⟨rfl, h0, h1, h2, h3⟩ := hx
  have w1 : IntKind.i64.wrap (i + 1) = i + 1 := wrapI64 (by omega) (by omega)
  rw [tree.L0.T, w1]
  have hD := fun h => drop_int (0, []) h0 (l := ps) h
  ((repeat' (first | exact trivial | apply And.intro)) <;> (intro hw; (try (simp only [true_and, and_true, decide_eq_true_eq, decide_eq_false_iff_not, beq_iff_eq, bne_iff_ne, beq_eq_false_iff_ne, bne_eq_false_iff_eq, ne_eq, Bool.not_eq_true, Bool.not_eq_false, not_true_eq_false, not_false_eq_true, Bool.not_eq_eq_eq_not, Bool.not_true, Bool.not_false, forall_const, imp_self, Bool.true_eq_false, Bool.false_eq_true, reduceCtorEq] at hw)); (try first | (exfalso; omega) | exact ⟨trivial, rfl⟩ | exact (hw hx).elim | exact (hw.2 hx).elim)))
  · rw [hD (by omega), prodsOf, if_pos hw.1.2]
    exact ⟨⟨rfl, by omega, by omega, h2, by simp only [List.length_append, List.length_singleton]; omega⟩, by simp only [tree.L0.mu]; omega, fun _ => ⟨trivial, by rw [List.append_assoc]; rfl⟩, trivial⟩
  · rw [hD (by omega), prodsOf, if_neg hw.2]
    exact ⟨⟨rfl, by omega, by omega, h2, by omega⟩, by simp only [tree.L0.mu]; omega, fun _ => ⟨trivial, rfl⟩, trivial⟩
  · rw [drop_int_end hw, prodsOf, List.append_nil]
    exact ⟨trivial, rfl⟩
theorem tree.L0.lp   : LpAt Try.prog 28 0 tree.L0 := lp_evalH (l := []) (lf := 1000) (fun _ => cfOf_ok (fns_nil _)) (lps_nil _ _) (by kernel_rfl) _ (tree.L0.mu ) (fun ⟨sym, l, n, g, u, v, out, ps, len, i⟩ hx => Hid.of (tree.L0.eq  sym l n g u v out ps len i) (tree.L0.ok  sym l n g u v out ps len i hx))
noncomputable def tree.L2 (d : Nat) : LFace := ⟨[2, 3, 4, 8, 9, 13, 88, 89, 90], [.v (.sl (.int .i64)), .v (.int .i64), .p GR, .box 33 [.un, .un, .un], .un, .box 33 [.v (.int .i64), .v (.int .i64), .row .tree 33], .v (.sl (.int .i64)), .v (.int .i64), .v (.int .i64)], fun (l, n, g, u, v, t, syms, len, i) => some (len = syms.length ∧ 0 ≤ i ∧ i ≤ len ∧ syms.length ≤ 99 ∧ t.2.2.length ≤ i.toNat ∧ n = (d : Int) + 1 ∧ d ≤ 98 ∧ okG g),
  [⟨.normal, [2, 8, 9, 13], [.v (.sl (.int .i64)), .box 33 [.un, .un, .un], .un, .box 33 [.v (.int .i64), .v (.int .i64), .row .tree 33]], fun (l, n, g, u, v, t, syms, len, i) => ((kidsS (treeS d g) (syms.drop i.toNat) l).2, u, v, t.1, t.2.1, t.2.2 ++ (kidsS (treeS d g) (syms.drop i.toNat) l).1), fun (l, n, g, u, v, t, syms, len, i) => none⟩]⟩
noncomputable def tree.L2.mu (d : Nat) : dens (tree.L2 d).sh → Nat := fun (l, n, g, u, v, t, syms, len, i) => (len - i).toNat
noncomputable def tree.L2.g (d : Nat) (l : List Int) (n : Int) (g : List ByteArray × List ByteArray × List (Int × List Int)) (u : Unit × Unit × Unit) (v : Unit) (t : Int × Int × List Tree) (syms : List Int) (len : Int) (i : Int) : Prop := GoodLA Try.prog (cfOf [tree d]) [] 1000 28 2 (tree.L2 d) (tree.L2.mu d) (l, n, g, u, v, t, syms, len, i)
noncomputable def tree.L2.T0 (d : Nat) (l : List Int) (n : Int) (g : List ByteArray × List ByteArray × List (Int × List Int)) (u : Unit × Unit × Unit) (v : Unit) (t : Int × Int × List Tree) (syms : List Int) (len : Int) (i : Int) : Prop := (((True ∧ decide (i < len) = true) ∧ (0 : Int) ≤ i ∧ i < (↑syms.length : Int)) ∧ ¬(IntKind.i64.wrap (n - (1 : Int)) = (↑d : Int) ∧ d ≤ (99 : Nat) ∧ okG g) → False) ∧ ((((True ∧ decide (i < len) = true) ∧ (0 : Int) ≤ i ∧ i < (↑syms.length : Int)) ∧ IntKind.i64.wrap (n - (1 : Int)) = (↑d : Int) ∧ d ≤ (99 : Nat) ∧ okG g) ∧ (List.length t.2.2 + (1 : Nat)) * (40 : Nat) ≤ (140737488355328 : Nat) →
  (len = (↑syms.length : Int) ∧ (0 : Int) ≤ IntKind.i64.wrap (i + (1 : Int)) ∧ IntKind.i64.wrap (i + (1 : Int)) ≤ len ∧ syms.length ≤ (99 : Nat) ∧ (t.2.2 ++ [eT (treeS (IntKind.i64.wrap (n - (1 : Int))).toNat g (syms.getD i.toNat (0 : Int)) l).1]).length ≤ (IntKind.i64.wrap (i + (1 : Int))).toNat ∧ n = (↑d : Int) + (1 : Int) ∧ d ≤ (98 : Nat) ∧ okG g) ∧ tree.L2.mu d ((treeS (IntKind.i64.wrap (n - (1 : Int))).toNat g (syms.getD i.toNat (0 : Int)) l).2, n, g, ((), (), ()), (), (t.1, t.2.1, t.2.2 ++ [eT (treeS (IntKind.i64.wrap (n - (1 : Int))).toNat g (syms.getD i.toNat (0 : Int)) l).1]), syms, len, IntKind.i64.wrap (i + (1 : Int))) < tree.L2.mu d (l, n, g, u, v, t, syms, len, i) ∧ (True → True ∧ ((kidsS (treeS d g) (List.drop (IntKind.i64.wrap (i + (1 : Int))).toNat syms) (treeS (IntKind.i64.wrap (n - (1 : Int))).toNat g (syms.getD i.toNat (0 : Int)) l).2).2, ((), (), ()), (), t.1, t.2.1, t.2.2 ++ [eT (treeS (IntKind.i64.wrap (n - (1 : Int))).toNat g (syms.getD i.toNat (0 : Int)) l).1] ++ (kidsS (treeS d g) (List.drop (IntKind.i64.wrap (i + (1 : Int))).toNat syms) (treeS (IntKind.i64.wrap (n - (1 : Int))).toNat g (syms.getD i.toNat (0 : Int)) l).2).1) = ((kidsS (treeS d g) (List.drop i.toNat syms) l).2, u, (), t.1, t.2.1, t.2.2 ++ (kidsS (treeS d g) (List.drop i.toNat syms) l).1)) ∧ True) ∧ ((((True ∧ decide (i < len) = true) ∧ (0 : Int) ≤ i ∧ i < (↑syms.length : Int)) ∧ IntKind.i64.wrap (n - (1 : Int)) = (↑d : Int) ∧ d ≤ (99 : Nat) ∧ okG g) ∧ ¬(List.length t.2.2 + (1 : Nat)) * (40 : Nat) ≤ (140737488355328 : Nat) → False) ∧ ((True ∧ decide (i < len) = true) ∧ ¬((0 : Int) ≤ i ∧ i < (↑syms.length : Int)) → False) ∧ (True ∧ decide (i < len) = false → True ∧ (l, ((), (), ()), (), t) = ((kidsS (treeS d g) (List.drop i.toNat syms) l).2, u, (), t.1, t.2.1, t.2.2 ++ (kidsS (treeS d g) (List.drop i.toNat syms) l).1)) ∧ (True)
theorem tree.L2.eq (d : Nat) (l : List Int) (n : Int) (g : List ByteArray × List ByteArray × List (Int × List Int)) (u : Unit × Unit × Unit) (v : Unit) (t : Int × Int × List Tree) (syms : List Int) (len : Int) (i : Int) : tree.L2.g d l n g u v t syms len i = tree.L2.T0 d l n g u v t syms len i := by kernel_rfl
theorem tree.L2.ok (d : Nat) (l : List Int) (n : Int) (g : List ByteArray × List ByteArray × List (Int × List Int)) (u : Unit × Unit × Unit) (v : Unit) (t : Int × Int × List Tree) (syms : List Int) (len : Int) (i : Int) (hx : len = syms.length ∧ 0 ≤ i ∧ i ≤ len ∧ syms.length ≤ 99 ∧ t.2.2.length ≤ i.toNat ∧ n = (d : Int) + 1 ∧ d ≤ 98 ∧ okG g) : tree.L2.T0 d l n g u v t syms len i := by
  unfold tree.L2.T0
  repeat rw [eT_eq]
  obtain ⟨rfl, h0, h1, h2, h3, rfl, h4, h5⟩ := hx
  have w1 : IntKind.i64.wrap (i + 1) = i + 1 := wrapI64 (by omega) (by omega)
  rw [w1]
  have w2 : IntKind.i64.wrap ((d : Int) + 1 - 1) = d := by rw [wrapI64 (by omega) (by omega)]; omega
  rw [w2, Int.toNat_natCast]
  have hD := fun h => drop_int 0 h0 (l := syms) h
  ((repeat' (first | exact trivial | apply And.intro)) <;> (intro hw; (try (simp only [true_and, and_true, decide_eq_true_eq, decide_eq_false_iff_not, beq_iff_eq, bne_iff_ne, beq_eq_false_iff_ne, bne_eq_false_iff_eq, ne_eq, Bool.not_eq_true, Bool.not_eq_false, not_true_eq_false, not_false_eq_true, Bool.not_eq_eq_eq_not, Bool.not_true, Bool.not_false, forall_const, imp_self, Bool.true_eq_false, Bool.false_eq_true, reduceCtorEq] at hw)); (try first | (exfalso; omega) | exact ⟨trivial, rfl⟩ | exact (hw hx).elim | exact (hw.2 hx).elim)))
  · exact hw.2 ⟨by omega, h5⟩
  · rw [hD (by omega), kidsS]
    exact ⟨⟨rfl, by omega, by omega, h2, by simp only [List.length_append, List.length_singleton]; omega, rfl, h4, h5⟩, by simp only [tree.L2.mu]; omega, fun _ => ⟨trivial, by rw [List.append_assoc]; rfl⟩, trivial⟩
  · rw [drop_int_end hw, kidsS, List.append_nil]
    exact ⟨trivial, rfl⟩
theorem tree.L2.lp (d : Nat) (ih : FnOk Try.prog (tree d)) : LpAt Try.prog 28 2 (tree.L2 d) := lp_evalH (l := []) (lf := 1000) (fun _ => cfOf_ok (fns_cons ih (fns_nil _))) (lps_nil _ _) (by kernel_rfl) _ (tree.L2.mu d) (fun ⟨l, n, g, u, v, t, syms, len, i⟩ hx => Hid.of (tree.L2.eq d l n g u v t syms len i) (tree.L2.ok d l n g u v t syms len i hx))
theorem min1 {α : Type} (l : List α) : List.drop (if (l.length : Int) < 1 then (l.length : Int) else 1).toNat l = l.drop 1 := by
  cases l with
  | nil => rfl
  | cons a r => rw [if_neg (by simp only [List.length_cons]; omega)]; rfl
theorem getD_mem {α : Type} {x : α} : ∀ {l : List α} {i : Nat}, i < l.length → l.getD i x ∈ l
  | [], i, h => by simp at h
  | a :: r, 0, _ => by simp
  | a :: r, i + 1, h => by rw [List.getD_cons_succ]; exact List.mem_cons_of_mem _ (getD_mem (by simpa using h))
theorem prodsOf_get {g : Gr} (h : okG g) (sym x : Int) : (prodsOf sym 0 g.2.2).length = 0 ∨ (0 ≤ x % ((prodsOf sym 0 g.2.2).length : Int) ∧ x % ((prodsOf sym 0 g.2.2).length : Int) < (prodsOf sym 0 g.2.2).length ∧ 0 ≤ (prodsOf sym 0 g.2.2).getD (x % ((prodsOf sym 0 g.2.2).length : Int)).toNat 0 ∧ (prodsOf sym 0 g.2.2).getD (x % ((prodsOf sym 0 g.2.2).length : Int)).toNat 0 < g.2.2.length ∧ (g.2.2.getD ((prodsOf sym 0 g.2.2).getD (x % ((prodsOf sym 0 g.2.2).length : Int)).toNat 0).toNat (0, [])).2.length ≤ 6) := by
  by_cases h0 : (prodsOf sym 0 g.2.2).length = 0
  · exact .inl h0
  · right
    have e1 := Int.emod_nonneg x (show ((prodsOf sym 0 g.2.2).length : Int) ≠ 0 by omega)
    have e2 := Int.emod_lt_of_pos x (show (0 : Int) < (prodsOf sym 0 g.2.2).length by omega)
    have hm : (prodsOf sym 0 g.2.2).getD (x % ((prodsOf sym 0 g.2.2).length : Int)).toNat 0 ∈ prodsOf sym 0 g.2.2 := getD_mem (by omega)
    obtain ⟨m1, m2, _⟩ := prodsOf_mem hm
    refine ⟨e1, e2, m1, by omega, ?_⟩
    generalize (prodsOf sym 0 g.2.2).getD (x % ((prodsOf sym 0 g.2.2).length : Int)).toNat 0 = p at *
    exact h.2.2.2 _ (getD_mem (by omega))
noncomputable def treeA (d : Nat) : Face := ⟨28, [.v GR, .v (.int .i64), .v (.sl (.int .i64)), .v (.int .i64)], fun (g, sym, l, n) => some (n = (d : Int) + 1 ∧ d ≤ 98 ∧ okG g),
  [⟨false, [.v .tree, .v (.sl (.int .i64))], fun (g, sym, l, n) => treeS n.toNat g sym l, fun (g, sym, l, n) => none⟩]⟩
noncomputable def treeA.g (d : Nat) (g : List ByteArray × List ByteArray × List (Int × List Int)) (sym : Int) (l : List Int) (n : Int) : Prop := GoodFA Try.prog (cfOf [within]) [(0, tree.L0), (2, tree.L2 d)] 1000 (treeA d) (g, sym, l, n)
noncomputable def treeA.q12 (sym : Int) (l : List Int) (n : Int) : Prop := ((True ∧ decide (sym < (100 : Int)) = false) ∧ (n == (0 : Int)) = false) ∧ l.length ≤ (9223372036854775807 : Nat)
noncomputable def treeA.q4 (sym : Int) (l : List Int) (n : Int) : Prop := ((treeA.q12 sym l n) ∧ ((↑l.length : Int) == (0 : Int)) = false) ∧ (0 : Int) ≤ (0 : Int) ∧ (0 : Int) < (↑l.length : Int)
noncomputable def treeA.q0 (g : List ByteArray × List ByteArray × List (Int × List Int)) (sym : Int) (l : List Int) (n : Int) : Prop := ((((treeA.q4 sym l n) ∧ ((l.getD (Int.toNat (0 : Int)) (0 : Int)).tmod (6 : Int) == (5 : Int)) = false) ∧ List.length g.2.2 ≤ (9223372036854775807 : Nat)) ∧ (↑(List.length g.2.2) : Int) = (↑(List.length g.2.2) : Int) ∧ (0 : Int) ≤ (0 : Int) ∧ (0 : Int) ≤ (↑(List.length g.2.2) : Int) ∧ List.length g.2.2 ≤ (99 : Nat) ∧ (0 : Nat) ≤ Int.toNat (0 : Int)) ∧ ([] ++ prodsOf sym (0 : Int) (List.drop (Int.toNat (0 : Int)) g.2.2)).length ≤ (9223372036854775807 : Nat)
noncomputable def treeA.q7 (g : List ByteArray × List ByteArray × List (Int × List Int)) (sym : Int) (l : List Int) (n : Int) : Prop := (((treeA.q0 g sym l n) ∧ ((↑([] ++ prodsOf sym (0 : Int) (List.drop (Int.toNat (0 : Int)) g.2.2)).length : Int) == (0 : Int)) = false) ∧ (0 : Int) ≤ (0 : Int) ∧ (0 : Int) < (↑l.length : Int)) ∧ ([] ++ prodsOf sym (0 : Int) (List.drop (Int.toNat (0 : Int)) g.2.2)).length ≤ (9223372036854775807 : Nat)
noncomputable def treeA.q15 (g : List ByteArray × List ByteArray × List (Int × List Int)) (sym : Int) (l : List Int) (n : Int) : Prop := (treeA.q7 g sym l n) ∧ (0 : Int) < (↑([] ++ prodsOf sym (0 : Int) (List.drop (Int.toNat (0 : Int)) g.2.2)).length : Int) ∧ (↑([] ++ prodsOf sym (0 : Int) (List.drop (Int.toNat (0 : Int)) g.2.2)).length : Int) ≤ (9223372036854775807 : Int)
noncomputable def treeA.q1 (g : List ByteArray × List ByteArray × List (Int × List Int)) (sym : Int) (l : List Int) (n : Int) : Prop := (treeA.q15 g sym l n) ∧ (0 : Int) ≤ l.getD (Int.toNat (0 : Int)) (0 : Int) % (↑([] ++ prodsOf sym (0 : Int) (List.drop (Int.toNat (0 : Int)) g.2.2)).length : Int) ∧ l.getD (Int.toNat (0 : Int)) (0 : Int) % (↑([] ++ prodsOf sym (0 : Int) (List.drop (Int.toNat (0 : Int)) g.2.2)).length : Int) < (↑([] ++ prodsOf sym (0 : Int) (List.drop (Int.toNat (0 : Int)) g.2.2)).length : Int)
noncomputable def treeA.q2 (l : List Int) : Prop := ((0 : Int) ≤ if (↑l.length : Int) < (1 : Int) then (↑l.length : Int) else (1 : Int)) ∧ (if (↑l.length : Int) < (1 : Int) then (↑l.length : Int) else (1 : Int)) ≤ (↑l.length : Int) ∧ (↑l.length : Int) ≤ (↑l.length : Int)
noncomputable def treeA.q11 (g : List ByteArray × List ByteArray × List (Int × List Int)) (sym : Int) (l : List Int) (n : Int) : Prop := (treeA.q1 g sym l n) ∧ (l.getD (Int.toNat (0 : Int)) (0 : Int) % (↑([] ++ prodsOf sym (0 : Int) (List.drop (Int.toNat (0 : Int)) g.2.2)).length : Int)).toNat < ([] ++ prodsOf sym (0 : Int) (List.drop (Int.toNat (0 : Int)) g.2.2)).length
noncomputable def treeA.q3 (g : List ByteArray × List ByteArray × List (Int × List Int)) (sym : Int) (l : List Int) (n : Int) : Prop := (((treeA.q11 g sym l n) ∧ (0 : Int) ≤ (1 : Int) ∧ (1 : Int) ≤ (↑l.length : Int) ∧ (↑l.length : Int) ≤ (↑l.length : Int)) ∧ (0 : Int) ≤ ([] ++ prodsOf sym (0 : Int) (List.drop (Int.toNat (0 : Int)) g.2.2)).getD (l.getD (Int.toNat (0 : Int)) (0 : Int) % (↑([] ++ prodsOf sym (0 : Int) (List.drop (Int.toNat (0 : Int)) g.2.2)).length : Int)).toNat (0 : Int) ∧ ([] ++ prodsOf sym (0 : Int) (List.drop (Int.toNat (0 : Int)) g.2.2)).getD (l.getD (Int.toNat (0 : Int)) (0 : Int) % (↑([] ++ prodsOf sym (0 : Int) (List.drop (Int.toNat (0 : Int)) g.2.2)).length : Int)).toNat (0 : Int) < (↑(List.length g.2.2) : Int)) ∧ List.length (List.getD g.2.2 (([] ++ prodsOf sym (0 : Int) (List.drop (Int.toNat (0 : Int)) g.2.2)).getD (l.getD (Int.toNat (0 : Int)) (0 : Int) % (↑([] ++ prodsOf sym (0 : Int) (List.drop (Int.toNat (0 : Int)) g.2.2)).length : Int)).toNat (0 : Int)).toNat ((0 : Int), [])).2 ≤ (9223372036854775807 : Nat)
noncomputable def treeA.q17 (sym : Int) (l : List Int) (n : Int) : Prop := ((treeA.q12 sym l n) ∧ ((↑l.length : Int) == (0 : Int)) = true) ∧ l.length ≤ (9223372036854775807 : Nat)
noncomputable def treeA.q5 (g : List ByteArray × List ByteArray × List (Int × List Int)) (sym : Int) (l : List Int) (n : Int) : Prop := (treeA.q17 sym l n) ∧ ((0 : Int) ≤ if (↑l.length : Int) < (1 : Int) then (↑l.length : Int) else (1 : Int)) ∧ (if (↑l.length : Int) < (1 : Int) then (↑l.length : Int) else (1 : Int)) ≤ (↑l.length : Int) ∧ (↑l.length : Int) ≤ (↑l.length : Int) → True ∧ (Tree.mk sym (-1 : Int) [], List.drop (if (↑l.length : Int) < (1 : Int) then (↑l.length : Int) else (1 : Int)).toNat (List.take (↑l.length : Int).toNat l)) = treeS n.toNat g sym l
noncomputable def treeA.q13 (g : List ByteArray × List ByteArray × List (Int × List Int)) (sym : Int) (l : List Int) (n : Int) : Prop := ((treeA.q0 g sym l n) ∧ ((↑([] ++ prodsOf sym (0 : Int) (List.drop (Int.toNat (0 : Int)) g.2.2)).length : Int) == (0 : Int)) = true) ∧ l.length ≤ (9223372036854775807 : Nat)
noncomputable def treeA.q6 (g : List ByteArray × List ByteArray × List (Int × List Int)) (sym : Int) (l : List Int) (n : Int) : Prop := (treeA.q13 g sym l n) ∧ ((0 : Int) ≤ if (↑l.length : Int) < (1 : Int) then (↑l.length : Int) else (1 : Int)) ∧ (if (↑l.length : Int) < (1 : Int) then (↑l.length : Int) else (1 : Int)) ≤ (↑l.length : Int) ∧ (↑l.length : Int) ≤ (↑l.length : Int) → True ∧ (Tree.mk sym (-1 : Int) [], List.drop (if (↑l.length : Int) < (1 : Int) then (↑l.length : Int) else (1 : Int)).toNat (List.take (↑l.length : Int).toNat l)) = treeS n.toNat g sym l
noncomputable def treeA.q14 (sym : Int) (l : List Int) (n : Int) : Prop := ((treeA.q4 sym l n) ∧ ((l.getD (Int.toNat (0 : Int)) (0 : Int)).tmod (6 : Int) == (5 : Int)) = true) ∧ l.length ≤ (9223372036854775807 : Nat)
noncomputable def treeA.q8 (g : List ByteArray × List ByteArray × List (Int × List Int)) (sym : Int) (l : List Int) (n : Int) : Prop := (treeA.q14 sym l n) ∧ ((0 : Int) ≤ if (↑l.length : Int) < (1 : Int) then (↑l.length : Int) else (1 : Int)) ∧ (if (↑l.length : Int) < (1 : Int) then (↑l.length : Int) else (1 : Int)) ≤ (↑l.length : Int) ∧ (↑l.length : Int) ≤ (↑l.length : Int) → True ∧ (Tree.mk sym (-1 : Int) [], List.drop (if (↑l.length : Int) < (1 : Int) then (↑l.length : Int) else (1 : Int)).toNat (List.take (↑l.length : Int).toNat l)) = treeS n.toNat g sym l
noncomputable def treeA.q16 (sym : Int) (l : List Int) (n : Int) : Prop := ((True ∧ decide (sym < (100 : Int)) = false) ∧ (n == (0 : Int)) = true) ∧ l.length ≤ (9223372036854775807 : Nat)
noncomputable def treeA.q9 (g : List ByteArray × List ByteArray × List (Int × List Int)) (sym : Int) (l : List Int) (n : Int) : Prop := (treeA.q16 sym l n) ∧ ((0 : Int) ≤ if (↑l.length : Int) < (1 : Int) then (↑l.length : Int) else (1 : Int)) ∧ (if (↑l.length : Int) < (1 : Int) then (↑l.length : Int) else (1 : Int)) ≤ (↑l.length : Int) ∧ (↑l.length : Int) ≤ (↑l.length : Int) → True ∧ (Tree.mk sym (-1 : Int) [], List.drop (if (↑l.length : Int) < (1 : Int) then (↑l.length : Int) else (1 : Int)).toNat (List.take (↑l.length : Int).toNat l)) = treeS n.toNat g sym l
noncomputable def treeA.q10 (g : List ByteArray × List ByteArray × List (Int × List Int)) (sym : Int) (l : List Int) (n : Int) : Prop := ((True ∧ decide (sym < (100 : Int)) = true) ∧ l.length ≤ (9223372036854775807 : Nat)) ∧ ((0 : Int) ≤ if (↑l.length : Int) < (1 : Int) then (↑l.length : Int) else (1 : Int)) ∧ (if (↑l.length : Int) < (1 : Int) then (↑l.length : Int) else (1 : Int)) ≤ (↑l.length : Int) ∧ (↑l.length : Int) ≤ (↑l.length : Int) → True ∧ (Tree.mk sym (-1 : Int) [], List.drop (if (↑l.length : Int) < (1 : Int) then (↑l.length : Int) else (1 : Int)).toNat (List.take (↑l.length : Int).toNat l)) = treeS n.toNat g sym l
noncomputable def treeA.T (d : Nat) (g : List ByteArray × List ByteArray × List (Int × List Int)) (sym : Int) (l : List Int) (n : Int) : Prop := (((True ∧ decide (sym < (100 : Int)) = true) ∧ l.length ≤ (9223372036854775807 : Nat)) ∧ ¬(treeA.q2 l) → False) ∧ (treeA.q10 g sym l n) ∧ (((True ∧ decide (sym < (100 : Int)) = true) ∧ l.length ≤ (9223372036854775807 : Nat)) ∧ ¬(treeA.q2 l) → False) ∧ (treeA.q10 g sym l n) ∧ ((treeA.q16 sym l n) ∧ ¬(treeA.q2 l) → False) ∧ (treeA.q9 g sym l n) ∧ ((treeA.q16 sym l n) ∧ ¬(treeA.q2 l) → False) ∧ (treeA.q9 g sym l n) ∧ ((treeA.q17 sym l n) ∧ ¬(treeA.q2 l) → False) ∧ (treeA.q5 g sym l n) ∧ ((treeA.q17 sym l n) ∧ ¬(treeA.q2 l) → False) ∧ (treeA.q5 g sym l n) ∧ ((treeA.q14 sym l n) ∧ ¬(treeA.q2 l) → False) ∧ (treeA.q8 g sym l n) ∧ ((treeA.q14 sym l n) ∧ ¬(treeA.q2 l) → False) ∧ (treeA.q8 g sym l n) ∧ ((((treeA.q4 sym l n) ∧ ((l.getD (Int.toNat (0 : Int)) (0 : Int)).tmod (6 : Int) == (5 : Int)) = false) ∧ List.length g.2.2 ≤ (9223372036854775807 : Nat)) ∧ ¬((↑(List.length g.2.2) : Int) = (↑(List.length g.2.2) : Int) ∧ (0 : Int) ≤ (0 : Int) ∧ (0 : Int) ≤ (↑(List.length g.2.2) : Int) ∧ List.length g.2.2 ≤ (99 : Nat) ∧ (0 : Nat) ≤ Int.toNat (0 : Int)) → False) ∧ ((treeA.q13 g sym l n) ∧ ¬(treeA.q2 l) → False) ∧ (treeA.q6 g sym l n) ∧ ((treeA.q13 g sym l n) ∧ ¬(treeA.q2 l) → False) ∧ (treeA.q6 g sym l n) ∧ ((treeA.q7 g sym l n) ∧ ¬((0 : Int) < (↑([] ++ prodsOf sym (0 : Int) (List.drop (Int.toNat (0 : Int)) g.2.2)).length : Int) ∧ (↑([] ++ prodsOf sym (0 : Int) (List.drop (Int.toNat (0 : Int)) g.2.2)).length : Int) ≤ (9223372036854775807 : Int)) → False) ∧ ((treeA.q3 g sym l n) ∧ ¬((↑(List.length (List.getD g.2.2 (([] ++ prodsOf sym (0 : Int) (List.drop (Int.toNat (0 : Int)) g.2.2)).getD (l.getD (Int.toNat (0 : Int)) (0 : Int) % (↑([] ++ prodsOf sym (0 : Int) (List.drop (Int.toNat (0 : Int)) g.2.2)).length : Int)).toNat (0 : Int)).toNat ((0 : Int), [])).2) : Int) = (↑(List.length (List.getD g.2.2 (([] ++ prodsOf sym (0 : Int) (List.drop (Int.toNat (0 : Int)) g.2.2)).getD (l.getD (Int.toNat (0 : Int)) (0 : Int) % (↑([] ++ prodsOf sym (0 : Int) (List.drop (Int.toNat (0 : Int)) g.2.2)).length : Int)).toNat (0 : Int)).toNat ((0 : Int), [])).2) : Int) ∧ (0 : Int) ≤ (0 : Int) ∧ (0 : Int) ≤ (↑(List.length (List.getD g.2.2 (([] ++ prodsOf sym (0 : Int) (List.drop (Int.toNat (0 : Int)) g.2.2)).getD (l.getD (Int.toNat (0 : Int)) (0 : Int) % (↑([] ++ prodsOf sym (0 : Int) (List.drop (Int.toNat (0 : Int)) g.2.2)).length : Int)).toNat (0 : Int)).toNat ((0 : Int), [])).2) : Int) ∧ List.length (List.getD g.2.2 (([] ++ prodsOf sym (0 : Int) (List.drop (Int.toNat (0 : Int)) g.2.2)).getD (l.getD (Int.toNat (0 : Int)) (0 : Int) % (↑([] ++ prodsOf sym (0 : Int) (List.drop (Int.toNat (0 : Int)) g.2.2)).length : Int)).toNat (0 : Int)).toNat ((0 : Int), [])).2 ≤ (99 : Nat) ∧ (0 : Nat) ≤ Int.toNat (0 : Int) ∧ n = (↑d : Int) + (1 : Int) ∧ d ≤ (98 : Nat) ∧ okG g) → False) ∧ ((treeA.q3 g sym l n) ∧ (↑(List.length (List.getD g.2.2 (([] ++ prodsOf sym (0 : Int) (List.drop (Int.toNat (0 : Int)) g.2.2)).getD (l.getD (Int.toNat (0 : Int)) (0 : Int) % (↑([] ++ prodsOf sym (0 : Int) (List.drop (Int.toNat (0 : Int)) g.2.2)).length : Int)).toNat (0 : Int)).toNat ((0 : Int), [])).2) : Int) = (↑(List.length (List.getD g.2.2 (([] ++ prodsOf sym (0 : Int) (List.drop (Int.toNat (0 : Int)) g.2.2)).getD (l.getD (Int.toNat (0 : Int)) (0 : Int) % (↑([] ++ prodsOf sym (0 : Int) (List.drop (Int.toNat (0 : Int)) g.2.2)).length : Int)).toNat (0 : Int)).toNat ((0 : Int), [])).2) : Int) ∧ (0 : Int) ≤ (0 : Int) ∧ (0 : Int) ≤ (↑(List.length (List.getD g.2.2 (([] ++ prodsOf sym (0 : Int) (List.drop (Int.toNat (0 : Int)) g.2.2)).getD (l.getD (Int.toNat (0 : Int)) (0 : Int) % (↑([] ++ prodsOf sym (0 : Int) (List.drop (Int.toNat (0 : Int)) g.2.2)).length : Int)).toNat (0 : Int)).toNat ((0 : Int), [])).2) : Int) ∧ List.length (List.getD g.2.2 (([] ++ prodsOf sym (0 : Int) (List.drop (Int.toNat (0 : Int)) g.2.2)).getD (l.getD (Int.toNat (0 : Int)) (0 : Int) % (↑([] ++ prodsOf sym (0 : Int) (List.drop (Int.toNat (0 : Int)) g.2.2)).length : Int)).toNat (0 : Int)).toNat ((0 : Int), [])).2 ≤ (99 : Nat) ∧ (0 : Nat) ≤ Int.toNat (0 : Int) ∧ n = (↑d : Int) + (1 : Int) ∧ d ≤ (98 : Nat) ∧ okG g → True ∧ (Tree.mk sym (([] ++ prodsOf sym (0 : Int) (List.drop (Int.toNat (0 : Int)) g.2.2)).getD (l.getD (Int.toNat (0 : Int)) (0 : Int) % (↑([] ++ prodsOf sym (0 : Int) (List.drop (Int.toNat (0 : Int)) g.2.2)).length : Int)).toNat (0 : Int)) ([] ++ (kidsS (treeS d g) (List.drop (Int.toNat (0 : Int)) (List.getD g.2.2 (([] ++ prodsOf sym (0 : Int) (List.drop (Int.toNat (0 : Int)) g.2.2)).getD (l.getD (Int.toNat (0 : Int)) (0 : Int) % (↑([] ++ prodsOf sym (0 : Int) (List.drop (Int.toNat (0 : Int)) g.2.2)).length : Int)).toNat (0 : Int)).toNat ((0 : Int), ([] : List Int))).2) (List.drop (Int.toNat (1 : Int)) (List.take (↑l.length : Int).toNat l))).1), (kidsS (treeS d g) (List.drop (Int.toNat (0 : Int)) (List.getD g.2.2 (([] ++ prodsOf sym (0 : Int) (List.drop (Int.toNat (0 : Int)) g.2.2)).getD (l.getD (Int.toNat (0 : Int)) (0 : Int) % (↑([] ++ prodsOf sym (0 : Int) (List.drop (Int.toNat (0 : Int)) g.2.2)).length : Int)).toNat (0 : Int)).toNat ((0 : Int), ([] : List Int))).2) (List.drop (Int.toNat (1 : Int)) (List.take (↑l.length : Int).toNat l))).2) = treeS n.toNat g sym l) ∧ (((treeA.q11 g sym l n) ∧ (0 : Int) ≤ (1 : Int) ∧ (1 : Int) ≤ (↑l.length : Int) ∧ (↑l.length : Int) ≤ (↑l.length : Int)) ∧ ¬((0 : Int) ≤ ([] ++ prodsOf sym (0 : Int) (List.drop (Int.toNat (0 : Int)) g.2.2)).getD (l.getD (Int.toNat (0 : Int)) (0 : Int) % (↑([] ++ prodsOf sym (0 : Int) (List.drop (Int.toNat (0 : Int)) g.2.2)).length : Int)).toNat (0 : Int) ∧ ([] ++ prodsOf sym (0 : Int) (List.drop (Int.toNat (0 : Int)) g.2.2)).getD (l.getD (Int.toNat (0 : Int)) (0 : Int) % (↑([] ++ prodsOf sym (0 : Int) (List.drop (Int.toNat (0 : Int)) g.2.2)).length : Int)).toNat (0 : Int) < (↑(List.length g.2.2) : Int)) → False) ∧ ((treeA.q11 g sym l n) ∧ ¬((0 : Int) ≤ (1 : Int) ∧ (1 : Int) ≤ (↑l.length : Int) ∧ (↑l.length : Int) ≤ (↑l.length : Int)) → False) ∧ ((treeA.q1 g sym l n) ∧ ¬(l.getD (Int.toNat (0 : Int)) (0 : Int) % (↑([] ++ prodsOf sym (0 : Int) (List.drop (Int.toNat (0 : Int)) g.2.2)).length : Int)).toNat < ([] ++ prodsOf sym (0 : Int) (List.drop (Int.toNat (0 : Int)) g.2.2)).length → False) ∧ ((treeA.q15 g sym l n) ∧ ¬((0 : Int) ≤ l.getD (Int.toNat (0 : Int)) (0 : Int) % (↑([] ++ prodsOf sym (0 : Int) (List.drop (Int.toNat (0 : Int)) g.2.2)).length : Int) ∧ l.getD (Int.toNat (0 : Int)) (0 : Int) % (↑([] ++ prodsOf sym (0 : Int) (List.drop (Int.toNat (0 : Int)) g.2.2)).length : Int) < (↑([] ++ prodsOf sym (0 : Int) (List.drop (Int.toNat (0 : Int)) g.2.2)).length : Int)) → False) ∧ (((treeA.q0 g sym l n) ∧ ((↑([] ++ prodsOf sym (0 : Int) (List.drop (Int.toNat (0 : Int)) g.2.2)).length : Int) == (0 : Int)) = false) ∧ ¬((0 : Int) ≤ (0 : Int) ∧ (0 : Int) < (↑l.length : Int)) → False) ∧ (((treeA.q12 sym l n) ∧ ((↑l.length : Int) == (0 : Int)) = false) ∧ ¬((0 : Int) ≤ (0 : Int) ∧ (0 : Int) < (↑l.length : Int)) → False) ∧ (True)
theorem treeA.eq (d : Nat) (g : List ByteArray × List ByteArray × List (Int × List Int)) (sym : Int) (l : List Int) (n : Int) : treeA.g d g sym l n = treeA.T d g sym l n := by kernel_rfl
theorem treeA.ok (d : Nat) (g : List ByteArray × List ByteArray × List (Int × List Int)) (sym : Int) (l : List Int) (n : Int) (hx : n = (d : Int) + 1 ∧ d ≤ 98 ∧ okG g) : treeA.T d g sym l n := by
  obtain ⟨rfl, h1, h2⟩ := hx
  have hg := h2.2.2.1
  have hP := prodsOf_get h2 sym (l.getD 0 0)
  delta treeA.T treeA.q12 treeA.q4 treeA.q0 treeA.q7 treeA.q15 treeA.q1 treeA.q2 treeA.q11 treeA.q3 treeA.q17 treeA.q5 treeA.q13 treeA.q6 treeA.q14 treeA.q8 treeA.q16 treeA.q9 treeA.q10
  simp only [List.nil_append, show Int.toNat 0 = 0 from rfl, show Int.toNat 1 = 1 from rfl, List.drop_zero, Int.toNat_natCast, List.take_length, min1]
  rw [show ((d : Int) + 1).toNat = d + 1 by omega, treeS]
  have hl := prodsOf_len sym g.2.2 0
  generalize prodsOf sym 0 g.2.2 = ps at *
  generalize (l.getD 0 0).tmod 6 = q at *
  generalize l.getD 0 0 % (ps.length : Int) = k at *
  generalize ps.getD k.toNat 0 = p at *
  generalize (g.2.2.getD p.toNat (0, [])).2 = rt at *
  have hb : (if (l.length : Int) < 1 then (l.length : Int) else 1) ≤ l.length ∧ 0 ≤ (if (l.length : Int) < 1 then (l.length : Int) else 1) := by split <;> omega
  generalize (if (l.length : Int) < 1 then (l.length : Int) else 1) = mn at *
  ((repeat' (first | exact trivial | apply And.intro)) <;> (intro hw; (try (simp only [true_and, and_true, decide_eq_true_eq, decide_eq_false_iff_not, beq_iff_eq, bne_iff_ne, beq_eq_false_iff_ne, bne_eq_false_iff_eq, ne_eq, Bool.not_eq_true, Bool.not_eq_false, not_true_eq_false, not_false_eq_true, Bool.not_eq_eq_eq_not, Bool.not_true, Bool.not_false, forall_const, imp_self, Bool.true_eq_false, Bool.false_eq_true, reduceCtorEq] at hw)); (try first | (exfalso; omega) | exact ⟨trivial, rfl⟩ | exact (hw hx).elim | exact (hw.2 hx).elim)))
  all_goals first
    | (exfalso; exact hw.2 ⟨by omega, by omega, by omega, by omega, h1, h2⟩)
    | (refine ⟨trivial, ?_⟩; rw [if_pos (by omega)])
    | (refine ⟨trivial, ?_⟩; rw [if_neg (by omega)])
theorem treeA.fn (d : Nat) (ih : FnOk Try.prog (tree d)) : FnOk Try.prog (treeA d) := fn_evalH (l := [(0, tree.L0), (2, tree.L2 d)]) (lf := 1000) (fun _ => cfOf_ok (fns_cons within.fn (fns_nil _))) _ (lps_cons (tree.L0.lp) (lps_cons (tree.L2.lp d ih) (lps_nil _ _))) (by kernel_rfl) (fun ⟨g, sym, l, n⟩ hx => Hid.of (treeA.eq d g sym l n) (treeA.ok d g sym l n hx))
noncomputable def tree0  : Face := ⟨28, [.v GR, .v (.int .i64), .v (.sl (.int .i64)), .v (.int .i64)], fun (g, sym, l, n) => some (n = 0 ∧ okG g),
  [⟨false, [.v .tree, .v (.sl (.int .i64))], fun (g, sym, l, n) => treeS n.toNat g sym l, fun (g, sym, l, n) => none⟩]⟩
noncomputable def tree0.g  (g : List ByteArray × List ByteArray × List (Int × List Int)) (sym : Int) (l : List Int) (n : Int) : Prop := GoodFA Try.prog (cfOf [within]) [(0, tree.L0), (1000003, deadL), (2, deadL)] 1000 tree0 (g, sym, l, n)
noncomputable def tree0.q0 (l : List Int) : Prop := ((0 : Int) ≤ if (↑l.length : Int) < (1 : Int) then (↑l.length : Int) else (1 : Int)) ∧ (if (↑l.length : Int) < (1 : Int) then (↑l.length : Int) else (1 : Int)) ≤ (↑l.length : Int) ∧ (↑l.length : Int) ≤ (↑l.length : Int)
noncomputable def tree0.q5 (sym : Int) (l : List Int) (n : Int) : Prop := ((True ∧ decide (sym < (100 : Int)) = false) ∧ (n == (0 : Int)) = false) ∧ l.length ≤ (9223372036854775807 : Nat)
noncomputable def tree0.q1 (sym : Int) (l : List Int) (n : Int) : Prop := ((((tree0.q5 sym l n) ∧ ((↑l.length : Int) == (0 : Int)) = false) ∧ (0 : Int) ≤ (0 : Int) ∧ (0 : Int) < (↑l.length : Int)) ∧ ((l.getD (Int.toNat (0 : Int)) (0 : Int)).tmod (6 : Int) == (5 : Int)) = true) ∧ l.length ≤ (9223372036854775807 : Nat)
noncomputable def tree0.q8 (sym : Int) (l : List Int) (n : Int) : Prop := ((tree0.q5 sym l n) ∧ ((↑l.length : Int) == (0 : Int)) = true) ∧ l.length ≤ (9223372036854775807 : Nat)
noncomputable def tree0.q2 (g : List ByteArray × List ByteArray × List (Int × List Int)) (sym : Int) (l : List Int) (n : Int) : Prop := (tree0.q8 sym l n) ∧ ((0 : Int) ≤ if (↑l.length : Int) < (1 : Int) then (↑l.length : Int) else (1 : Int)) ∧ (if (↑l.length : Int) < (1 : Int) then (↑l.length : Int) else (1 : Int)) ≤ (↑l.length : Int) ∧ (↑l.length : Int) ≤ (↑l.length : Int) → True ∧ (Tree.mk sym (-1 : Int) [], List.drop (if (↑l.length : Int) < (1 : Int) then (↑l.length : Int) else (1 : Int)).toNat (List.take (↑l.length : Int).toNat l)) = treeS n.toNat g sym l
noncomputable def tree0.q7 (sym : Int) (l : List Int) (n : Int) : Prop := ((True ∧ decide (sym < (100 : Int)) = false) ∧ (n == (0 : Int)) = true) ∧ l.length ≤ (9223372036854775807 : Nat)
noncomputable def tree0.q3 (g : List ByteArray × List ByteArray × List (Int × List Int)) (sym : Int) (l : List Int) (n : Int) : Prop := (tree0.q7 sym l n) ∧ ((0 : Int) ≤ if (↑l.length : Int) < (1 : Int) then (↑l.length : Int) else (1 : Int)) ∧ (if (↑l.length : Int) < (1 : Int) then (↑l.length : Int) else (1 : Int)) ≤ (↑l.length : Int) ∧ (↑l.length : Int) ≤ (↑l.length : Int) → True ∧ (Tree.mk sym (-1 : Int) [], List.drop (if (↑l.length : Int) < (1 : Int) then (↑l.length : Int) else (1 : Int)).toNat (List.take (↑l.length : Int).toNat l)) = treeS n.toNat g sym l
noncomputable def tree0.q4 (g : List ByteArray × List ByteArray × List (Int × List Int)) (sym : Int) (l : List Int) (n : Int) : Prop := ((True ∧ decide (sym < (100 : Int)) = true) ∧ l.length ≤ (9223372036854775807 : Nat)) ∧ ((0 : Int) ≤ if (↑l.length : Int) < (1 : Int) then (↑l.length : Int) else (1 : Int)) ∧ (if (↑l.length : Int) < (1 : Int) then (↑l.length : Int) else (1 : Int)) ≤ (↑l.length : Int) ∧ (↑l.length : Int) ≤ (↑l.length : Int) → True ∧ (Tree.mk sym (-1 : Int) [], List.drop (if (↑l.length : Int) < (1 : Int) then (↑l.length : Int) else (1 : Int)).toNat (List.take (↑l.length : Int).toNat l)) = treeS n.toNat g sym l
noncomputable def tree0.q6 (g : List ByteArray × List ByteArray × List (Int × List Int)) (sym : Int) (l : List Int) (n : Int) : Prop := (tree0.q1 sym l n) ∧ ((0 : Int) ≤ if (↑l.length : Int) < (1 : Int) then (↑l.length : Int) else (1 : Int)) ∧ (if (↑l.length : Int) < (1 : Int) then (↑l.length : Int) else (1 : Int)) ≤ (↑l.length : Int) ∧ (↑l.length : Int) ≤ (↑l.length : Int) → True ∧ (Tree.mk sym (-1 : Int) [], List.drop (if (↑l.length : Int) < (1 : Int) then (↑l.length : Int) else (1 : Int)).toNat (List.take (↑l.length : Int).toNat l)) = treeS n.toNat g sym l
noncomputable def tree0.T (g : List ByteArray × List ByteArray × List (Int × List Int)) (sym : Int) (l : List Int) (n : Int) : Prop := (((True ∧ decide (sym < (100 : Int)) = true) ∧ l.length ≤ (9223372036854775807 : Nat)) ∧ ¬(tree0.q0 l) → False) ∧ (tree0.q4 g sym l n) ∧ (((True ∧ decide (sym < (100 : Int)) = true) ∧ l.length ≤ (9223372036854775807 : Nat)) ∧ ¬(tree0.q0 l) → False) ∧ (tree0.q4 g sym l n) ∧ ((tree0.q7 sym l n) ∧ ¬(tree0.q0 l) → False) ∧ (tree0.q3 g sym l n) ∧ ((tree0.q7 sym l n) ∧ ¬(tree0.q0 l) → False) ∧ (tree0.q3 g sym l n) ∧ ((tree0.q8 sym l n) ∧ ¬(tree0.q0 l) → False) ∧ (tree0.q2 g sym l n) ∧ ((tree0.q8 sym l n) ∧ ¬(tree0.q0 l) → False) ∧ (tree0.q2 g sym l n) ∧ ((tree0.q1 sym l n) ∧ ¬(tree0.q0 l) → False) ∧ (tree0.q6 g sym l n) ∧ ((tree0.q1 sym l n) ∧ ¬(tree0.q0 l) → False) ∧ (tree0.q6 g sym l n) ∧ (((((tree0.q5 sym l n) ∧ ((↑l.length : Int) == (0 : Int)) = false) ∧ (0 : Int) ≤ (0 : Int) ∧ (0 : Int) < (↑l.length : Int)) ∧ ((l.getD (Int.toNat (0 : Int)) (0 : Int)).tmod (6 : Int) == (5 : Int)) = false) ∧ ¬False → False) ∧ (((tree0.q5 sym l n) ∧ ((↑l.length : Int) == (0 : Int)) = false) ∧ ¬((0 : Int) ≤ (0 : Int) ∧ (0 : Int) < (↑l.length : Int)) → False) ∧ (True)
theorem tree0.eq  (g : List ByteArray × List ByteArray × List (Int × List Int)) (sym : Int) (l : List Int) (n : Int) : tree0.g  g sym l n = tree0.T  g sym l n := by kernel_rfl
theorem tree0.ok  (g : List ByteArray × List ByteArray × List (Int × List Int)) (sym : Int) (l : List Int) (n : Int) (hx : n = 0 ∧ okG g) : tree0.T  g sym l n := by
  obtain ⟨rfl, h2⟩ := hx
  delta tree0.T tree0.q0 tree0.q5 tree0.q1 tree0.q8 tree0.q2 tree0.q7 tree0.q3 tree0.q4 tree0.q6
  rw [show Int.toNat 0 = 0 from rfl]
  simp only [Int.toNat_natCast, List.take_length, min1]
  have hb : (if (l.length : Int) < 1 then (l.length : Int) else 1) ≤ l.length ∧ 0 ≤ (if (l.length : Int) < 1 then (l.length : Int) else 1) := by split <;> omega
  generalize (if (l.length : Int) < 1 then (l.length : Int) else 1) = mn at *
  ((repeat' (first | exact trivial | apply And.intro)) <;> (intro hw; (try (simp only [true_and, and_true, decide_eq_true_eq, decide_eq_false_iff_not, beq_iff_eq, bne_iff_ne, beq_eq_false_iff_ne, bne_eq_false_iff_eq, ne_eq, Bool.not_eq_true, Bool.not_eq_false, not_true_eq_false, not_false_eq_true, Bool.not_eq_eq_eq_not, Bool.not_true, Bool.not_false, forall_const, imp_self, Bool.true_eq_false, Bool.false_eq_true, reduceCtorEq] at hw)); (try first | (exfalso; omega) | exact ⟨trivial, rfl⟩ | exact (hw hx).elim | exact (hw.2 hx).elim)))
  all_goals (exfalso; simp only [and_false, false_and] at hw)
theorem tree0.fn   : FnOk Try.prog tree0 := fn_evalH (l := [(0, tree.L0), (1000003, deadL), (2, deadL)]) (lf := 1000) (fun _ => cfOf_ok (fns_cons within.fn (fns_nil _))) _ (lps_cons (tree.L0.lp) (lps_cons (lp_dead _ _ _) (lps_cons (lp_dead _ _ _) (lps_nil _ _)))) (by kernel_rfl) (fun ⟨g, sym, l, n⟩ hx => Hid.of (tree0.eq  g sym l n) (tree0.ok  g sym l n hx))
theorem tree.fn : ∀ d, FnOk Try.prog (tree d)
  | 0 => fn_pre tree0.fn fun ⟨g, sym, l, n⟩ h => ⟨h.1, h.2.2⟩
  | d + 1 => fn_pre (treeA.fn d (tree.fn d)) fun ⟨g, sym, l, n⟩ h => ⟨by have := h.1; simpa using this, by have := h.2.1; omega, h.2.2⟩
theorem toNat99 {n : Int} (h : 0 ≤ n) (h2 : n ≤ 99) : n = (n.toNat : Int) ∧ n.toNat ≤ 99 := ⟨by omega, by omega⟩
noncomputable def treeF : Face := ⟨28, [.v GR, .v (.int .i64), .v (.sl (.int .i64)), .v (.int .i64)], fun (g, sym, l, n) => some (0 ≤ n ∧ n ≤ 99 ∧ okG g), [⟨false, [.v .tree, .v (.sl (.int .i64))], fun (g, sym, l, n) => treeS n.toNat g sym l, fun _ => none⟩]⟩
theorem treeF.fn : FnOk Try.prog treeF := fn_all tree.fn (fun (g, sym, l, n) h => ⟨n.toNat, (toNat99 h.1 h.2.1).1, (toNat99 h.1 h.2.1).2, h.2.2⟩)
end Go.Proofs.Ytdmljeaigjfenaa.D

namespace Go.Proofs.Ytdmljeaigjfenaa.D
open Go Go.EV Go.TL Go.Proofs
set_option linter.unusedVariables false
set_option linter.unusedSimpArgs false
set_option maxRecDepth 100000
def ofS (g : Gr) (l : List Int) (deep : Int) : Tree := if g.2.1.length = 0 then .mk 1 (-1) [] else (treeS (deep % 6).toNat g (if 0 < l.length then 100 + IntKind.i64.wrap ((l.getD 0 0).tdiv 7) % (g.2.1.length : Int) else 100) l).1
noncomputable def of0  : Face := ⟨12, [.v GR, .v (.sl (.int .i64)), .v (.int .i64), .v (.int .i64), .v (.int .i64)], fun (g, l, deep, how, aa) => some (how = 0 ∧ okG g),
  [⟨false, [.v .tree], fun (g, l, deep, how, aa) => ofS g l deep, fun (g, l, deep, how, aa) => none⟩]⟩
noncomputable def of0.g  (g : List ByteArray × List ByteArray × List (Int × List Int)) (l : List Int) (deep : Int) (how : Int) (aa : Int) : Prop := GoodFA Try.prog (cfOf [within, treeF]) [(1000008, deadL)] 1000 of0 (g, l, deep, how, aa)
noncomputable def of0.q3 (g : List ByteArray × List ByteArray × List (Int × List Int)) (l : List Int) : Prop := ((True ∧ List.length g.2.1 ≤ (9223372036854775807 : Nat)) ∧ ((↑(List.length g.2.1) : Int) == (0 : Int)) = false) ∧ l.length ≤ (9223372036854775807 : Nat)
noncomputable def of0.q9 (g : List ByteArray × List ByteArray × List (Int × List Int)) (l : List Int) : Prop := (((of0.q3 g l) ∧ decide ((↑l.length : Int) > (0 : Int)) = true) ∧ (0 : Int) ≤ (0 : Int) ∧ (0 : Int) < (↑l.length : Int)) ∧ List.length g.2.1 ≤ (9223372036854775807 : Nat)
noncomputable def of0.q0 (g : List ByteArray × List ByteArray × List (Int × List Int)) (l : List Int) : Prop := (of0.q9 g l) ∧ (0 : Int) < (↑(List.length g.2.1) : Int) ∧ (↑(List.length g.2.1) : Int) ≤ (9223372036854775807 : Int)
noncomputable def of0.q1 (g : List ByteArray × List ByteArray × List (Int × List Int)) (l : List Int) : Prop := ((of0.q3 g l) ∧ decide ((↑l.length : Int) > (0 : Int)) = false) ∧ (0 : Int) < (6 : Int) ∧ (6 : Int) ≤ (9223372036854775807 : Int)
noncomputable def of0.q4 (g : List ByteArray × List ByteArray × List (Int × List Int)) (l : List Int) (deep : Int) : Prop := ((of0.q0 g l) ∧ (0 : Int) < (6 : Int) ∧ (6 : Int) ≤ (9223372036854775807 : Int)) ∧ (0 : Int) ≤ deep % (6 : Int) ∧ deep % (6 : Int) ≤ (99 : Int) ∧ okG g
noncomputable def of0.q2 (g : List ByteArray × List ByteArray × List (Int × List Int)) (l : List Int) (deep : Int) (how : Int) : Prop := (of0.q4 g l deep) ∧ (how.tmod (4 : Int) == (3 : Int)) = false → True ∧ eT (treeS (deep % (6 : Int)).toNat g (IntKind.i64.wrap ((100 : Int) + IntKind.i64.wrap ((l.getD (Int.toNat (0 : Int)) (0 : Int)).tdiv (7 : Int)) % (↑(List.length g.2.1) : Int))) l).1 = ofS g l deep
noncomputable def of0.q5 (g : List ByteArray × List ByteArray × List (Int × List Int)) (l : List Int) (deep : Int) (how : Int) : Prop := ((of0.q1 g l) ∧ (0 : Int) ≤ deep % (6 : Int) ∧ deep % (6 : Int) ≤ (99 : Int) ∧ okG g) ∧ (how.tmod (4 : Int) == (3 : Int)) = false → True ∧ eT (treeS (deep % (6 : Int)).toNat g (100 : Int) l).1 = ofS g l deep
noncomputable def of0.q6 (g : List ByteArray × List ByteArray × List (Int × List Int)) (l : List Int) (deep : Int) : Prop := ((of0.q0 g l) ∧ (0 : Int) < (6 : Int) ∧ (6 : Int) ≤ (9223372036854775807 : Int)) ∧ ¬((0 : Int) ≤ deep % (6 : Int) ∧ deep % (6 : Int) ≤ (99 : Int) ∧ okG g) → False
noncomputable def of0.q7 (g : List ByteArray × List ByteArray × List (Int × List Int)) (l : List Int) (deep : Int) (how : Int) : Prop := (((of0.q1 g l) ∧ (0 : Int) ≤ deep % (6 : Int) ∧ deep % (6 : Int) ≤ (99 : Int) ∧ okG g) ∧ (how.tmod (4 : Int) == (3 : Int)) = true) ∧ ¬False → False
noncomputable def of0.q8 (g : List ByteArray × List ByteArray × List (Int × List Int)) (l : List Int) (deep : Int) : Prop := (of0.q1 g l) ∧ ¬((0 : Int) ≤ deep % (6 : Int) ∧ deep % (6 : Int) ≤ (99 : Int) ∧ okG g) → False
noncomputable def of0.T0 (g : List ByteArray × List ByteArray × List (Int × List Int)) (l : List Int) (deep : Int) (how : Int) (aa : Int) : Prop := ((True ∧ List.length g.2.1 ≤ (9223372036854775807 : Nat)) ∧ ((↑(List.length g.2.1) : Int) == (0 : Int)) = true → True ∧ Tree.mk (1 : Int) (-1 : Int) [] = ofS g l deep) ∧ (((of0.q3 g l) ∧ decide ((↑l.length : Int) > (0 : Int)) = true) ∧ ¬((0 : Int) ≤ (0 : Int) ∧ (0 : Int) < (↑l.length : Int)) → False) ∧ ((of0.q9 g l) ∧ ¬((0 : Int) < (↑(List.length g.2.1) : Int) ∧ (↑(List.length g.2.1) : Int) ≤ (9223372036854775807 : Int)) → False) ∧ ((of0.q0 g l) ∧ ¬((0 : Int) < (6 : Int) ∧ (6 : Int) ≤ (9223372036854775807 : Int)) → False) ∧ (of0.q6 g l deep) ∧ (((of0.q4 g l deep) ∧ (how.tmod (4 : Int) == (3 : Int)) = true) ∧ ¬False → False) ∧ (of0.q2 g l deep how) ∧ (of0.q6 g l deep) ∧ (((of0.q4 g l deep) ∧ (how.tmod (4 : Int) == (3 : Int)) = true) ∧ ¬False → False) ∧ (of0.q2 g l deep how) ∧ ((of0.q0 g l) ∧ ¬((0 : Int) < (6 : Int) ∧ (6 : Int) ≤ (9223372036854775807 : Int)) → False) ∧ (of0.q6 g l deep) ∧ (((of0.q4 g l deep) ∧ (how.tmod (4 : Int) == (3 : Int)) = true) ∧ ¬False → False) ∧ (of0.q2 g l deep how) ∧ (((of0.q3 g l) ∧ decide ((↑l.length : Int) > (0 : Int)) = false) ∧ ¬((0 : Int) < (6 : Int) ∧ (6 : Int) ≤ (9223372036854775807 : Int)) → False) ∧ (of0.q8 g l deep) ∧ (of0.q7 g l deep how) ∧ (of0.q5 g l deep how) ∧ (of0.q8 g l deep) ∧ (of0.q7 g l deep how) ∧ (of0.q5 g l deep how) ∧ (((of0.q3 g l) ∧ decide ((↑l.length : Int) > (0 : Int)) = false) ∧ ¬((0 : Int) < (6 : Int) ∧ (6 : Int) ≤ (9223372036854775807 : Int)) → False) ∧ (of0.q8 g l deep) ∧ (of0.q7 g l deep how) ∧ (of0.q5 g l deep how) ∧ (True)
theorem of0.eq  (g : List ByteArray × List ByteArray × List (Int × List Int)) (l : List Int) (deep : Int) (how : Int) (aa : Int) : of0.g  g l deep how aa = of0.T0  g l deep how aa := by kernel_rfl
theorem of0.ok  (g : List ByteArray × List ByteArray × List (Int × List Int)) (l : List Int) (deep : Int) (how : Int) (aa : Int) (hx : how = 0 ∧ okG g) : of0.T0  g l deep how aa := by
  delta of0.T0 of0.q3 of0.q9 of0.q0 of0.q1 of0.q4 of0.q2 of0.q5 of0.q6 of0.q7 of0.q8
  repeat rw [eT_eq]
  obtain ⟨rfl, h⟩ := hx
  have e1 := Int.emod_nonneg deep (show (6 : Int) ≠ 0 by omega)
  have e2 := Int.emod_lt_of_pos deep (show (0 : Int) < 6 by omega)
  have e3 : g.2.1.length = 0 ∨ (0 ≤ IntKind.i64.wrap ((l.getD 0 0).tdiv 7) % (g.2.1.length : Int) ∧ IntKind.i64.wrap ((l.getD 0 0).tdiv 7) % (g.2.1.length : Int) < g.2.1.length) := by
    by_cases h0 : g.2.1.length = 0
    · exact .inl h0
    · exact .inr ⟨Int.emod_nonneg _ (by omega), Int.emod_lt_of_pos _ (by omega)⟩
  have e4 := h.2.1
  rw [ofS]
  simp only [show Int.toNat 0 = 0 from rfl]
  generalize IntKind.i64.wrap ((l.getD 0 0).tdiv 7) % (g.2.1.length : Int) = q at *
  ((repeat' (first | exact trivial | apply And.intro)) <;> (intro hw; (try (simp only [true_and, and_true, decide_eq_true_eq, decide_eq_false_iff_not, beq_iff_eq, bne_iff_ne, beq_eq_false_iff_ne, bne_eq_false_iff_eq, ne_eq, Bool.not_eq_true, Bool.not_eq_false, not_true_eq_false, not_false_eq_true, Bool.not_eq_eq_eq_not, Bool.not_true, Bool.not_false, forall_const, imp_self, Bool.true_eq_false, Bool.false_eq_true, reduceCtorEq] at hw)); (try first | (exfalso; omega) | exact ⟨trivial, rfl⟩ | exact (hw hx).elim | exact (hw.2 hx).elim)))
  all_goals first
    | (exact hw.2 ⟨by omega, by omega, h⟩)
    | (exact absurd hw.2 (by decide))
    | (refine ⟨trivial, ?_⟩; rw [if_pos (by omega)])
    | (refine ⟨trivial, ?_⟩; rw [if_neg (by omega), if_pos (by omega), wrapI64 (by omega) (by omega)])
    | (refine ⟨trivial, ?_⟩; rw [if_neg (by omega), if_neg (by omega)])
theorem of0.fn   : FnOk Try.prog of0 := fn_evalH (l := [(1000008, deadL)]) (lf := 1000) (fun _ => cfOf_ok (fns_cons within.fn (fns_cons treeF.fn (fns_nil _)))) _ (lps_cons (lp_dead _ _ _) (lps_nil _ _)) (by kernel_rfl) (fun ⟨g, l, deep, how, aa⟩ hx => Hid.of (of0.eq  g l deep how aa) (of0.ok  g l deep how aa hx))
def okN (n : Nat) (g : Gr) : Prop := g.1.length ≤ 99 ∧ g.2.1.length ≤ 99 ∧ g.2.2.length ≤ n ∧ ∀ q ∈ g.2.2, q.2.length ≤ 6
theorem putS_ok {n : Nat} {g : Gr} (h : okN n g) (left : Int) (row : List Int) : okN (n + 1) (putS g left row) := by
  obtain ⟨h1, h2, h3, h4⟩ := h
  unfold putS
  split
  · exact ⟨h1, h2, by omega, h4⟩
  · refine ⟨h1, h2, by simp only [List.length_append, List.length_singleton]; omega, fun q hq => ?_⟩
    rcases List.mem_append.1 hq with hq | hq
    · exact h4 q hq
    · rw [List.mem_singleton.1 hq]; simp only [List.length_map, List.length_take]; omega
theorem puts1_ok : ∀ (k : Nat) (i : Int) {n : Nat} {g : Gr}, okN n g → okN (n + k) (puts1 k i g)
  | 0, i, n, g, h => h
  | k + 1, i, n, g, h => by rw [puts1, show n + (k + 1) = n + 1 + k by omega]; exact puts1_ok k _ (putS_ok h _ _)
theorem puts2_ok (m : Int) : ∀ (l : List (List Int)) (i : Int) {n : Nat} {g : Gr}, okN n g → okN (n + l.length) (puts2 m i g l)
  | [], i, n, g, h => h
  | r :: l, i, n, g, h => by rw [puts2, List.length_cons, show n + (l.length + 1) = n + 1 + l.length by omega]; exact puts2_ok m l _ (putS_ok h _ _)
theorem anyS_ok (r : Raw) : okG (anyS r) := by
  have e3 := Int.emod_nonneg r.2.2.1 (show (3 : Int) ≠ 0 by omega)
  have e4 := Int.emod_lt_of_pos r.2.2.1 (show (0 : Int) < 3 by omega)
  have h0 : okN 0 ([bA, bB, bC].take (1 + r.2.1 % 3).toNat, [bS, bUA, bUB].take (1 + r.2.2.1 % 3).toNat, []) := ⟨by simp only [List.length_take]; exact Nat.le_trans (Nat.min_le_right _ _) (by decide), by simp only [List.length_take]; exact Nat.le_trans (Nat.min_le_right _ _) (by decide), Nat.le_refl _, fun q hq => by simp at hq⟩
  obtain ⟨h1, h2, h3, h4⟩ := puts2_ok (1 + r.2.2.1 % 3) (r.2.2.2.2.1.take 5) 0 (puts1_ok (1 + r.2.2.1 % 3).toNat 0 h0)
  exact ⟨h1, h2, Nat.le_trans h3 (by rw [List.length_take]; omega), h4⟩
def okB (g : Gr) : Bool := Nat.ble g.1.length 99 && (Nat.ble g.2.1.length 99 && (Nat.ble g.2.2.length 99 && g.2.2.all fun q => Nat.ble q.2.length 6))
theorem okB_spec {g : Gr} (h : okB g = true) : okG g := by
  simp only [okB, Bool.and_eq_true, List.all_eq_true] at h
  exact ⟨Nat.le_of_ble_eq_true h.1, Nat.le_of_ble_eq_true h.2.1, Nat.le_of_ble_eq_true h.2.2.1, fun q hq => Nat.le_of_ble_eq_true (h.2.2.2 q hq)⟩
end Go.Proofs.Ytdmljeaigjfenaa.D

namespace Go.Proofs.Ytdmljeaigjfenaa.D
open Go Go.EV Go.TL Go.Proofs
set_option linter.unusedVariables false
set_option linter.unusedSimpArgs false
set_option maxRecDepth 100000
mutual
def nodesT : Tree → Nat
  | .mk _ _ ks => nodesL ks + 1
def nodesL : List Tree → Nat
  | [] => 0
  | k :: r => nodesT k + nodesL r
end
theorem nodesT_eq (t : Tree) : nodesT t = nodesL t.kids + 1 := by cases t; simp only [nodesT, Tree.kids]
theorem nodesT_pos (t : Tree) : 1 ≤ nodesT t := by cases t; simp only [nodesT]; omega
theorem nodesL_len : ∀ l : List Tree, l.length ≤ nodesL l
  | [] => Nat.le_refl _
  | k :: r => by
    have := nodesL_len r
    have := nodesT_pos k
    simp only [nodesL, List.length_cons]; omega
theorem nodesL_get {x : Tree} : ∀ {l : List Tree} {i : Nat}, i < l.length → nodesT (l.getD i x) ≤ nodesL l
  | [], i, h => by simp at h
  | k :: r, 0, _ => by simp only [List.getD_cons_zero, nodesL]; omega
  | k :: r, i + 1, h => by
    have := nodesL_get (x := x) (l := r) (i := i) (by simpa using h)
    simp only [List.getD_cons_succ, nodesL]; omega
def tleaf : Tree := .mk 1 (-1) []
def spoilS : Nat → Tree → Int → Int → Tree
  | 0, t, _, _ => t
  | n + 1, t, how, aa => if 0 < t.kids.length ∧ 0 < aa % 3 then .mk t.sym t.prod (t.kids.set (IntKind.i64.wrap (aa.tdiv 3) % (t.kids.length : Int)).toNat (spoilS n (t.kids.getD (IntKind.i64.wrap (aa.tdiv 3) % (t.kids.length : Int)).toNat (.mk 0 0 [])) how (IntKind.i64.wrap (aa.tdiv 9))))
    else if how % 8 = 0 then .mk (IntKind.i64.wrap (t.sym + 1)) t.prod t.kids
    else if how % 8 = 1 then .mk t.sym (IntKind.i64.wrap (t.prod + 1)) t.kids
    else if how % 8 = 2 then .mk t.sym (-1) t.kids
    else if how % 8 = 3 then .mk t.sym t.prod (tleaf :: t.kids)
    else if how % 8 = 4 then .mk t.sym t.prod (t.kids.drop 1)
    else if how % 8 = 5 then .mk t.sym (-2) t.kids
    else if how % 8 = 6 then .mk 0 t.prod t.kids
    else .mk t.sym 99 t.kids
theorem spoilS_fuel : ∀ (n : Nat) (t : Tree) (how aa : Int), depthT t ≤ n → spoilS n t how aa = spoilS (depthT t) t how aa
  | 0, t, how, aa, h => absurd h (depthT_pos t)
  | n + 1, t, how, aa, h => by
    have h3 := depthT_kids h
    have h4 : depthT t = depthsT t.kids + 1 := by cases t; simp only [depthT, Tree.kids]
    rw [h4, spoilS, spoilS]
    by_cases hc : 0 < t.kids.length ∧ 0 < aa % 3
    · rw [if_pos hc, if_pos hc]
      have e1 := Int.emod_nonneg (IntKind.i64.wrap (aa.tdiv 3)) (show (t.kids.length : Int) ≠ 0 by omega)
      have e2 := Int.emod_lt_of_pos (IntKind.i64.wrap (aa.tdiv 3)) (show (0 : Int) < (t.kids.length : Int) by omega)
      have hi : (IntKind.i64.wrap (aa.tdiv 3) % (t.kids.length : Int)).toNat < t.kids.length := by omega
      rw [spoilS_fuel n _ _ _ (depthsT_le _ h3 _ hi), ← spoilS_fuel (depthsT t.kids) _ _ _ (depthsT_le _ (Nat.le_refl _) _ hi)]
    · rw [if_neg hc, if_neg hc]
noncomputable def spoil (d : Nat) : Face := ⟨36, [.v .tree, .v (.int .i64), .v (.int .i64)], fun (t, how, aa) => some (depthT t ≤ d ∧ nodesT t ≤ BIG),
  [⟨false, [.v .tree], fun (t, how, aa) => spoilS (depthT t) t how aa, fun (t, how, aa) => none⟩]⟩
noncomputable def spoilA (d : Nat) : Face := ⟨36, [.v .tree, .v (.int .i64), .v (.int .i64)], fun (t, how, aa) => some (depthT t ≤ d + 1 ∧ nodesT t ≤ BIG),
  [⟨false, [.v .tree], fun (t, how, aa) => spoilS (depthT t) t how aa, fun (t, how, aa) => none⟩]⟩
noncomputable def spoilA.g (d : Nat) (t : Tree) (how : Int) (aa : Int) : Prop := GoodFA Try.prog (cfOf [within, spoil d]) [] 1000 (spoilA d) (t, how, aa)
noncomputable def spoilA.q0 (t : Tree) : Prop := ((True ∧ t.kids.length ≤ (9223372036854775807 : Nat)) ∧ decide ((↑t.kids.length : Int) > (0 : Int)) = true) ∧ (0 : Int) < (3 : Int) ∧ (3 : Int) ≤ (9223372036854775807 : Int)
noncomputable def spoilA.q5 (t : Tree) : Prop := ((True ∧ t.kids.length ≤ (9223372036854775807 : Nat)) ∧ decide ((↑t.kids.length : Int) > (0 : Int)) = false) ∧ (0 : Int) < (8 : Int) ∧ (8 : Int) ≤ (9223372036854775807 : Int)
noncomputable def spoilA.q1 (t : Tree) (how : Int) : Prop := (((spoilA.q5 t) ∧ (how % (8 : Int) == (0 : Int)) = false) ∧ (how % (8 : Int) == (1 : Int)) = false) ∧ (how % (8 : Int) == (2 : Int)) = false
noncomputable def spoilA.q7 (t : Tree) (aa : Int) : Prop := ((spoilA.q0 t) ∧ decide (aa % (3 : Int) > (0 : Int)) = false) ∧ (0 : Int) < (8 : Int) ∧ (8 : Int) ≤ (9223372036854775807 : Int)
noncomputable def spoilA.q2 (t : Tree) (how : Int) (aa : Int) : Prop := (((spoilA.q7 t aa) ∧ (how % (8 : Int) == (0 : Int)) = false) ∧ (how % (8 : Int) == (1 : Int)) = false) ∧ (how % (8 : Int) == (2 : Int)) = false
noncomputable def spoilA.q6 (t : Tree) (aa : Int) : Prop := (((spoilA.q0 t) ∧ decide (aa % (3 : Int) > (0 : Int)) = true) ∧ t.kids.length ≤ (9223372036854775807 : Nat)) ∧ (0 : Int) < (↑t.kids.length : Int) ∧ (↑t.kids.length : Int) ≤ (9223372036854775807 : Int)
noncomputable def spoilA.q3 (t : Tree) (aa : Int) : Prop := ((spoilA.q6 t aa) ∧ t.kids.length * (40 : Nat) ≤ (140737488355328 : Nat)) ∧ (0 : Int) ≤ IntKind.i64.wrap (aa.tdiv (3 : Int)) % (↑t.kids.length : Int) ∧ IntKind.i64.wrap (aa.tdiv (3 : Int)) % (↑t.kids.length : Int) < (↑t.kids.length : Int)
noncomputable def spoilA.q4 (d : Nat) (t : Tree) (aa : Int) : Prop := ((spoilA.q3 t aa) ∧ (IntKind.i64.wrap (aa.tdiv (3 : Int)) % (↑t.kids.length : Int)).toNat < t.kids.length) ∧ depthT (eT (t.kids.getD (IntKind.i64.wrap (aa.tdiv (3 : Int)) % (↑t.kids.length : Int)).toNat (Tree.mk (0 : Int) (0 : Int) []))) ≤ d ∧ nodesT (eT (t.kids.getD (IntKind.i64.wrap (aa.tdiv (3 : Int)) % (↑t.kids.length : Int)).toNat (Tree.mk (0 : Int) (0 : Int) []))) ≤ BIG
noncomputable def spoilA.q8 (t : Tree) (how : Int) (aa : Int) : Prop := (((spoilA.q2 t how aa) ∧ (how % (8 : Int) == (3 : Int)) = false) ∧ (how % (8 : Int) == (4 : Int)) = true) ∧ t.kids.length ≤ (9223372036854775807 : Nat)
noncomputable def spoilA.q9 (t : Tree) (how : Int) : Prop := (((spoilA.q1 t how) ∧ (how % (8 : Int) == (3 : Int)) = false) ∧ (how % (8 : Int) == (4 : Int)) = true) ∧ t.kids.length ≤ (9223372036854775807 : Nat)
noncomputable def spoilA.q10 (d : Nat) (t : Tree) (aa : Int) : Prop := (spoilA.q4 d t aa) ∧ (0 : Int) ≤ IntKind.i64.wrap (aa.tdiv (3 : Int)) % (↑t.kids.length : Int) ∧ IntKind.i64.wrap (aa.tdiv (3 : Int)) % (↑t.kids.length : Int) < (↑t.kids.length : Int)
noncomputable def spoilA.q11 (t : Tree) (how : Int) (aa : Int) : Prop := ((spoilA.q2 t how aa) ∧ (how % (8 : Int) == (3 : Int)) = false) ∧ (how % (8 : Int) == (4 : Int)) = false
noncomputable def spoilA.q12 (t : Tree) (how : Int) : Prop := ((spoilA.q1 t how) ∧ (how % (8 : Int) == (3 : Int)) = false) ∧ (how % (8 : Int) == (4 : Int)) = false
noncomputable def spoilA.q13 (t : Tree) (aa : Int) : Prop := (0 : Int) ≤ IntKind.i64.wrap (aa.tdiv (3 : Int)) % (↑t.kids.length : Int) ∧ IntKind.i64.wrap (aa.tdiv (3 : Int)) % (↑t.kids.length : Int) < (↑t.kids.length : Int)
noncomputable def spoilA.T0 (d : Nat) (t : Tree) (how : Int) (aa : Int) : Prop := (((True ∧ t.kids.length ≤ (9223372036854775807 : Nat)) ∧ decide ((↑t.kids.length : Int) > (0 : Int)) = true) ∧ ¬((0 : Int) < (3 : Int) ∧ (3 : Int) ≤ (9223372036854775807 : Int)) → False) ∧ ((((spoilA.q0 t) ∧ decide (aa % (3 : Int) > (0 : Int)) = true) ∧ t.kids.length ≤ (9223372036854775807 : Nat)) ∧ ¬((0 : Int) < (↑t.kids.length : Int) ∧ (↑t.kids.length : Int) ≤ (9223372036854775807 : Int)) → False) ∧ (((spoilA.q3 t aa) ∧ (IntKind.i64.wrap (aa.tdiv (3 : Int)) % (↑t.kids.length : Int)).toNat < t.kids.length) ∧ ¬(depthT (eT (t.kids.getD (IntKind.i64.wrap (aa.tdiv (3 : Int)) % (↑t.kids.length : Int)).toNat (Tree.mk (0 : Int) (0 : Int) []))) ≤ d ∧ nodesT (eT (t.kids.getD (IntKind.i64.wrap (aa.tdiv (3 : Int)) % (↑t.kids.length : Int)).toNat (Tree.mk (0 : Int) (0 : Int) []))) ≤ BIG) → False) ∧ ((spoilA.q10 d t aa) ∧ (IntKind.i64.wrap (aa.tdiv (3 : Int)) % (↑t.kids.length : Int)).toNat < t.kids.length → True ∧ Tree.mk t.sym t.prod (t.kids.set (IntKind.i64.wrap (aa.tdiv (3 : Int)) % (↑t.kids.length : Int)).toNat (eT (spoilS (depthT (eT (t.kids.getD (IntKind.i64.wrap (aa.tdiv (3 : Int)) % (↑t.kids.length : Int)).toNat (Tree.mk (0 : Int) (0 : Int) [])))) (eT (t.kids.getD (IntKind.i64.wrap (aa.tdiv (3 : Int)) % (↑t.kids.length : Int)).toNat (Tree.mk (0 : Int) (0 : Int) []))) how (IntKind.i64.wrap (aa.tdiv (9 : Int)))))) = spoilS (depthT t) t how aa) ∧ ((spoilA.q10 d t aa) ∧ ¬(IntKind.i64.wrap (aa.tdiv (3 : Int)) % (↑t.kids.length : Int)).toNat < t.kids.length → False) ∧ ((spoilA.q4 d t aa) ∧ ¬(spoilA.q13 t aa) → False) ∧ ((spoilA.q3 t aa) ∧ ¬(IntKind.i64.wrap (aa.tdiv (3 : Int)) % (↑t.kids.length : Int)).toNat < t.kids.length → False) ∧ (((spoilA.q6 t aa) ∧ t.kids.length * (40 : Nat) ≤ (140737488355328 : Nat)) ∧ ¬(spoilA.q13 t aa) → False) ∧ ((spoilA.q6 t aa) ∧ ¬t.kids.length * (40 : Nat) ≤ (140737488355328 : Nat) → False) ∧ (((spoilA.q0 t) ∧ decide (aa % (3 : Int) > (0 : Int)) = false) ∧ ¬((0 : Int) < (8 : Int) ∧ (8 : Int) ≤ (9223372036854775807 : Int)) → False) ∧ ((spoilA.q7 t aa) ∧ (how % (8 : Int) == (0 : Int)) = true → True ∧ Tree.mk (IntKind.i64.wrap (t.sym + (1 : Int))) t.prod t.kids = spoilS (depthT t) t how aa) ∧ (((spoilA.q7 t aa) ∧ (how % (8 : Int) == (0 : Int)) = false) ∧ (how % (8 : Int) == (1 : Int)) = true → True ∧ Tree.mk t.sym (IntKind.i64.wrap (t.prod + (1 : Int))) t.kids = spoilS (depthT t) t how aa) ∧ ((((spoilA.q7 t aa) ∧ (how % (8 : Int) == (0 : Int)) = false) ∧ (how % (8 : Int) == (1 : Int)) = false) ∧ (how % (8 : Int) == (2 : Int)) = true → True ∧ Tree.mk t.sym (-1 : Int) t.kids = spoilS (depthT t) t how aa) ∧ (((spoilA.q2 t how aa) ∧ (how % (8 : Int) == (3 : Int)) = true) ∧ ((1 : Nat) + t.kids.length) * (40 : Nat) ≤ (140737488355328 : Nat) → True ∧ Tree.mk t.sym t.prod ([Tree.mk (1 : Int) (-1 : Int) []] ++ t.kids) = spoilS (depthT t) t how aa) ∧ (((spoilA.q2 t how aa) ∧ (how % (8 : Int) == (3 : Int)) = true) ∧ ¬((1 : Nat) + t.kids.length) * (40 : Nat) ≤ (140737488355328 : Nat) → False) ∧ (((spoilA.q8 t how aa) ∧ decide ((↑t.kids.length : Int) > (0 : Int)) = true) ∧ (0 : Int) ≤ (1 : Int) ∧ (1 : Int) ≤ (↑t.kids.length : Int) ∧ (↑t.kids.length : Int) ≤ (↑t.kids.length : Int) → True ∧ Tree.mk t.sym t.prod (List.drop (Int.toNat (1 : Int)) (List.take (↑t.kids.length : Int).toNat t.kids)) = spoilS (depthT t) t how aa) ∧ (((spoilA.q8 t how aa) ∧ decide ((↑t.kids.length : Int) > (0 : Int)) = true) ∧ ¬((0 : Int) ≤ (1 : Int) ∧ (1 : Int) ≤ (↑t.kids.length : Int) ∧ (↑t.kids.length : Int) ≤ (↑t.kids.length : Int)) → False) ∧ ((spoilA.q8 t how aa) ∧ decide ((↑t.kids.length : Int) > (0 : Int)) = false → True ∧ eT t = spoilS (depthT t) t how aa) ∧ ((spoilA.q11 t how aa) ∧ (how % (8 : Int) == (5 : Int)) = true → True ∧ Tree.mk t.sym (-2 : Int) t.kids = spoilS (depthT t) t how aa) ∧ (((spoilA.q11 t how aa) ∧ (how % (8 : Int) == (5 : Int)) = false) ∧ (how % (8 : Int) == (6 : Int)) = true → True ∧ Tree.mk (0 : Int) t.prod t.kids = spoilS (depthT t) t how aa) ∧ (((spoilA.q11 t how aa) ∧ (how % (8 : Int) == (5 : Int)) = false) ∧ (how % (8 : Int) == (6 : Int)) = false → True ∧ Tree.mk t.sym (99 : Int) t.kids = spoilS (depthT t) t how aa) ∧ (((True ∧ t.kids.length ≤ (9223372036854775807 : Nat)) ∧ decide ((↑t.kids.length : Int) > (0 : Int)) = false) ∧ ¬((0 : Int) < (8 : Int) ∧ (8 : Int) ≤ (9223372036854775807 : Int)) → False) ∧ ((spoilA.q5 t) ∧ (how % (8 : Int) == (0 : Int)) = true → True ∧ Tree.mk (IntKind.i64.wrap (t.sym + (1 : Int))) t.prod t.kids = spoilS (depthT t) t how aa) ∧ (((spoilA.q5 t) ∧ (how % (8 : Int) == (0 : Int)) = false) ∧ (how % (8 : Int) == (1 : Int)) = true → True ∧ Tree.mk t.sym (IntKind.i64.wrap (t.prod + (1 : Int))) t.kids = spoilS (depthT t) t how aa) ∧ ((((spoilA.q5 t) ∧ (how % (8 : Int) == (0 : Int)) = false) ∧ (how % (8 : Int) == (1 : Int)) = false) ∧ (how % (8 : Int) == (2 : Int)) = true → True ∧ Tree.mk t.sym (-1 : Int) t.kids = spoilS (depthT t) t how aa) ∧ (((spoilA.q1 t how) ∧ (how % (8 : Int) == (3 : Int)) = true) ∧ ((1 : Nat) + t.kids.length) * (40 : Nat) ≤ (140737488355328 : Nat) → True ∧ Tree.mk t.sym t.prod ([Tree.mk (1 : Int) (-1 : Int) []] ++ t.kids) = spoilS (depthT t) t how aa) ∧ (((spoilA.q1 t how) ∧ (how % (8 : Int) == (3 : Int)) = true) ∧ ¬((1 : Nat) + t.kids.length) * (40 : Nat) ≤ (140737488355328 : Nat) → False) ∧ (((spoilA.q9 t how) ∧ decide ((↑t.kids.length : Int) > (0 : Int)) = true) ∧ (0 : Int) ≤ (1 : Int) ∧ (1 : Int) ≤ (↑t.kids.length : Int) ∧ (↑t.kids.length : Int) ≤ (↑t.kids.length : Int) → True ∧ Tree.mk t.sym t.prod (List.drop (Int.toNat (1 : Int)) (List.take (↑t.kids.length : Int).toNat t.kids)) = spoilS (depthT t) t how aa) ∧ (((spoilA.q9 t how) ∧ decide ((↑t.kids.length : Int) > (0 : Int)) = true) ∧ ¬((0 : Int) ≤ (1 : Int) ∧ (1 : Int) ≤ (↑t.kids.length : Int) ∧ (↑t.kids.length : Int) ≤ (↑t.kids.length : Int)) → False) ∧ ((spoilA.q9 t how) ∧ decide ((↑t.kids.length : Int) > (0 : Int)) = false → True ∧ eT t = spoilS (depthT t) t how aa) ∧ ((spoilA.q12 t how) ∧ (how % (8 : Int) == (5 : Int)) = true → True ∧ Tree.mk t.sym (-2 : Int) t.kids = spoilS (depthT t) t how aa) ∧ (((spoilA.q12 t how) ∧ (how % (8 : Int) == (5 : Int)) = false) ∧ (how % (8 : Int) == (6 : Int)) = true → True ∧ Tree.mk (0 : Int) t.prod t.kids = spoilS (depthT t) t how aa) ∧ (((spoilA.q12 t how) ∧ (how % (8 : Int) == (5 : Int)) = false) ∧ (how % (8 : Int) == (6 : Int)) = false → True ∧ Tree.mk t.sym (99 : Int) t.kids = spoilS (depthT t) t how aa) ∧ (True)
theorem spoilA.eq (d : Nat) (t : Tree) (how : Int) (aa : Int) : spoilA.g d t how aa = spoilA.T0 d t how aa := by kernel_rfl
theorem spoilA.ok (d : Nat) (t : Tree) (how : Int) (aa : Int) (hx : depthT t ≤ d + 1 ∧ nodesT t ≤ BIG) : spoilA.T0 d t how aa := by
  delta spoilA.T0 spoilA.q0 spoilA.q5 spoilA.q1 spoilA.q7 spoilA.q2 spoilA.q6 spoilA.q3 spoilA.q4 spoilA.q8 spoilA.q9 spoilA.q10 spoilA.q11 spoilA.q12 spoilA.q13
  repeat rw [eT_eq]
  obtain ⟨h1, h2⟩ := hx
  have h3 := depthT_kids h1
  have h4 := nodesT_eq t
  have h5 := nodesL_len t.kids
  simp only [BIG] at h2
  have hK : t.kids.length = 0 ∨ (0 ≤ IntKind.i64.wrap (aa.tdiv 3) % (t.kids.length : Int) ∧ IntKind.i64.wrap (aa.tdiv 3) % (t.kids.length : Int) < t.kids.length) := by
    by_cases h0 : t.kids.length = 0
    · exact .inl h0
    · exact .inr ⟨Int.emod_nonneg _ (by omega), Int.emod_lt_of_pos _ (by omega)⟩
  rw [← spoilS_fuel _ t how aa h1, spoilS]
  simp only [show Int.toNat 1 = 1 from rfl, Int.toNat_natCast, List.take_length, BIG]
  generalize hKK : IntKind.i64.wrap (aa.tdiv 3) % (t.kids.length : Int) = K at *
  have hd : K.toNat < t.kids.length → depthT (t.kids.getD K.toNat (.mk 0 0 [])) ≤ d ∧ nodesT (t.kids.getD K.toNat (.mk 0 0 [])) ≤ nodesL t.kids := fun h => ⟨depthsT_le _ h3 _ h, nodesL_get h⟩
  have hf : K.toNat < t.kids.length → spoilS (depthT (t.kids.getD K.toNat (.mk 0 0 []))) (t.kids.getD K.toNat (.mk 0 0 [])) how (IntKind.i64.wrap (aa.tdiv 9)) = spoilS d (t.kids.getD K.toNat (.mk 0 0 [])) how (IntKind.i64.wrap (aa.tdiv 9)) := fun h => (spoilS_fuel _ _ _ _ (hd h).1).symm
  have e8 := Int.emod_nonneg how (show (8 : Int) ≠ 0 by omega)
  have e9 := Int.emod_lt_of_pos how (show (0 : Int) < 8 by omega)
  have e3 := Int.emod_nonneg aa (show (3 : Int) ≠ 0 by omega)
  ((repeat' (first | exact trivial | apply And.intro)) <;> (intro hw; (try (simp only [true_and, and_true, decide_eq_true_eq, decide_eq_false_iff_not, beq_iff_eq, bne_iff_ne, beq_eq_false_iff_ne, bne_eq_false_iff_eq, ne_eq, Bool.not_eq_true, Bool.not_eq_false, not_true_eq_false, not_false_eq_true, Bool.not_eq_eq_eq_not, Bool.not_true, Bool.not_false, forall_const, imp_self, Bool.true_eq_false, Bool.false_eq_true, reduceCtorEq] at hw)); (try first | (exfalso; omega) | exact ⟨trivial, rfl⟩ | exact (hw hx).elim | exact (hw.2 hx).elim)))
  all_goals first
    | (exfalso; have hd := hd (by omega); omega)
    | (rw [hf (by omega)]; refine ⟨trivial, ?_⟩; rw [if_pos (by omega)]; done)
    | (refine ⟨trivial, ?_⟩; (repeat (first | rfl | rw [if_pos (by omega)] | rw [if_neg (by omega)])); done)
    | (refine ⟨trivial, ?_⟩; rw [if_neg (by omega), if_neg (by omega), if_neg (by omega), if_neg (by omega), if_neg (by omega), if_pos (by omega)]; have h0 : t.kids = [] := List.eq_nil_of_length_eq_zero (by omega); rw [h0, List.drop_nil, ← h0, Tree.eta])
theorem spoilA.fn (d : Nat) (ih : FnOk Try.prog (spoil d)) : FnOk Try.prog (spoilA d) := fn_evalH (l := []) (lf := 1000) (fun _ => cfOf_ok (fns_cons within.fn (fns_cons ih (fns_nil _)))) _ (lps_nil _ _) (by kernel_rfl) (fun ⟨t, how, aa⟩ hx => Hid.of (spoilA.eq d t how aa) (spoilA.ok d t how aa hx))
def bDollar : ByteArray := ⟨#[36]⟩
def bOpen : ByteArray := ⟨#[40]⟩
def bShut : ByteArray := ⟨#[41]⟩
def bBlank : ByteArray := ⟨#[32]⟩
def nameS (g : Gr) (s : Int) : ByteArray := if s = 0 then bDollar else if termS g s = true then g.1.getD (s - 1).toNat ByteArray.empty else if nonS g s = true then g.2.1.getD (s - 100).toNat ByteArray.empty else ByteArray.empty
noncomputable def gname  : Face := ⟨65, [.v GR, .v (.int .i64)], fun (g, s) => some (gSmall g ∧ inI s),
  [⟨false, [.v .str], fun (g, s) => nameS g s, fun (g, s) => none⟩]⟩
noncomputable def symName  : Face := ⟨54, [.v GR, .v (.int .i64)], fun (g, s) => some (gSmall g),
  [⟨false, [.v .str], fun (g, s) => nameS g s, fun (g, s) => none⟩]⟩
noncomputable def symName.g  (g : List ByteArray × List ByteArray × List (Int × List Int)) (s : Int) : Prop := GoodFA Try.prog (cfOf [nonIs]) [] 1000 symName (g, s)
noncomputable def symName.q0 (g : List ByteArray × List ByteArray × List (Int × List Int)) (s : Int) : Prop := ((True ∧ (s == (0 : Int)) = false) ∧ decide (s ≥ (1 : Int)) = true) ∧ List.length g.1 ≤ (9223372036854775807 : Nat)
noncomputable def symName.q1 (g : List ByteArray × List ByteArray × List (Int × List Int)) (s : Int) : Prop := (symName.q0 g s) ∧ decide (s ≤ (↑(List.length g.1) : Int)) = false
noncomputable def symName.q2 (s : Int) : Prop := (True ∧ (s == (0 : Int)) = false) ∧ decide (s ≥ (1 : Int)) = false
noncomputable def symName.T (g : List ByteArray × List ByteArray × List (Int × List Int)) (s : Int) : Prop := (True ∧ (s == (0 : Int)) = true → True ∧ ByteArray.mk #[(36 : UInt8)] = nameS g s) ∧ (((symName.q0 g s) ∧ decide (s ≤ (↑(List.length g.1) : Int)) = true) ∧ (0 : Int) ≤ IntKind.i64.wrap (s - (1 : Int)) ∧ IntKind.i64.wrap (s - (1 : Int)) < (↑(List.length g.1) : Int) → True ∧ List.getD g.1 (IntKind.i64.wrap (s - (1 : Int))).toNat ByteArray.empty = nameS g s) ∧ (((symName.q0 g s) ∧ decide (s ≤ (↑(List.length g.1) : Int)) = true) ∧ ¬((0 : Int) ≤ IntKind.i64.wrap (s - (1 : Int)) ∧ IntKind.i64.wrap (s - (1 : Int)) < (↑(List.length g.1) : Int)) → False) ∧ ((symName.q1 g s) ∧ ¬gSmall g → False) ∧ ((((symName.q1 g s) ∧ gSmall g) ∧ nonS g s = true) ∧ (0 : Int) ≤ IntKind.i64.wrap (s - (100 : Int)) ∧ IntKind.i64.wrap (s - (100 : Int)) < (↑(List.length g.2.1) : Int) → True ∧ List.getD g.2.1 (IntKind.i64.wrap (s - (100 : Int))).toNat ByteArray.empty = nameS g s) ∧ ((((symName.q1 g s) ∧ gSmall g) ∧ nonS g s = true) ∧ ¬((0 : Int) ≤ IntKind.i64.wrap (s - (100 : Int)) ∧ IntKind.i64.wrap (s - (100 : Int)) < (↑(List.length g.2.1) : Int)) → False) ∧ (((symName.q1 g s) ∧ gSmall g) ∧ nonS g s = false → True ∧ ByteArray.mk #[] = nameS g s) ∧ ((symName.q2 s) ∧ ¬gSmall g → False) ∧ ((((symName.q2 s) ∧ gSmall g) ∧ nonS g s = true) ∧ (0 : Int) ≤ IntKind.i64.wrap (s - (100 : Int)) ∧ IntKind.i64.wrap (s - (100 : Int)) < (↑(List.length g.2.1) : Int) → True ∧ List.getD g.2.1 (IntKind.i64.wrap (s - (100 : Int))).toNat ByteArray.empty = nameS g s) ∧ ((((symName.q2 s) ∧ gSmall g) ∧ nonS g s = true) ∧ ¬((0 : Int) ≤ IntKind.i64.wrap (s - (100 : Int)) ∧ IntKind.i64.wrap (s - (100 : Int)) < (↑(List.length g.2.1) : Int)) → False) ∧ (((symName.q2 s) ∧ gSmall g) ∧ nonS g s = false → True ∧ ByteArray.mk #[] = nameS g s) ∧ (True)
theorem symName.eq  (g : List ByteArray × List ByteArray × List (Int × List Int)) (s : Int) : symName.g  g s = symName.T  g s := by kernel_rfl
theorem symName.ok  (g : List ByteArray × List ByteArray × List (Int × List Int)) (s : Int) (hx : gSmall g) : symName.T  g s := by
  obtain ⟨h1, h2⟩ := hx
  have hT : termS g s = true ↔ 1 ≤ s ∧ s ≤ (g.1.length : Int) := by simp [termS]
  have hN : nonS g s = true ↔ 100 ≤ s ∧ s < 100 + (g.2.1.length : Int) := by simp [nonS]
  have hNf : nonS g s = false ↔ ¬ (100 ≤ s ∧ s < 100 + (g.2.1.length : Int)) := by rw [← hN]; simp
  delta symName.T symName.q0 symName.q1 symName.q2
  rw [nameS]
  ((repeat' (first | exact trivial | apply And.intro)) <;> (intro hw; (try (simp only [true_and, and_true, decide_eq_true_eq, decide_eq_false_iff_not, beq_iff_eq, bne_iff_ne, beq_eq_false_iff_ne, bne_eq_false_iff_eq, ne_eq, Bool.not_eq_true, Bool.not_eq_false, not_true_eq_false, not_false_eq_true, Bool.not_eq_eq_eq_not, Bool.not_true, Bool.not_false, forall_const, imp_self, Bool.true_eq_false, Bool.false_eq_true, reduceCtorEq] at hw)); (try first | (exfalso; omega) | exact ⟨trivial, rfl⟩ | exact (hw hx).elim | exact (hw.2 hx).elim)))
  all_goals first
    | (exact absurd (⟨h1, h2⟩ : gSmall g) hw.2)
    | (exfalso; (try simp only [hN, hNf] at hw); omega)
    | (exfalso; (try simp only [hN, hNf] at hw); rw [wrapI64 (by omega) (by omega)] at hw; omega)
    | (refine ⟨trivial, ?_⟩; simp only [hT, hN, hNf] at hw ⊢; (repeat (first | rfl | rw [if_pos (by omega)] | rw [if_neg (by omega)])); done)
    | (refine ⟨trivial, ?_⟩; (try simp only [hN, hNf] at hw); simp only [hT, hN]; rw [wrapI64 (by omega) (by omega)]; (repeat (first | rfl | rw [if_pos (by omega)] | rw [if_neg (by omega)])))
theorem symName.fn   : FnOk Try.prog symName := fn_evalH (l := []) (lf := 1000) (fun _ => cfOf_ok (fns_cons nonIs.fn (fns_nil _))) _ (lps_nil _ _) (by kernel_rfl) (fun ⟨g, s⟩ hx => Hid.of (symName.eq  g s) (symName.ok  g s hx))
mutual
def textS (g : Gr) : Tree → ByteArray
  | .mk s p ks => if p = -1 then nameS g s else textsS g (bOpen ++ nameS g s) ks ++ bShut
def textsS (g : Gr) : ByteArray → List Tree → ByteArray
  | a, [] => a
  | a, k :: r => textsS g (a ++ bBlank ++ textS g k) r
end
theorem textsS_ge (g : Gr) : ∀ (l : List Tree) (a : ByteArray), a.size ≤ (textsS g a l).size
  | [], a => Nat.le_refl _
  | k :: r, a => by
    have := textsS_ge g r (a ++ bBlank ++ textS g k)
    simp only [ByteArray.size_append] at this
    rw [textsS]; omega
theorem textsS_one {g : Gr} {a : ByteArray} {k : Tree} {r : List Tree} {n : Nat} (h : (textsS g a (k :: r)).size ≤ n) : a.size + 1 + (textS g k).size ≤ n := by
  have := textsS_ge g r (a ++ bBlank ++ textS g k)
  simp only [ByteArray.size_append, show bBlank.size = 1 from rfl] at this
  rw [textsS] at h; omega
def BIGS : Nat := 1000000000000
noncomputable def shw (d : Nat) : Face := ⟨50, [.v GR, .v .tree], fun (g, t) => some (gSmall g ∧ okT t ∧ depthT t ≤ d ∧ (textS g t).size ≤ BIGS),
  [⟨false, [.v .str], fun (g, t) => textS g t, fun (g, t) => none⟩]⟩
noncomputable def shw.L0 (d : Nat) : LFace := ⟨[2, 4, 6, 20, 21, 22], [.p GR, .un, .v .str, .v (.sl .tree), .v (.int .i64), .v (.int .i64)], fun (g, u, a, ks, len, i) => some (len = ks.length ∧ 0 ≤ i ∧ i ≤ len ∧ ks.length ≤ 9223372036854775807 ∧ gSmall g ∧ okTs ks ∧ depthsT ks ≤ d ∧ (textsS g a (ks.drop i.toNat)).size ≤ BIGS),
  [⟨.normal, [4, 6], [.un, .v .str], fun (g, u, a, ks, len, i) => (u, textsS g a (ks.drop i.toNat)), fun (g, u, a, ks, len, i) => none⟩]⟩
noncomputable def shw.L0.mu (d : Nat) : dens (shw.L0 d).sh → Nat := fun (g, u, a, ks, len, i) => (len - i).toNat
noncomputable def shw.L0.q0 (d : Nat) (g : List ByteArray × List ByteArray × List (Int × List Int)) (a : ByteArray) (ks : List Tree) (len : Int) (i : Int) : Prop := (((True ∧ decide (i < len) = true) ∧ (0 : Int) ≤ i ∧ i < (↑ks.length : Int)) ∧ a.size + (ByteArray.mk #[(32 : UInt8)]).size ≤ (9223372036854775807 : Nat)) ∧ gSmall g ∧ okT (eT (ks.getD i.toNat (Tree.mk (0 : Int) (0 : Int) []))) ∧ depthT (eT (ks.getD i.toNat (Tree.mk (0 : Int) (0 : Int) []))) ≤ d ∧ (textS g (eT (ks.getD i.toNat (Tree.mk (0 : Int) (0 : Int) [])))).size ≤ BIGS
noncomputable def shw.L0.T0 (d : Nat) (g : List ByteArray × List ByteArray × List (Int × List Int)) (u : Unit) (a : ByteArray) (ks : List Tree) (len : Int) (i : Int) : Prop := ((((True ∧ decide (i < len) = true) ∧ (0 : Int) ≤ i ∧ i < (↑ks.length : Int)) ∧ a.size + (ByteArray.mk #[(32 : UInt8)]).size ≤ (9223372036854775807 : Nat)) ∧ ¬(gSmall g ∧ okT (eT (ks.getD i.toNat (Tree.mk (0 : Int) (0 : Int) []))) ∧ depthT (eT (ks.getD i.toNat (Tree.mk (0 : Int) (0 : Int) []))) ≤ d ∧ (textS g (eT (ks.getD i.toNat (Tree.mk (0 : Int) (0 : Int) [])))).size ≤ BIGS) → False) ∧ ((shw.L0.q0 d g a ks len i) ∧ (a ++ ByteArray.mk #[(32 : UInt8)]).size + (textS g (eT (ks.getD i.toNat (Tree.mk (0 : Int) (0 : Int) [])))).size ≤ (9223372036854775807 : Nat) → (len = (↑ks.length : Int) ∧ (0 : Int) ≤ IntKind.i64.wrap (i + (1 : Int)) ∧ IntKind.i64.wrap (i + (1 : Int)) ≤ len ∧ ks.length ≤ (9223372036854775807 : Nat) ∧ gSmall g ∧ okTs ks ∧ depthsT ks ≤ d ∧ (textsS g (a ++ ByteArray.mk #[(32 : UInt8)] ++ textS g (eT (ks.getD i.toNat (Tree.mk (0 : Int) (0 : Int) [])))) (List.drop (IntKind.i64.wrap (i + (1 : Int))).toNat ks)).size ≤ BIGS) ∧ shw.L0.mu d (g, (), a ++ ByteArray.mk #[(32 : UInt8)] ++ textS g (eT (ks.getD i.toNat (Tree.mk (0 : Int) (0 : Int) []))), ks, len, IntKind.i64.wrap (i + (1 : Int))) < shw.L0.mu d (g, u, a, ks, len, i) ∧ (True → True ∧ ((), textsS g (a ++ ByteArray.mk #[(32 : UInt8)] ++ textS g (eT (ks.getD i.toNat (Tree.mk (0 : Int) (0 : Int) [])))) (List.drop (IntKind.i64.wrap (i + (1 : Int))).toNat ks)) = ((), textsS g a (List.drop i.toNat ks))) ∧ True) ∧ ((shw.L0.q0 d g a ks len i) ∧ ¬(a ++ ByteArray.mk #[(32 : UInt8)]).size + (textS g (eT (ks.getD i.toNat (Tree.mk (0 : Int) (0 : Int) [])))).size ≤ (9223372036854775807 : Nat) → False) ∧ (((True ∧ decide (i < len) = true) ∧ (0 : Int) ≤ i ∧ i < (↑ks.length : Int)) ∧ ¬a.size + (ByteArray.mk #[(32 : UInt8)]).size ≤ (9223372036854775807 : Nat) → False) ∧ ((True ∧ decide (i < len) = true) ∧ ¬((0 : Int) ≤ i ∧ i < (↑ks.length : Int)) → False) ∧ (True ∧ decide (i < len) = false → True ∧ ((), a) = ((), textsS g a (List.drop i.toNat ks))) ∧ (True)
theorem shw.L0.ok (d : Nat) (g : List ByteArray × List ByteArray × List (Int × List Int)) (u : Unit) (a : ByteArray) (ks : List Tree) (len : Int) (i : Int) (hx : len = ks.length ∧ 0 ≤ i ∧ i ≤ len ∧ ks.length ≤ 9223372036854775807 ∧ gSmall g ∧ okTs ks ∧ depthsT ks ≤ d ∧ (textsS g a (ks.drop i.toNat)).size ≤ BIGS) : shw.L0.T0 d g u a ks len i := by
  delta shw.L0.T0 shw.L0.q0
  repeat rw [eT_eq]
  obtain ⟨rfl, h0, h1, h2, hg, hk, hd, hs⟩ := hx
  have hD := fun h => drop_int (.mk 0 0 []) h0 (l := ks) h
  have hb : i < (ks.length : Int) → a.size + 1 + (textS g (ks.getD i.toNat (.mk 0 0 []))).size ≤ BIGS := fun h => by rw [hD h] at hs; exact textsS_one hs
  simp only [ByteArray.size_append, show (ByteArray.mk #[(32 : UInt8)]).size = 1 from rfl]
  have hB : BIGS = 1000000000000 := rfl
  ((repeat' (first | exact trivial | apply And.intro)) <;> (intro hw; (try (simp only [true_and, and_true, decide_eq_true_eq, decide_eq_false_iff_not, beq_iff_eq, bne_iff_ne, beq_eq_false_iff_ne, bne_eq_false_iff_eq, ne_eq, Bool.not_eq_true, Bool.not_eq_false, not_true_eq_false, not_false_eq_true, Bool.not_eq_eq_eq_not, Bool.not_true, Bool.not_false, forall_const, imp_self, Bool.true_eq_false, Bool.false_eq_true, reduceCtorEq] at hw)); (try first | (exfalso; omega) | exact ⟨trivial, rfl⟩ | exact (hw hx).elim | exact (hw.2 hx).elim)))
  all_goals first
    | (exact hw.2 ⟨hg, okTs_get hk _ (by omega), depthsT_le _ hd _ (by omega), by have := hb (by omega); omega⟩)
    | (exfalso; have := hb (by omega); omega)
    | (rw [drop_int_end hw, textsS]; exact ⟨trivial, rfl⟩)
    | skip
  rw [wrapI64 (x := i + 1) (by omega) (by omega)]
  rw [hD (by omega), textsS] at hs ⊢
  exact ⟨⟨trivial, by omega, by omega, h2, hg, hk, hd, hs⟩, by simp only [shw.L0.mu]; omega, fun _ => ⟨trivial, rfl⟩, trivial⟩
noncomputable def shwA (d : Nat) : Face := ⟨50, [.v GR, .v .tree], fun (g, t) => some (gSmall g ∧ okT t ∧ depthT t ≤ d + 1 ∧ (textS g t).size ≤ BIGS),
  [⟨false, [.v .str], fun (g, t) => textS g t, fun (g, t) => none⟩]⟩
noncomputable def shwA.q1 (g : List ByteArray × List ByteArray × List (Int × List Int)) (t : Tree) : Prop := (((True ∧ gSmall g ∧ inI t.sym) ∧ (t.prod == (-1 : Int)) = false) ∧ (ByteArray.mk #[(40 : UInt8)]).size + (nameS g t.sym).size ≤ (9223372036854775807 : Nat)) ∧ t.kids.length ≤ (9223372036854775807 : Nat)
noncomputable def shwA.q0 (d : Nat) (g : List ByteArray × List ByteArray × List (Int × List Int)) (t : Tree) : Prop := (shwA.q1 g t) ∧ (↑t.kids.length : Int) = (↑t.kids.length : Int) ∧ (0 : Int) ≤ (0 : Int) ∧ (0 : Int) ≤ (↑t.kids.length : Int) ∧ t.kids.length ≤ (9223372036854775807 : Nat) ∧ gSmall g ∧ okTs t.kids ∧ depthsT t.kids ≤ d ∧ (textsS g (ByteArray.mk #[(40 : UInt8)] ++ nameS g t.sym) (List.drop (Int.toNat (0 : Int)) t.kids)).size ≤ BIGS
noncomputable def shwA.T (d : Nat) (g : List ByteArray × List ByteArray × List (Int × List Int)) (t : Tree) : Prop := (True ∧ ¬(gSmall g ∧ inI t.sym) → False) ∧ ((True ∧ gSmall g ∧ inI t.sym) ∧ (t.prod == (-1 : Int)) = true → True ∧ nameS g t.sym = textS g t) ∧ ((shwA.q1 g t) ∧ ¬((↑t.kids.length : Int) = (↑t.kids.length : Int) ∧ (0 : Int) ≤ (0 : Int) ∧ (0 : Int) ≤ (↑t.kids.length : Int) ∧ t.kids.length ≤ (9223372036854775807 : Nat) ∧ gSmall g ∧ okTs t.kids ∧ depthsT t.kids ≤ d ∧ (textsS g (ByteArray.mk #[(40 : UInt8)] ++ nameS g t.sym) (List.drop (Int.toNat (0 : Int)) t.kids)).size ≤ BIGS) → False) ∧ ((shwA.q0 d g t) ∧ (textsS g (ByteArray.mk #[(40 : UInt8)] ++ nameS g t.sym) (List.drop (Int.toNat (0 : Int)) t.kids)).size + (ByteArray.mk #[(41 : UInt8)]).size ≤ (9223372036854775807 : Nat) → True ∧ textsS g (ByteArray.mk #[(40 : UInt8)] ++ nameS g t.sym) (List.drop (Int.toNat (0 : Int)) t.kids) ++ ByteArray.mk #[(41 : UInt8)] = textS g t) ∧ ((shwA.q0 d g t) ∧ ¬(textsS g (ByteArray.mk #[(40 : UInt8)] ++ nameS g t.sym) (List.drop (Int.toNat (0 : Int)) t.kids)).size + (ByteArray.mk #[(41 : UInt8)]).size ≤ (9223372036854775807 : Nat) → False) ∧ (((True ∧ gSmall g ∧ inI t.sym) ∧ (t.prod == (-1 : Int)) = false) ∧ ¬(ByteArray.mk #[(40 : UInt8)]).size + (nameS g t.sym).size ≤ (9223372036854775807 : Nat) → False) ∧ (True)
theorem shwA.ok (d : Nat) (g : List ByteArray × List ByteArray × List (Int × List Int)) (t : Tree) (hx : gSmall g ∧ okT t ∧ depthT t ≤ d + 1 ∧ (textS g t).size ≤ BIGS) : shwA.T d g t := by
  obtain ⟨hg, h1, h2, h3⟩ := hx
  cases t with
  | mk s p ks =>
  delta shwA.T shwA.q1 shwA.q0
  simp only [textS, depthT, okT, Tree.sym, Tree.prod, Tree.kids, show Int.toNat 0 = 0 from rfl, List.drop_zero, ByteArray.size_append, show (ByteArray.mk #[(40 : UInt8)]).size = 1 from rfl, show (ByteArray.mk #[(41 : UInt8)]).size = 1 from rfl, show bShut.size = 1 from rfl] at *
  have hB : BIGS = 1000000000000 := rfl
  have hge := textsS_ge g ks (bOpen ++ nameS g s)
  simp only [ByteArray.size_append, show bOpen.size = 1 from rfl] at hge
  by_cases hp : p = -1
  · simp only [if_pos hp] at h3 ⊢
    ((repeat' (first | exact trivial | apply And.intro)) <;> (intro hw; (try (simp only [true_and, and_true, decide_eq_true_eq, decide_eq_false_iff_not, beq_iff_eq, bne_iff_ne, beq_eq_false_iff_ne, bne_eq_false_iff_eq, ne_eq, Bool.not_eq_true, Bool.not_eq_false, not_true_eq_false, not_false_eq_true, Bool.not_eq_eq_eq_not, Bool.not_true, Bool.not_false, forall_const, imp_self, Bool.true_eq_false, Bool.false_eq_true, reduceCtorEq] at hw)); (try first | (exfalso; omega) | exact ⟨trivial, rfl⟩ | exact (hw hx).elim | exact (hw.2 hx).elim)))
    all_goals first
      | exact hw ⟨hg, h1.1⟩
      | exact ⟨trivial, trivial⟩
  · simp only [if_neg hp, ByteArray.size_append, show bShut.size = 1 from rfl] at h3 ⊢
    ((repeat' (first | exact trivial | apply And.intro)) <;> (intro hw; (try (simp only [true_and, and_true, decide_eq_true_eq, decide_eq_false_iff_not, beq_iff_eq, bne_iff_ne, beq_eq_false_iff_ne, bne_eq_false_iff_eq, ne_eq, Bool.not_eq_true, Bool.not_eq_false, not_true_eq_false, not_false_eq_true, Bool.not_eq_eq_eq_not, Bool.not_true, Bool.not_false, forall_const, imp_self, Bool.true_eq_false, Bool.false_eq_true, reduceCtorEq] at hw)); (try first | (exfalso; omega) | exact ⟨trivial, rfl⟩ | exact (hw hx).elim | exact (hw.2 hx).elim)))
    all_goals first
      | exact hw ⟨hg, h1.1⟩
      | exact ⟨trivial, rfl⟩
      | exact hw.2 ⟨by omega, by omega, by omega, hg, h1.2.2, by omega, show (textsS g (bOpen ++ nameS g s) ks).size ≤ BIGS by omega⟩
      | (exfalso; have hw2 : ¬ (textsS g (bOpen ++ nameS g s) ks).size + 1 ≤ 9223372036854775807 := hw.2; omega)
noncomputable def rtx (d : Nat) : Face := ⟨37, [.v GR, .v .tree], fun (g, t) => some (gSmall g ∧ depthT t ≤ d ∧ (textS g t).size ≤ BIGS),
  [⟨false, [.v .str], fun (g, t) => textS g t, fun (g, t) => none⟩]⟩
noncomputable def rtx.L0 (d : Nat) : LFace := ⟨[2, 4, 5, 21, 22, 23], [.p GR, .un, .v .str, .v (.sl .tree), .v (.int .i64), .v (.int .i64)], fun (g, u, a, ks, len, i) => some (len = ks.length ∧ 0 ≤ i ∧ i ≤ len ∧ ks.length ≤ 9223372036854775807 ∧ gSmall g ∧ depthsT ks ≤ d ∧ (textsS g a (ks.drop i.toNat)).size ≤ BIGS),
  [⟨.normal, [4, 5], [.un, .v .str], fun (g, u, a, ks, len, i) => (u, textsS g a (ks.drop i.toNat)), fun (g, u, a, ks, len, i) => none⟩]⟩
noncomputable def rtx.L0.mu (d : Nat) : dens (rtx.L0 d).sh → Nat := fun (g, u, a, ks, len, i) => (len - i).toNat
noncomputable def rtx.L0.g (d : Nat) (g : List ByteArray × List ByteArray × List (Int × List Int)) (u : Unit) (a : ByteArray) (ks : List Tree) (len : Int) (i : Int) : Prop := GoodLA Try.prog (cfOf [rtx d]) [] 1000 37 0 (rtx.L0 d) (rtx.L0.mu d) (g, u, a, ks, len, i)
noncomputable def rtx.L0.q0 (d : Nat) (g : List ByteArray × List ByteArray × List (Int × List Int)) (ks : List Tree) (len : Int) (i : Int) : Prop := ((True ∧ decide (i < len) = true) ∧ (0 : Int) ≤ i ∧ i < (↑ks.length : Int)) ∧ gSmall g ∧ depthT (eT (ks.getD i.toNat (Tree.mk (0 : Int) (0 : Int) []))) ≤ d ∧ (textS g (eT (ks.getD i.toNat (Tree.mk (0 : Int) (0 : Int) [])))).size ≤ BIGS
noncomputable def rtx.L0.T0 (d : Nat) (g : List ByteArray × List ByteArray × List (Int × List Int)) (u : Unit) (a : ByteArray) (ks : List Tree) (len : Int) (i : Int) : Prop := (((True ∧ decide (i < len) = true) ∧ (0 : Int) ≤ i ∧ i < (↑ks.length : Int)) ∧ ¬(gSmall g ∧ depthT (eT (ks.getD i.toNat (Tree.mk (0 : Int) (0 : Int) []))) ≤ d ∧ (textS g (eT (ks.getD i.toNat (Tree.mk (0 : Int) (0 : Int) [])))).size ≤ BIGS) → False) ∧ (((rtx.L0.q0 d g ks len i) ∧ (ByteArray.mk #[(32 : UInt8)]).size + (textS g (eT (ks.getD i.toNat (Tree.mk (0 : Int) (0 : Int) [])))).size ≤ (9223372036854775807 : Nat)) ∧ a.size + (ByteArray.mk #[(32 : UInt8)] ++ textS g (eT (ks.getD i.toNat (Tree.mk (0 : Int) (0 : Int) [])))).size ≤ (9223372036854775807 : Nat) → (len = (↑ks.length : Int) ∧ (0 : Int) ≤ IntKind.i64.wrap (i + (1 : Int)) ∧ IntKind.i64.wrap (i + (1 : Int)) ≤ len ∧ ks.length ≤ (9223372036854775807 : Nat) ∧ gSmall g ∧ depthsT ks ≤ d ∧ (textsS g (a ++ (ByteArray.mk #[(32 : UInt8)] ++ textS g (eT (ks.getD i.toNat (Tree.mk (0 : Int) (0 : Int) []))))) (List.drop (IntKind.i64.wrap (i + (1 : Int))).toNat ks)).size ≤ BIGS) ∧ rtx.L0.mu d (g, (), a ++ (ByteArray.mk #[(32 : UInt8)] ++ textS g (eT (ks.getD i.toNat (Tree.mk (0 : Int) (0 : Int) [])))), ks, len, IntKind.i64.wrap (i + (1 : Int))) < rtx.L0.mu d (g, u, a, ks, len, i) ∧ (True → True ∧ ((), textsS g (a ++ (ByteArray.mk #[(32 : UInt8)] ++ textS g (eT (ks.getD i.toNat (Tree.mk (0 : Int) (0 : Int) []))))) (List.drop (IntKind.i64.wrap (i + (1 : Int))).toNat ks)) = ((), textsS g a (List.drop i.toNat ks))) ∧ True) ∧ (((rtx.L0.q0 d g ks len i) ∧ (ByteArray.mk #[(32 : UInt8)]).size + (textS g (eT (ks.getD i.toNat (Tree.mk (0 : Int) (0 : Int) [])))).size ≤ (9223372036854775807 : Nat)) ∧ ¬a.size + (ByteArray.mk #[(32 : UInt8)] ++ textS g (eT (ks.getD i.toNat (Tree.mk (0 : Int) (0 : Int) [])))).size ≤ (9223372036854775807 : Nat) → False) ∧ ((rtx.L0.q0 d g ks len i) ∧ ¬(ByteArray.mk #[(32 : UInt8)]).size + (textS g (eT (ks.getD i.toNat (Tree.mk (0 : Int) (0 : Int) [])))).size ≤ (9223372036854775807 : Nat) → False) ∧ ((True ∧ decide (i < len) = true) ∧ ¬((0 : Int) ≤ i ∧ i < (↑ks.length : Int)) → False) ∧ (True ∧ decide (i < len) = false → True ∧ ((), a) = ((), textsS g a (List.drop i.toNat ks))) ∧ (True)
theorem rtx.L0.eq (d : Nat) (g : List ByteArray × List ByteArray × List (Int × List Int)) (u : Unit) (a : ByteArray) (ks : List Tree) (len : Int) (i : Int) : rtx.L0.g d g u a ks len i = rtx.L0.T0 d g u a ks len i := by kernel_rfl
theorem rtx.L0.ok (d : Nat) (g : List ByteArray × List ByteArray × List (Int × List Int)) (u : Unit) (a : ByteArray) (ks : List Tree) (len : Int) (i : Int) (hx : len = ks.length ∧ 0 ≤ i ∧ i ≤ len ∧ ks.length ≤ 9223372036854775807 ∧ gSmall g ∧ depthsT ks ≤ d ∧ (textsS g a (ks.drop i.toNat)).size ≤ BIGS) : rtx.L0.T0 d g u a ks len i := by
  delta rtx.L0.T0 rtx.L0.q0
  repeat rw [eT_eq]
  obtain ⟨rfl, h0, h1, h2, hg, hd, hs⟩ := hx
  have hD := fun h => drop_int (.mk 0 0 []) h0 (l := ks) h
  have hb : i < (ks.length : Int) → a.size + 1 + (textS g (ks.getD i.toNat (.mk 0 0 []))).size ≤ BIGS := fun h => by rw [hD h] at hs; exact textsS_one hs
  simp only [ByteArray.size_append, show (ByteArray.mk #[(32 : UInt8)]).size = 1 from rfl]
  have hB : BIGS = 1000000000000 := rfl
  ((repeat' (first | exact trivial | apply And.intro)) <;> (intro hw; (try (simp only [true_and, and_true, decide_eq_true_eq, decide_eq_false_iff_not, beq_iff_eq, bne_iff_ne, beq_eq_false_iff_ne, bne_eq_false_iff_eq, ne_eq, Bool.not_eq_true, Bool.not_eq_false, not_true_eq_false, not_false_eq_true, Bool.not_eq_eq_eq_not, Bool.not_true, Bool.not_false, forall_const, imp_self, Bool.true_eq_false, Bool.false_eq_true, reduceCtorEq] at hw)); (try first | (exfalso; omega) | exact ⟨trivial, rfl⟩ | exact (hw hx).elim | exact (hw.2 hx).elim)))
  all_goals first
    | (exact hw.2 ⟨hg, depthsT_le _ hd _ (by omega), by have := hb (by omega); omega⟩)
    | (exfalso; have := hb (by omega); omega)
    | (rw [drop_int_end hw, textsS]; exact ⟨trivial, rfl⟩)
    | skip
  rw [wrapI64 (x := i + 1) (by omega) (by omega)]
  rw [hD (by omega), textsS] at hs ⊢
  rw [← ByteArray.append_assoc]
  exact ⟨⟨trivial, by omega, by omega, h2, hg, hd, hs⟩, by simp only [rtx.L0.mu]; omega, fun _ => ⟨trivial, rfl⟩, trivial⟩
theorem rtx.L0.lp (d : Nat) (ih : FnOk Try.prog (rtx d)) : LpAt Try.prog 37 0 (rtx.L0 d) := lp_evalH (l := []) (lf := 1000) (fun _ => cfOf_ok (fns_cons ih (fns_nil _))) (lps_nil _ _) (by kernel_rfl) _ (rtx.L0.mu d) (fun ⟨g, u, a, ks, len, i⟩ hx => Hid.of (rtx.L0.eq d g u a ks len i) (rtx.L0.ok d g u a ks len i hx))
noncomputable def rtxA (d : Nat) : Face := ⟨37, [.v GR, .v .tree], fun (g, t) => some (gSmall g ∧ depthT t ≤ d + 1 ∧ (textS g t).size ≤ BIGS),
  [⟨false, [.v .str], fun (g, t) => textS g t, fun (g, t) => none⟩]⟩
noncomputable def rtxA.g (d : Nat) (g : List ByteArray × List ByteArray × List (Int × List Int)) (t : Tree) : Prop := GoodFA Try.prog (cfOf [symName]) [(0, rtx.L0 d)] 1000 (rtxA d) (g, t)
noncomputable def rtxA.q1 (g : List ByteArray × List ByteArray × List (Int × List Int)) (t : Tree) : Prop := (((True ∧ (t.prod == (-1 : Int)) = false) ∧ gSmall g) ∧ (ByteArray.mk #[(40 : UInt8)]).size + (nameS g t.sym).size ≤ (9223372036854775807 : Nat)) ∧ t.kids.length ≤ (9223372036854775807 : Nat)
noncomputable def rtxA.q0 (d : Nat) (g : List ByteArray × List ByteArray × List (Int × List Int)) (t : Tree) : Prop := (rtxA.q1 g t) ∧ (↑t.kids.length : Int) = (↑t.kids.length : Int) ∧ (0 : Int) ≤ (0 : Int) ∧ (0 : Int) ≤ (↑t.kids.length : Int) ∧ t.kids.length ≤ (9223372036854775807 : Nat) ∧ gSmall g ∧ depthsT t.kids ≤ d ∧ (textsS g (ByteArray.mk #[(40 : UInt8)] ++ nameS g t.sym) (List.drop (Int.toNat (0 : Int)) t.kids)).size ≤ BIGS
noncomputable def rtxA.T (d : Nat) (g : List ByteArray × List ByteArray × List (Int × List Int)) (t : Tree) : Prop := ((True ∧ (t.prod == (-1 : Int)) = true) ∧ ¬gSmall g → False) ∧ ((True ∧ (t.prod == (-1 : Int)) = true) ∧ gSmall g → True ∧ nameS g t.sym = textS g t) ∧ ((True ∧ (t.prod == (-1 : Int)) = false) ∧ ¬gSmall g → False) ∧ ((rtxA.q1 g t) ∧ ¬((↑t.kids.length : Int) = (↑t.kids.length : Int) ∧ (0 : Int) ≤ (0 : Int) ∧ (0 : Int) ≤ (↑t.kids.length : Int) ∧ t.kids.length ≤ (9223372036854775807 : Nat) ∧ gSmall g ∧ depthsT t.kids ≤ d ∧ (textsS g (ByteArray.mk #[(40 : UInt8)] ++ nameS g t.sym) (List.drop (Int.toNat (0 : Int)) t.kids)).size ≤ BIGS) → False) ∧ ((rtxA.q0 d g t) ∧ (textsS g (ByteArray.mk #[(40 : UInt8)] ++ nameS g t.sym) (List.drop (Int.toNat (0 : Int)) t.kids)).size + (ByteArray.mk #[(41 : UInt8)]).size ≤ (9223372036854775807 : Nat) → True ∧ textsS g (ByteArray.mk #[(40 : UInt8)] ++ nameS g t.sym) (List.drop (Int.toNat (0 : Int)) t.kids) ++ ByteArray.mk #[(41 : UInt8)] = textS g t) ∧ ((rtxA.q0 d g t) ∧ ¬(textsS g (ByteArray.mk #[(40 : UInt8)] ++ nameS g t.sym) (List.drop (Int.toNat (0 : Int)) t.kids)).size + (ByteArray.mk #[(41 : UInt8)]).size ≤ (9223372036854775807 : Nat) → False) ∧ (((True ∧ (t.prod == (-1 : Int)) = false) ∧ gSmall g) ∧ ¬(ByteArray.mk #[(40 : UInt8)]).size + (nameS g t.sym).size ≤ (9223372036854775807 : Nat) → False) ∧ (True)
theorem rtxA.eq (d : Nat) (g : List ByteArray × List ByteArray × List (Int × List Int)) (t : Tree) : rtxA.g d g t = rtxA.T d g t := by kernel_rfl
theorem rtxA.ok (d : Nat) (g : List ByteArray × List ByteArray × List (Int × List Int)) (t : Tree) (hx : gSmall g ∧ depthT t ≤ d + 1 ∧ (textS g t).size ≤ BIGS) : rtxA.T d g t := by
  obtain ⟨hg, h2, h3⟩ := hx
  cases t with
  | mk s p ks =>
  delta rtxA.T rtxA.q1 rtxA.q0
  simp only [textS, depthT, Tree.sym, Tree.prod, Tree.kids, show Int.toNat 0 = 0 from rfl, List.drop_zero, ByteArray.size_append, show (ByteArray.mk #[(40 : UInt8)]).size = 1 from rfl, show (ByteArray.mk #[(41 : UInt8)]).size = 1 from rfl, show bShut.size = 1 from rfl] at *
  have hB : BIGS = 1000000000000 := rfl
  have hge := textsS_ge g ks (bOpen ++ nameS g s)
  simp only [ByteArray.size_append, show bOpen.size = 1 from rfl] at hge
  by_cases hp : p = -1
  · simp only [if_pos hp] at h3 ⊢
    ((repeat' (first | exact trivial | apply And.intro)) <;> (intro hw; (try (simp only [true_and, and_true, decide_eq_true_eq, decide_eq_false_iff_not, beq_iff_eq, bne_iff_ne, beq_eq_false_iff_ne, bne_eq_false_iff_eq, ne_eq, Bool.not_eq_true, Bool.not_eq_false, not_true_eq_false, not_false_eq_true, Bool.not_eq_eq_eq_not, Bool.not_true, Bool.not_false, forall_const, imp_self, Bool.true_eq_false, Bool.false_eq_true, reduceCtorEq] at hw)); (try first | (exfalso; omega) | exact ⟨trivial, rfl⟩ | exact (hw hx).elim | exact (hw.2 hx).elim)))
    all_goals first
      | exact hw.2 hg
      | exact ⟨trivial, trivial⟩
  · simp only [if_neg hp, ByteArray.size_append, show bShut.size = 1 from rfl] at h3 ⊢
    ((repeat' (first | exact trivial | apply And.intro)) <;> (intro hw; (try (simp only [true_and, and_true, decide_eq_true_eq, decide_eq_false_iff_not, beq_iff_eq, bne_iff_ne, beq_eq_false_iff_ne, bne_eq_false_iff_eq, ne_eq, Bool.not_eq_true, Bool.not_eq_false, not_true_eq_false, not_false_eq_true, Bool.not_eq_eq_eq_not, Bool.not_true, Bool.not_false, forall_const, imp_self, Bool.true_eq_false, Bool.false_eq_true, reduceCtorEq] at hw)); (try first | (exfalso; omega) | exact ⟨trivial, rfl⟩ | exact (hw hx).elim | exact (hw.2 hx).elim)))
    all_goals first
      | exact hw.2 hg
      | exact ⟨trivial, rfl⟩
      | exact hw.2 ⟨by omega, by omega, by omega, hg, by omega, show (textsS g (bOpen ++ nameS g s) ks).size ≤ BIGS by omega⟩
      | (exfalso; have hw2 : ¬ (textsS g (bOpen ++ nameS g s) ks).size + 1 ≤ 9223372036854775807 := hw.2; omega)
theorem rtxA.fn (d : Nat) (ih : FnOk Try.prog (rtx d)) : FnOk Try.prog (rtxA d) := fn_evalH (l := [(0, rtx.L0 d)]) (lf := 1000) (fun _ => cfOf_ok (fns_cons symName.fn (fns_nil _))) _ (lps_cons (rtx.L0.lp d ih) (lps_nil _ _)) (by kernel_rfl) (fun ⟨g, t⟩ hx => Hid.of (rtxA.eq d g t) (rtxA.ok d g t hx))
theorem spoil.fn : ∀ d, FnOk Try.prog (spoil d)
  | 0 => fn_none fun ⟨t, how, aa⟩ h => depthT_pos t h.1
  | d + 1 => spoilA.fn d (spoil.fn d)
theorem rtx.fn : ∀ d, FnOk Try.prog (rtx d)
  | 0 => fn_none fun ⟨g, t⟩ h => depthT_pos t h.2.1
  | d + 1 => rtxA.fn d (rtx.fn d)
noncomputable def rtxF : Face := ⟨37, [.v GR, .v .tree], fun (g, t) => some (gSmall g ∧ (textS g t).size ≤ BIGS), [⟨false, [.v .str], fun (g, t) => textS g t, fun _ => none⟩]⟩
theorem rtxF.fn : FnOk Try.prog rtxF := fn_all rtx.fn (fun ⟨g, t⟩ h => ⟨depthT t, h.1, Nat.le_refl _, h.2⟩)
def printS (g : Gr) (t : Tree) : ByteArray := if checkS g t t.sym = true then textS g t else ByteArray.empty
noncomputable def rprint  : Face := ⟨13, [.v GR, .v .tree], fun (g, t) => some (gSmall g ∧ (textS g t).size ≤ BIGS),
  [⟨false, [.v .str], fun (g, t) => printS g t, fun (g, t) => none⟩]⟩
noncomputable def rprint.g  (g : List ByteArray × List ByteArray × List (Int × List Int)) (t : Tree) : Prop := GoodFA Try.prog (cfOf [rcheckF, rtxF]) [] 1000 rprint (g, t)
noncomputable def rprint.T0 (g : List ByteArray × List ByteArray × List (Int × List Int)) (t : Tree) : Prop := (True ∧ ¬gSmall g → False) ∧ ((True ∧ gSmall g) ∧ (!checkS g (eT t) t.sym) = true → True ∧ ByteArray.mk #[] = printS g t) ∧ (((True ∧ gSmall g) ∧ (!checkS g (eT t) t.sym) = false) ∧ ¬(gSmall g ∧ (textS g (eT t)).size ≤ BIGS) → False) ∧ (((True ∧ gSmall g) ∧ (!checkS g (eT t) t.sym) = false) ∧ gSmall g ∧ (textS g (eT t)).size ≤ BIGS → True ∧ textS g (eT t) = printS g t) ∧ (True)
theorem rprint.eq  (g : List ByteArray × List ByteArray × List (Int × List Int)) (t : Tree) : rprint.g  g t = rprint.T0  g t := by kernel_rfl
theorem rprint.ok  (g : List ByteArray × List ByteArray × List (Int × List Int)) (t : Tree) (hx : gSmall g ∧ (textS g t).size ≤ BIGS) : rprint.T0  g t := by
  unfold rprint.T0
  repeat rw [eT_eq]
  have hx' := hx
  obtain ⟨h1, h3⟩ := hx'
  rw [printS]
  ((repeat' (first | exact trivial | apply And.intro)) <;> (intro hw; (try (simp only [true_and, and_true, decide_eq_true_eq, decide_eq_false_iff_not, beq_iff_eq, bne_iff_ne, beq_eq_false_iff_ne, bne_eq_false_iff_eq, ne_eq, Bool.not_eq_true, Bool.not_eq_false, not_true_eq_false, not_false_eq_true, Bool.not_eq_eq_eq_not, Bool.not_true, Bool.not_false, forall_const, imp_self, Bool.true_eq_false, Bool.false_eq_true, reduceCtorEq] at hw)); (try first | (exfalso; omega) | exact ⟨trivial, rfl⟩ | exact (hw hx).elim | exact (hw.2 hx).elim)))
  · exact hw h1
  · exact ⟨trivial, by rw [if_neg (by rw [hw.2]; exact Bool.false_ne_true)]; rfl⟩
  · exact ⟨trivial, by rw [if_pos hw.1.2]⟩
theorem rprint.fn   : FnOk Try.prog rprint := fn_evalH (l := []) (lf := 1000) (fun _ => cfOf_ok (fns_cons rcheckF.fn (fns_cons rtxF.fn (fns_nil _)))) _ (lps_nil _ _) (by kernel_rfl) (fun ⟨g, t⟩ hx => Hid.of (rprint.eq  g t) (rprint.ok  g t hx))
end Go.Proofs.Ytdmljeaigjfenaa.D

namespace Go.Proofs.Ytdmljeaigjfenaa.D
open Go Go.EV Go.TL Go.Proofs
set_option linter.unusedVariables false
set_option linter.unusedSimpArgs false
set_option maxRecDepth 100000
def okX (g : Gr) : Prop := okG g ∧ (∀ q ∈ g.2.2, ∀ s ∈ q.2, -999 ≤ s ∧ s ≤ 999) ∧ (∀ n ∈ g.1, n.size ≤ 100) ∧ ∀ n ∈ g.2.1, n.size ≤ 100
def okXB (g : Gr) : Bool := okB g && (g.2.2.all (fun q => q.2.all fun s => decide (-999 ≤ s) && decide (s ≤ 999)) && (g.1.all (fun n => Nat.ble n.size 100) && g.2.1.all (fun n => Nat.ble n.size 100)))
theorem okXB_spec {g : Gr} (h : okXB g = true) : okX g := by
  simp only [okXB, Bool.and_eq_true, List.all_eq_true, decide_eq_true_eq] at h
  exact ⟨okB_spec h.1, h.2.1, fun n hn => Nat.le_of_ble_eq_true (h.2.2.1 n hn), fun n hn => Nat.le_of_ble_eq_true (h.2.2.2 n hn)⟩
theorem grL_okX : grL.all okXB = true := by kernel_rfl
theorem grS_okX (k : Nat) : okX (grS k) := by
  unfold grS
  by_cases h : k < grL.length
  · exact okXB_spec (List.all_eq_true.1 grL_okX _ (getD_mem h))
  · rw [List.getD_eq_getElem?_getD, List.getElem?_eq_none (by omega)]
    exact okXB_spec (by kernel_rfl)
def okY (g : Gr) : Prop := 1 ≤ g.1.length ∧ g.1.length ≤ 99 ∧ g.2.1.length ≤ 99 ∧ (∀ q ∈ g.2.2, ∀ s ∈ q.2, -999 ≤ s ∧ s ≤ 999) ∧ (∀ n ∈ g.1, n.size ≤ 100) ∧ ∀ n ∈ g.2.1, n.size ≤ 100
theorem symS_in {t n r : Int} (h1 : 1 ≤ t) (h2 : t ≤ 99) (h3 : 0 ≤ n) (h4 : n ≤ 99) : -999 ≤ symS t n r ∧ symS t n r ≤ 999 := by
  have e1 := Int.emod_nonneg r (show t + n ≠ 0 by omega)
  have e2 := Int.emod_lt_of_pos r (show 0 < t + n by omega)
  unfold symS
  split <;> omega
theorem putS_okY {g : Gr} (h : okY g) (left : Int) (row : List Int) : okY (putS g left row) := by
  obtain ⟨h0, h1, h2, h3, h4, h5⟩ := h
  unfold putS
  split
  · exact ⟨h0, h1, h2, h3, h4, h5⟩
  · refine ⟨h0, h1, h2, fun q hq => ?_, h4, h5⟩
    rcases List.mem_append.1 hq with hq | hq
    · exact h3 q hq
    · rw [List.mem_singleton.1 hq]
      intro s hs
      obtain ⟨r, _, rfl⟩ := List.mem_map.1 hs
      exact symS_in (by omega) (by omega) (by omega) (by omega)
theorem puts1_okY : ∀ (k : Nat) (i : Int) {g : Gr}, okY g → okY (puts1 k i g)
  | 0, i, g, h => h
  | k + 1, i, g, h => puts1_okY k _ (putS_okY h _ _)
theorem puts2_okY (m : Int) : ∀ (l : List (List Int)) (i : Int) {g : Gr}, okY g → okY (puts2 m i g l)
  | [], i, g, h => h
  | r :: l, i, g, h => puts2_okY m l _ (putS_okY h _ _)
theorem anyS_okY (r : Raw) : okY (anyS r) := by
  have e1 := Int.emod_nonneg r.2.1 (show (3 : Int) ≠ 0 by omega)
  have e2 := Int.emod_lt_of_pos r.2.1 (show (0 : Int) < 3 by omega)
  have h0 : okY ([bA, bB, bC].take (1 + r.2.1 % 3).toNat, [bS, bUA, bUB].take (1 + r.2.2.1 % 3).toNat, []) := ⟨by simp only [List.length_take]; show 1 ≤ min _ 3; omega, by simp only [List.length_take]; exact Nat.le_trans (Nat.min_le_right _ _) (by decide), by simp only [List.length_take]; exact Nat.le_trans (Nat.min_le_right _ _) (by decide), fun q hq => by simp at hq,
    fun n hn => (show ∀ n ∈ [bA, bB, bC], n.size ≤ 100 by intro n hn; simp only [List.mem_cons, List.not_mem_nil, or_false] at hn; rcases hn with rfl | rfl | rfl <;> decide) n (List.mem_of_mem_take hn),
    fun n hn => (show ∀ n ∈ [bS, bUA, bUB], n.size ≤ 100 by intro n hn; simp only [List.mem_cons, List.not_mem_nil, or_false] at hn; rcases hn with rfl | rfl | rfl <;> decide) n (List.mem_of_mem_take hn)⟩
  exact puts2_okY _ _ _ (puts1_okY _ _ h0)
theorem gramS_okX (r : Raw) : okX (gramS r) := by
  unfold gramS
  split
  · exact grS_okX _
  · split
    · exact grS_okX _
    · exact ⟨anyS_ok r, (anyS_okY r).2.2.2⟩
mutual
def okK (k : Int) : Tree → Prop
  | .mk s p ks => (-k ≤ s ∧ s ≤ k ∧ -k ≤ p ∧ p ≤ k) ∧ okKs k ks
def okKs (k : Int) : List Tree → Prop
  | [] => True
  | t :: r => okK k t ∧ okKs k r
end
theorem kidsS_ok {f : Int → List Int → Tree × List Int} {n : Nat} {k : Int} (hf : ∀ s l, -999 ≤ s → s ≤ 999 → okK k (f s l).1 ∧ nodesT (f s l).1 ≤ n) : ∀ (q l : List Int), (∀ s ∈ q, -999 ≤ s ∧ s ≤ 999) → okKs k (kidsS f q l).1 ∧ nodesL (kidsS f q l).1 ≤ q.length * n
  | [], l, _ => by simp [kidsS, okKs, nodesL]
  | s :: q, l, hq => by
    obtain ⟨a, b⟩ := hq s List.mem_cons_self
    have h1 := hf s l a b
    have h2 := kidsS_ok hf q (f s l).2 (fun x hx => hq x (List.mem_cons_of_mem _ hx))
    simp only [kidsS, okKs, nodesL, List.length_cons, Nat.succ_mul]
    exact ⟨⟨h1.1, h2.1⟩, by omega⟩
theorem treeS_ok {g : Gr} (h : okX g) : ∀ (d : Nat) (sym : Int) (l : List Int), -999 ≤ sym → sym ≤ 999 → okK 999 (treeS d g sym l).1 ∧ nodesT (treeS d g sym l).1 ≤ 7 ^ d
  | 0, sym, l, a, b => by simp [treeS, okK, okKs, nodesT, nodesL]; omega
  | d + 1, sym, l, a, b => by
    have hpos : 0 < 7 ^ d := Nat.pow_pos (by omega)
    rw [treeS, Nat.pow_succ]
    split
    · simp only [okK, okKs, nodesT, nodesL]
      exact ⟨⟨by omega, trivial⟩, by omega⟩
    · rename_i hc
      have hP := prodsOf_get h.1 sym (l.getD 0 0)
      generalize (prodsOf sym 0 g.2.2).getD (l.getD 0 0 % ((prodsOf sym 0 g.2.2).length : Int)).toNat 0 = p at *
      have hp := h.1.2.2.1
      have hm : g.2.2.getD p.toNat (0, []) ∈ g.2.2 := getD_mem (by omega)
      obtain ⟨h1, h2⟩ := kidsS_ok (fun s l a b => treeS_ok h d s l a b) (g.2.2.getD p.toNat (0, [])).2 (l.drop 1) (h.2.1 _ hm)
      have h6 : (g.2.2.getD p.toNat (0, [])).2.length ≤ 6 := by omega
      have h7 := Nat.le_trans h2 (Nat.mul_le_mul_right (7 ^ d) h6)
      simp only [okK, nodesT]
      exact ⟨⟨by omega, h1⟩, by omega⟩
theorem ofS_ok {g : Gr} (h : okX g) (l : List Int) (deep : Int) : okK 999 (ofS g l deep) ∧ nodesT (ofS g l deep) ≤ 20000 := by
  rw [ofS]
  split
  · simp [okK, okKs, nodesT, nodesL]
  · rename_i hc
    have e1 := Int.emod_nonneg deep (show (6 : Int) ≠ 0 by omega)
    have e2 := Int.emod_lt_of_pos deep (show (0 : Int) < 6 by omega)
    have hl := h.1.2.1
    obtain ⟨h1, h2⟩ := treeS_ok h (deep % 6).toNat (if 0 < l.length then 100 + IntKind.i64.wrap ((l.getD 0 0).tdiv 7) % (g.2.1.length : Int) else 100) l (by
      have e1 := Int.emod_nonneg (IntKind.i64.wrap ((l.getD 0 0).tdiv 7)) (show (g.2.1.length : Int) ≠ 0 by omega)
      split <;> omega) (by
      have e2 := Int.emod_lt_of_pos (IntKind.i64.wrap ((l.getD 0 0).tdiv 7)) (show (0 : Int) < (g.2.1.length : Int) by omega)
      split <;> omega)
    exact ⟨h1, Nat.le_trans h2 (Nat.le_trans (Nat.pow_le_pow_right (by omega) (show (deep % 6).toNat ≤ 5 by omega)) (by decide))⟩
theorem nameS_size {g : Gr} (h : okX g) (s : Int) : (nameS g s).size ≤ 100 := by
  unfold nameS
  split
  · decide
  · split
    · by_cases hl : (s - 1).toNat < g.1.length
      · exact h.2.2.1 _ (getD_mem hl)
      · rw [List.getD_eq_getElem?_getD, List.getElem?_eq_none (by omega)]; decide
    · split
      · by_cases hl : (s - 100).toNat < g.2.1.length
        · exact h.2.2.2 _ (getD_mem hl)
        · rw [List.getD_eq_getElem?_getD, List.getElem?_eq_none (by omega)]; decide
      · decide
mutual
theorem textS_size {g : Gr} (h : okX g) : ∀ t : Tree, (textS g t).size + 1 ≤ 110 * nodesT t
  | .mk s p ks => by
    have h1 := nameS_size h s
    have h2 := textsS_size h ks (bOpen ++ nameS g s)
    simp only [ByteArray.size_append, show bOpen.size = 1 from rfl] at h2
    simp only [textS, nodesT]
    split
    · omega
    · simp only [ByteArray.size_append, show bShut.size = 1 from rfl]; omega
theorem textsS_size {g : Gr} (h : okX g) : ∀ (l : List Tree) (a : ByteArray), (textsS g a l).size ≤ a.size + 110 * nodesL l
  | [], a => by simp [textsS, nodesL]
  | k :: r, a => by
    have h1 := textS_size h k
    have h2 := textsS_size h r (a ++ bBlank ++ textS g k)
    simp only [ByteArray.size_append, show bBlank.size = 1 from rfl] at h2
    have h3 := nodesT_pos k
    simp only [textsS, nodesL]
    omega
end
mutual
theorem sameT_refl : ∀ t : Tree, sameT t t = true
  | .mk s p ks => by rw [sameT, decide_eq_true rfl, decide_eq_true rfl, sameTL_refl ks]; rfl
theorem sameTL_refl : ∀ l : List Tree, sameTL l l = true
  | [] => rfl
  | k :: r => by rw [sameTL, sameT_refl k, sameTL_refl r]; rfl
end
theorem sameS_refl (l : List Int) : sameS l l = true := sameS_iff.2 rfl
end Go.Proofs.Ytdmljeaigjfenaa.D

namespace Go.Proofs.Ytdmljeaigjfenaa.D
open Go Go.EV Go.TL Go.Proofs
set_option linter.unusedVariables false
set_option linter.unusedSimpArgs false
set_option maxRecDepth 100000
theorem grL_len : grL.length = 27 := by kernel_rfl
end Go.Proofs.Ytdmljeaigjfenaa.D

namespace Go.Proofs.Ytdmljeaigjfenaa.D
open Go Go.EV Go.TL Go.Proofs
set_option linter.unusedVariables false
set_option linter.unusedSimpArgs false
set_option maxRecDepth 100000
section
variable {right : List Int} {p : Int}
end
def validG (g : Gr) : Prop := ∀ q ∈ g.2.2, ∀ s ∈ q.2, isS g s = true
section
variable {g : Gr} {p : Int}
end
mutual
theorem sizeS_nodes : ∀ t : Tree, nodesT t ≤ 2000000 → sizeS t = (nodesT t : Int)
  | .mk s p ks, h => by
    rw [nodesT] at h ⊢
    rw [sizeS, sizesS_nodes ks 1 (by omega) (by omega) (by omega)]; omega
theorem sizesS_nodes : ∀ (l : List Tree) (n : Int), 0 ≤ n → n + (nodesL l : Int) ≤ 2000001 → 0 < n → sizesS n l = n + (nodesL l : Int)
  | [], n, _, _, _ => by simp [sizesS, nodesL]
  | k :: r, n, h0, h, hn => by
    rw [nodesL] at h
    have hp := nodesT_pos k
    rw [sizesS, sizeS_nodes k (by omega), wrapI64 (by omega) (by omega), sizesS_nodes r _ (by omega) (by omega) (by omega), nodesL]; omega
end
theorem treeS_check {g : Gr} (hg : validG g) (hG : okG g) : ∀ (d : Nat) (sym : Int) (l : List Int), isS g sym = true → checkS g (treeS d g sym l).1 sym = true
  | 0, sym, l, h => by rw [treeS, checkS, decide_eq_true rfl, if_pos rfl, h]; rfl
  | d + 1, sym, l, h => by
    rw [treeS]
    split
    · rw [checkS, decide_eq_true rfl, if_pos rfl, h]; rfl
    · rename_i hc
      have hP := prodsOf_get hG sym (l.getD 0 0)
      have hm : (prodsOf sym 0 g.2.2).getD (l.getD 0 0 % ((prodsOf sym 0 g.2.2).length : Int)).toNat 0 ∈ prodsOf sym 0 g.2.2 := getD_mem (by omega)
      obtain ⟨m1, m2, m3⟩ := prodsOf_mem hm
      generalize (prodsOf sym 0 g.2.2).getD (l.getD 0 0 % ((prodsOf sym 0 g.2.2).length : Int)).toNat 0 = p at *
      have hr : ∀ (q l : List Int), (∀ s ∈ q, isS g s = true) → checksS g (kidsS (treeS d g) q l).1 q = true := by
        intro q
        induction q with
        | nil => intro l _; rfl
        | cons s q ih =>
          intro l hq
          rw [kidsS, checksS, treeS_check hg hG d s l (hq s List.mem_cons_self), ih _ (fun x hx => hq x (List.mem_cons_of_mem _ hx))]; rfl
      rw [Int.sub_zero] at m3
      rw [checkS, decide_eq_true rfl, if_neg (by omega), decide_eq_true (show 0 ≤ p by omega), decide_eq_true (show p < (g.2.2.length : Int) by omega), decide_eq_true (show (prodS g p).1 = sym from m3)]
      rw [show prodS g p = g.2.2.getD p.toNat (0, []) from rfl, hr _ _ (hg _ (getD_mem (by omega)))]; rfl
def okV (g : Gr) : Prop := 1 ≤ g.1.length ∧ g.1.length ≤ 99 ∧ g.2.1.length ≤ 99 ∧ validG g
theorem isS_put (g : Gr) (l : Int) (r : List Int) (s : Int) : isS (putS g l r) s = isS g s := by
  obtain ⟨p1, p2, _⟩ := putS_len g l r
  simp only [isS, termS, nonS, p1, p2]
theorem symS_is {g : Gr} (h1 : 1 ≤ g.1.length) (h2 : g.1.length ≤ 99) (r : Int) : isS g (symS g.1.length g.2.1.length r) = true := by
  have e1 := Int.emod_nonneg r (show (g.1.length : Int) + g.2.1.length ≠ 0 by omega)
  have e2 := Int.emod_lt_of_pos r (show 0 < (g.1.length : Int) + g.2.1.length by omega)
  by_cases hc : r % ((g.1.length : Int) + g.2.1.length) < g.1.length
  · have e : symS g.1.length g.2.1.length r = r % ((g.1.length : Int) + g.2.1.length) + 1 := if_pos hc
    rw [e]
    simp only [isS, termS, nonS, Bool.or_eq_true, Bool.and_eq_true, decide_eq_true_eq]
    left; omega
  · have e : symS g.1.length g.2.1.length r = 100 + r % ((g.1.length : Int) + g.2.1.length) - g.1.length := if_neg hc
    rw [e]
    simp only [isS, termS, nonS, Bool.or_eq_true, Bool.and_eq_true, decide_eq_true_eq]
    right; omega
theorem putS_okV {g : Gr} (h : okV g) (left : Int) (row : List Int) : okV (putS g left row) := by
  obtain ⟨h0, h1, h2, h3⟩ := h
  obtain ⟨p1, p2, _⟩ := putS_len g left row
  refine ⟨by rw [p1]; exact h0, by rw [p1]; exact h1, by rw [p2]; exact h2, fun q hq s hs => ?_⟩
  rw [isS_put]
  unfold putS at hq
  split at hq
  · exact h3 q hq s hs
  · rcases List.mem_append.1 hq with hq | hq
    · exact h3 q hq s hs
    · rw [List.mem_singleton.1 hq] at hs
      obtain ⟨r, _, rfl⟩ := List.mem_map.1 hs
      exact symS_is h0 h1 r
def hasP (g : Gr) (s : Int) : Prop := ∃ q ∈ g.2.2, q.1 = s
theorem hasS_imp {left : Int} {r : List Int} : ∀ {l : List (Int × List Int)}, hasS left r l = true → ∃ q ∈ l, q.1 = left
  | [], h => by simp [hasS] at h
  | q :: l, h => by
    simp only [hasS, Bool.or_eq_true, Bool.and_eq_true, decide_eq_true_eq] at h
    rcases h with h | h
    · exact ⟨q, List.mem_cons_self, h.1⟩
    · obtain ⟨x, hx, e⟩ := hasS_imp h
      exact ⟨x, List.mem_cons_of_mem _ hx, e⟩
theorem putS_has (g : Gr) (left : Int) (row : List Int) : hasP (putS g left row) left := by
  unfold putS
  split
  · rename_i h; exact hasS_imp h
  · exact ⟨_, List.mem_append_right _ (List.mem_singleton_self _), rfl⟩
theorem putS_keep {g : Gr} {s : Int} (h : hasP g s) (left : Int) (row : List Int) : hasP (putS g left row) s := by
  obtain ⟨q, hq, e⟩ := h
  unfold putS
  split
  · exact ⟨q, hq, e⟩
  · exact ⟨q, List.mem_append_left _ hq, e⟩
theorem puts1_keep {s : Int} : ∀ (k : Nat) (i : Int) {g : Gr}, hasP g s → hasP (puts1 k i g) s
  | 0, i, g, h => h
  | k + 1, i, g, h => puts1_keep k _ (putS_keep h _ _)
theorem puts1_has : ∀ (k : Nat) (i : Int) (g : Gr) (s : Int), 100 + i ≤ s → s < 100 + i + k → hasP (puts1 k i g) s
  | 0, i, g, s, h1, h2 => by omega
  | k + 1, i, g, s, h1, h2 => by
    rw [puts1]
    by_cases e : s = 100 + i
    · subst e; exact puts1_keep k _ (putS_has g _ _)
    · exact puts1_has k (i + 1) _ s (by omega) (by omega)
theorem puts2_keep {m s : Int} : ∀ (l : List (List Int)) (i : Int) {g : Gr}, hasP g s → hasP (puts2 m i g l) s
  | [], i, g, h => h
  | r :: l, i, g, h => puts2_keep l _ (putS_keep h _ _)
theorem puts1_okV : ∀ (k : Nat) (i : Int) {g : Gr}, okV g → okV (puts1 k i g)
  | 0, i, g, h => h
  | k + 1, i, g, h => puts1_okV k _ (putS_okV h _ _)
theorem puts2_okV (m : Int) : ∀ (l : List (List Int)) (i : Int) {g : Gr}, okV g → okV (puts2 m i g l)
  | [], i, g, h => h
  | r :: l, i, g, h => puts2_okV m l _ (putS_okV h _ _)
theorem puts2_len (m : Int) : ∀ (l : List (List Int)) (i : Int) (g : Gr), (puts2 m i g l).1 = g.1 ∧ (puts2 m i g l).2.1 = g.2.1
  | [], i, g => ⟨rfl, rfl⟩
  | r :: l, i, g => by
    obtain ⟨h1, h2⟩ := puts2_len m l (i + 1) (putS g (100 + leftS i r % m) r)
    obtain ⟨p1, p2, _⟩ := putS_len g (100 + leftS i r % m) r
    rw [puts2]; exact ⟨h1.trans p1, h2.trans p2⟩
theorem anyS_V (r : Raw) : okV (anyS r) ∧ 1 ≤ (anyS r).2.1.length ∧ ∀ s, 100 ≤ s → s < 100 + ((anyS r).2.1.length : Int) → hasP (anyS r) s := by
  have e1 := Int.emod_nonneg r.2.1 (show (3 : Int) ≠ 0 by omega)
  have e2 := Int.emod_lt_of_pos r.2.1 (show (0 : Int) < 3 by omega)
  have e3 := Int.emod_nonneg r.2.2.1 (show (3 : Int) ≠ 0 by omega)
  have e4 := Int.emod_lt_of_pos r.2.2.1 (show (0 : Int) < 3 by omega)
  have hT : ([bA, bB, bC].take (1 + r.2.1 % 3).toNat).length = (1 + r.2.1 % 3).toNat := by rw [List.length_take]; show min _ 3 = _; omega
  have hN : ([bS, bUA, bUB].take (1 + r.2.2.1 % 3).toNat).length = (1 + r.2.2.1 % 3).toNat := by rw [List.length_take]; show min _ 3 = _; omega
  have h0 : okV ([bA, bB, bC].take (1 + r.2.1 % 3).toNat, [bS, bUA, bUB].take (1 + r.2.2.1 % 3).toNat, []) := ⟨by simp only [hT]; omega, by simp only [hT]; omega, by simp only [hN]; omega, fun q hq => by simp at hq⟩
  obtain ⟨l1, l2⟩ := puts2_len (1 + r.2.2.1 % 3) (r.2.2.2.2.1.take 5) 0 (puts1 (1 + r.2.2.1 % 3).toNat 0 ([bA, bB, bC].take (1 + r.2.1 % 3).toNat, [bS, bUA, bUB].take (1 + r.2.2.1 % 3).toNat, []))
  obtain ⟨m1, m2, _⟩ := puts1_len (1 + r.2.2.1 % 3).toNat 0 ([bA, bB, bC].take (1 + r.2.1 % 3).toNat, [bS, bUA, bUB].take (1 + r.2.2.1 % 3).toNat, [])
  have hn : (anyS r).2.1.length = (1 + r.2.2.1 % 3).toNat := by rw [anyS, l2, m2]; exact hN
  refine ⟨puts2_okV _ _ _ (puts1_okV _ _ h0), by rw [hn]; omega, fun s hs1 hs2 => ?_⟩
  rw [hn] at hs2
  exact puts2_keep _ _ (puts1_has _ 0 _ s (by omega) (by omega))
end Go.Proofs.Ytdmljeaigjfenaa.D

namespace Go.Proofs.Ytdmljeaigjfenaa.D
open Go Go.EV Go.TL Go.Proofs
set_option linter.unusedVariables false
set_option linter.unusedSimpArgs false
set_option maxRecDepth 100000
def bs (s : ByteArray) : List Int := s.data.toList.map fun b => (b.toNat : Int)
theorem bs_append (a b : ByteArray) : bs (a ++ b) = bs a ++ bs b := by unfold bs; rw [ByteArray.toList_data_append, List.map_append]
theorem bs_len (s : ByteArray) : (bs s).length = s.size := by unfold bs; rw [List.length_map, Array.length_toList]; rfl
theorem bs_inj {a b : ByteArray} (h : bs a = bs b) : a = b := by
  have := (List.map_inj_right (fun x y e => by
    have e2 : (x.toNat : Int) = (y.toNat : Int) := e
    exact UInt8.toNat_inj.1 (by omega))).1 h
  exact ByteArray.ext (Array.ext' this)
theorem bt_bs {s : ByteArray} {i : Int} (h0 : 0 ≤ i) (h : i < (s.size : Int)) : XW.bt s i = (bs s).getD i.toNat 0 := by
  have hi : i.toNat < s.size := by omega
  have hi2 : i.toNat < s.data.size := hi
  rw [XW.bt, dif_pos hi, List.getD_eq_getElem?_getD]
  unfold bs
  rw [List.getElem?_map, Array.getElem?_toList, Array.getElem?_eq_getElem hi2]; rfl
def cntL (c : Int) : List Int → Int
  | [] => 0
  | b :: r => (if b = c then 1 else 0) + cntL c r
noncomputable def treeTexts.L0  : LFace := ⟨[10, 12, 14, 16, 17, 18, 19], [.un, .p .tree, .v .str, .v (.int .i64), .v (.int .i64), .v (.int .i64), .v (.int .i64)], fun (z, t, s, a, b, c, i) => some (0 ≤ i ∧ i ≤ (s.size : Int) ∧ s.size ≤ BIGS ∧ 0 ≤ a ∧ a ≤ i ∧ 0 ≤ b ∧ b ≤ i ∧ 0 ≤ c ∧ c ≤ i),
  [⟨.normal, [10, 12, 16, 17, 18], [.un, .p .tree, .v (.int .i64), .v (.int .i64), .v (.int .i64)], fun (z, t, s, a, b, c, i) => (z, t, a + cntL 40 ((bs s).drop i.toNat), b + cntL 41 ((bs s).drop i.toNat), c + cntL 32 ((bs s).drop i.toNat)), fun (z, t, s, a, b, c, i) => none⟩]⟩
noncomputable def treeTexts.L0.mu  : dens treeTexts.L0.sh → Nat := fun (z, t, s, a, b, c, i) => ((s.size : Int) - i).toNat
noncomputable def treeTexts.L0.q0 (s : ByteArray) (i : Int) : Prop := ((True ∧ decide (i < (↑s.size : Int)) = true) ∧ (0 : Int) ≤ i ∧ i < (↑s.size : Int)) ∧ (XW.bt s i == (40 : Int)) = false
noncomputable def treeTexts.L0.T (z : Unit) (t : Tree) (s : ByteArray) (a : Int) (b : Int) (c : Int) (i : Int) : Prop := (((True ∧ decide (i < (↑s.size : Int)) = true) ∧ (0 : Int) ≤ i ∧ i < (↑s.size : Int)) ∧ (XW.bt s i == (40 : Int)) = true → ((0 : Int) ≤ IntKind.i64.wrap (i + (1 : Int)) ∧ IntKind.i64.wrap (i + (1 : Int)) ≤ (↑s.size : Int) ∧ s.size ≤ BIGS ∧ (0 : Int) ≤ IntKind.i64.wrap (a + (1 : Int)) ∧ IntKind.i64.wrap (a + (1 : Int)) ≤ IntKind.i64.wrap (i + (1 : Int)) ∧ (0 : Int) ≤ b ∧ b ≤ IntKind.i64.wrap (i + (1 : Int)) ∧ (0 : Int) ≤ c ∧ c ≤ IntKind.i64.wrap (i + (1 : Int))) ∧ treeTexts.L0.mu ((), t, s, IntKind.i64.wrap (a + (1 : Int)), b, c, IntKind.i64.wrap (i + (1 : Int))) < treeTexts.L0.mu (z, t, s, a, b, c, i) ∧ (True → True ∧ ((), t, IntKind.i64.wrap (a + (1 : Int)) + cntL (40 : Int) (List.drop (IntKind.i64.wrap (i + (1 : Int))).toNat (bs s)), b + cntL (41 : Int) (List.drop (IntKind.i64.wrap (i + (1 : Int))).toNat (bs s)), c + cntL (32 : Int) (List.drop (IntKind.i64.wrap (i + (1 : Int))).toNat (bs s))) = ((), t, a + cntL (40 : Int) (List.drop i.toNat (bs s)), b + cntL (41 : Int) (List.drop i.toNat (bs s)), c + cntL (32 : Int) (List.drop i.toNat (bs s)))) ∧ True) ∧ ((treeTexts.L0.q0 s i) ∧ (XW.bt s i == (41 : Int)) = true → ((0 : Int) ≤ IntKind.i64.wrap (i + (1 : Int)) ∧ IntKind.i64.wrap (i + (1 : Int)) ≤ (↑s.size : Int) ∧ s.size ≤ BIGS ∧ (0 : Int) ≤ a ∧ a ≤ IntKind.i64.wrap (i + (1 : Int)) ∧ (0 : Int) ≤ IntKind.i64.wrap (b + (1 : Int)) ∧ IntKind.i64.wrap (b + (1 : Int)) ≤ IntKind.i64.wrap (i + (1 : Int)) ∧ (0 : Int) ≤ c ∧ c ≤ IntKind.i64.wrap (i + (1 : Int))) ∧ treeTexts.L0.mu ((), t, s, a, IntKind.i64.wrap (b + (1 : Int)), c, IntKind.i64.wrap (i + (1 : Int))) < treeTexts.L0.mu (z, t, s, a, b, c, i) ∧ (True → True ∧ ((), t, a + cntL (40 : Int) (List.drop (IntKind.i64.wrap (i + (1 : Int))).toNat (bs s)), IntKind.i64.wrap (b + (1 : Int)) + cntL (41 : Int) (List.drop (IntKind.i64.wrap (i + (1 : Int))).toNat (bs s)), c + cntL (32 : Int) (List.drop (IntKind.i64.wrap (i + (1 : Int))).toNat (bs s))) = ((), t, a + cntL (40 : Int) (List.drop i.toNat (bs s)), b + cntL (41 : Int) (List.drop i.toNat (bs s)), c + cntL (32 : Int) (List.drop i.toNat (bs s)))) ∧ True) ∧ (((treeTexts.L0.q0 s i) ∧ (XW.bt s i == (41 : Int)) = false) ∧ (XW.bt s i == (32 : Int)) = true → ((0 : Int) ≤ IntKind.i64.wrap (i + (1 : Int)) ∧ IntKind.i64.wrap (i + (1 : Int)) ≤ (↑s.size : Int) ∧ s.size ≤ BIGS ∧ (0 : Int) ≤ a ∧ a ≤ IntKind.i64.wrap (i + (1 : Int)) ∧ (0 : Int) ≤ b ∧ b ≤ IntKind.i64.wrap (i + (1 : Int)) ∧ (0 : Int) ≤ IntKind.i64.wrap (c + (1 : Int)) ∧ IntKind.i64.wrap (c + (1 : Int)) ≤ IntKind.i64.wrap (i + (1 : Int))) ∧ treeTexts.L0.mu ((), t, s, a, b, IntKind.i64.wrap (c + (1 : Int)), IntKind.i64.wrap (i + (1 : Int))) < treeTexts.L0.mu (z, t, s, a, b, c, i) ∧ (True → True ∧ ((), t, a + cntL (40 : Int) (List.drop (IntKind.i64.wrap (i + (1 : Int))).toNat (bs s)), b + cntL (41 : Int) (List.drop (IntKind.i64.wrap (i + (1 : Int))).toNat (bs s)), IntKind.i64.wrap (c + (1 : Int)) + cntL (32 : Int) (List.drop (IntKind.i64.wrap (i + (1 : Int))).toNat (bs s))) = ((), t, a + cntL (40 : Int) (List.drop i.toNat (bs s)), b + cntL (41 : Int) (List.drop i.toNat (bs s)), c + cntL (32 : Int) (List.drop i.toNat (bs s)))) ∧ True) ∧ (((treeTexts.L0.q0 s i) ∧ (XW.bt s i == (41 : Int)) = false) ∧ (XW.bt s i == (32 : Int)) = false → ((0 : Int) ≤ IntKind.i64.wrap (i + (1 : Int)) ∧ IntKind.i64.wrap (i + (1 : Int)) ≤ (↑s.size : Int) ∧ s.size ≤ BIGS ∧ (0 : Int) ≤ a ∧ a ≤ IntKind.i64.wrap (i + (1 : Int)) ∧ (0 : Int) ≤ b ∧ b ≤ IntKind.i64.wrap (i + (1 : Int)) ∧ (0 : Int) ≤ c ∧ c ≤ IntKind.i64.wrap (i + (1 : Int))) ∧ treeTexts.L0.mu ((), t, s, a, b, c, IntKind.i64.wrap (i + (1 : Int))) < treeTexts.L0.mu (z, t, s, a, b, c, i) ∧ (True → True ∧ ((), t, a + cntL (40 : Int) (List.drop (IntKind.i64.wrap (i + (1 : Int))).toNat (bs s)), b + cntL (41 : Int) (List.drop (IntKind.i64.wrap (i + (1 : Int))).toNat (bs s)), c + cntL (32 : Int) (List.drop (IntKind.i64.wrap (i + (1 : Int))).toNat (bs s))) = ((), t, a + cntL (40 : Int) (List.drop i.toNat (bs s)), b + cntL (41 : Int) (List.drop i.toNat (bs s)), c + cntL (32 : Int) (List.drop i.toNat (bs s)))) ∧ True) ∧ ((True ∧ decide (i < (↑s.size : Int)) = true) ∧ ¬((0 : Int) ≤ i ∧ i < (↑s.size : Int)) → False) ∧ (True ∧ decide (i < (↑s.size : Int)) = false → True ∧ ((), t, a, b, c) = ((), t, a + cntL (40 : Int) (List.drop i.toNat (bs s)), b + cntL (41 : Int) (List.drop i.toNat (bs s)), c + cntL (32 : Int) (List.drop i.toNat (bs s)))) ∧ (True)
theorem treeTexts.L0.ok  (z : Unit) (t : Tree) (s : ByteArray) (a : Int) (b : Int) (c : Int) (i : Int) (hx : 0 ≤ i ∧ i ≤ (s.size : Int) ∧ s.size ≤ BIGS ∧ 0 ≤ a ∧ a ≤ i ∧ 0 ≤ b ∧ b ≤ i ∧ 0 ≤ c ∧ c ≤ i) : treeTexts.L0.T  z t s a b c i := by
  obtain ⟨h0, h1, h2, h3, h4, h5, h6, h7, h8⟩ := hx
  have hB : BIGS = 1000000000000 := rfl
  have hD : i < (s.size : Int) → (bs s).drop i.toNat = XW.bt s i :: (bs s).drop (i + 1).toNat := fun h => by
    rw [bt_bs h0 h]; exact drop_int 0 h0 (by rw [bs_len]; exact h)
  delta treeTexts.L0.T treeTexts.L0.q0
  rw [wrapI64 (x := i + 1) (by omega) (by omega), wrapI64 (x := a + 1) (by omega) (by omega), wrapI64 (x := b + 1) (by omega) (by omega), wrapI64 (x := c + 1) (by omega) (by omega)]
  generalize XW.bt s i = x at *
  have e := fun k : Int => fun h => show cntL k ((bs s).drop i.toNat) = (if x = k then 1 else 0) + cntL k ((bs s).drop (i + 1).toNat) by rw [hD h, cntL]
  ((repeat' (first | exact trivial | apply And.intro)) <;> (intro hw; (try (simp only [true_and, and_true, decide_eq_true_eq, decide_eq_false_iff_not, beq_iff_eq, bne_iff_ne, beq_eq_false_iff_ne, bne_eq_false_iff_eq, ne_eq, Bool.not_eq_true, Bool.not_eq_false, not_true_eq_false, not_false_eq_true, Bool.not_eq_eq_eq_not, Bool.not_true, Bool.not_false, forall_const, imp_self, Bool.true_eq_false, Bool.false_eq_true, reduceCtorEq] at hw)); (try first | (exfalso; omega) | exact ⟨trivial, rfl⟩ | exact (hw hx).elim | exact (hw.2 hx).elim)))
  · rw [e 40 (by omega), e 41 (by omega), e 32 (by omega), if_pos hw.2, if_neg (by omega), if_neg (by omega)]
    exact ⟨⟨by omega, by omega, h2, by omega, by omega, h5, by omega, h7, by omega⟩, by simp only [treeTexts.L0.mu]; omega, fun _ => ⟨trivial, by simp only [Prod.mk.injEq, true_and]; omega⟩, trivial⟩
  · rw [e 40 (by omega), e 41 (by omega), e 32 (by omega), if_neg (by omega), if_pos hw.2, if_neg (by omega)]
    exact ⟨⟨by omega, by omega, h2, h3, by omega, by omega, by omega, h7, by omega⟩, by simp only [treeTexts.L0.mu]; omega, fun _ => ⟨trivial, by simp only [Prod.mk.injEq, true_and]; omega⟩, trivial⟩
  · rw [e 40 (by omega), e 41 (by omega), e 32 (by omega), if_neg (by omega), if_neg (by omega), if_pos hw.2]
    exact ⟨⟨by omega, by omega, h2, h3, by omega, h5, by omega, by omega, by omega⟩, by simp only [treeTexts.L0.mu]; omega, fun _ => ⟨trivial, by simp only [Prod.mk.injEq, true_and]; omega⟩, trivial⟩
  · rw [e 40 (by omega), e 41 (by omega), e 32 (by omega), if_neg (by omega), if_neg (by omega), if_neg (by omega)]
    exact ⟨⟨by omega, by omega, h2, h3, by omega, h5, by omega, h7, by omega⟩, by simp only [treeTexts.L0.mu]; omega, fun _ => ⟨trivial, by simp only [Prod.mk.injEq, true_and]; omega⟩, trivial⟩
  · rw [List.drop_eq_nil_of_le (by rw [bs_len]; omega)]
    simp only [cntL, Int.add_zero]
    first | exact ⟨trivial, rfl⟩ | exact ⟨trivial, trivial⟩
def kidsB (g : Gr) : List Tree → List Int
  | [] => []
  | k :: r => 32 :: (bs (textS g k) ++ kidsB g r)
theorem bs_texts (g : Gr) : ∀ (l : List Tree) (a : ByteArray), bs (textsS g a l) = bs a ++ kidsB g l
  | [], a => by rw [textsS, kidsB, List.append_nil]
  | k :: r, a => by
    rw [textsS, bs_texts g r, bs_append, bs_append, kidsB, show bs bBlank = [32] from by decide]
    simp
theorem bs_text1 {g : Gr} {s p : Int} {ks : List Tree} (hp : p = -1) : bs (textS g (.mk s p ks)) = bs (nameS g s) := by rw [textS, if_pos hp]
theorem bs_text2 {g : Gr} {s p : Int} {ks : List Tree} (hp : p ≠ -1) : bs (textS g (.mk s p ks)) = 40 :: (bs (nameS g s) ++ (kidsB g ks ++ [41])) := by
  rw [textS, if_neg hp, bs_append, bs_texts, bs_append, show bs bOpen = [40] from by decide, show bs bShut = [41] from by decide]
  simp
structure okN3 (g : Gr) : Prop where
  small : gSmall g
  sep : ∀ n ∈ g.1 ++ g.2.1, bs n ≠ [] ∧ 32 ∉ bs n ∧ 40 ∉ bs n ∧ 41 ∉ bs n
  nd : (g.1 ++ g.2.1).Nodup
  pd : g.2.2.Nodup
  left : ∀ q ∈ g.2.2, isS g q.1 = true
def posS (g : Gr) (s : Int) : Nat := if termS g s = true then (s - 1).toNat else g.1.length + (s - 100).toNat
theorem nameS_pos {g : Gr} {s : Int} (h : isS g s = true) (hs : gSmall g) : posS g s < (g.1 ++ g.2.1).length ∧ nameS g s = (g.1 ++ g.2.1).getD (posS g s) ByteArray.empty := by
  obtain ⟨s1, s2⟩ := hs
  have hT : termS g s = true ↔ 1 ≤ s ∧ s ≤ (g.1.length : Int) := by simp [termS]
  have hN : nonS g s = true ↔ 100 ≤ s ∧ s < 100 + (g.2.1.length : Int) := by simp [nonS]
  rw [isS, Bool.or_eq_true] at h
  unfold posS nameS
  by_cases ht : termS g s = true
  · have h1 := hT.1 ht
    rw [if_pos ht, if_neg (by omega), if_pos ht]
    refine ⟨by rw [List.length_append]; omega, ?_⟩
    rw [List.getD_eq_getElem?_getD, List.getD_eq_getElem?_getD, List.getElem?_append_left (by omega)]
  · have hn := h.resolve_left ht
    have h1 := hN.1 hn
    rw [if_neg ht, if_neg (by omega), if_neg ht, if_pos hn]
    refine ⟨by rw [List.length_append]; omega, ?_⟩
    rw [List.getD_eq_getElem?_getD, List.getD_eq_getElem?_getD, List.getElem?_append_right (by omega)]
    congr 2; omega
theorem nameS_sep {g : Gr} (hg : okN3 g) {s : Int} (h : isS g s = true) : bs (nameS g s) ≠ [] ∧ 32 ∉ bs (nameS g s) ∧ 40 ∉ bs (nameS g s) ∧ 41 ∉ bs (nameS g s) := by
  obtain ⟨h1, h2⟩ := nameS_pos h hg.small
  rw [h2]; exact hg.sep _ (getD_mem h1)
def sepL : List Int → Prop
  | [] => True
  | b :: _ => b = 32 ∨ b = 41
theorem kidsB_sep (g : Gr) (l : List Tree) (x : List Int) : sepL (kidsB g l ++ 41 :: x) := by
  cases l with
  | nil => exact .inr rfl
  | cons k r => exact .inl rfl
theorem checkS_parts {g : Gr} {t : Tree} {s : Int} (h : checkS g t s = true) : t.sym = s ∧ (t.prod = -1 → t.kids = [] ∧ isS g t.sym = true) ∧ (t.prod ≠ -1 → 0 ≤ t.prod ∧ t.prod < (g.2.2.length : Int) ∧ (prodS g t.prod).1 = s ∧ checksS g t.kids (prodS g t.prod).2 = true) := by
  rw [checkS_eq, Bool.and_eq_true, decide_eq_true_eq] at h
  refine ⟨h.1, fun hp => ?_, fun hp => ?_⟩
  · have h2 := h.2
    rw [if_pos hp, Bool.and_eq_true, decide_eq_true_eq] at h2
    exact ⟨List.eq_nil_of_length_eq_zero h2.1, h2.2⟩
  · have h2 := h.2
    rw [if_neg hp] at h2
    simp only [Bool.and_eq_true, decide_eq_true_eq] at h2
    exact ⟨h2.1, h2.2.1, h2.2.2.1, h2.2.2.2⟩
theorem checksS_syms {g : Gr} : ∀ {l : List Tree} {q : List Int}, checksS g l q = true → q = l.map Tree.sym
  | [], [], _ => rfl
  | [], _ :: _, h => by simp [checksS] at h
  | _ :: _, [], h => by simp [checksS] at h
  | k :: r, s :: q, h => by
    simp only [checksS, Bool.and_eq_true] at h
    rw [List.map_cons, ← checksS_syms h.2, (checkS_parts h.1).1]
def sepB (g : Gr) : Bool := (g.1 ++ g.2.1).all (fun n => !(bs n).isEmpty && !(bs n).contains 32 && !(bs n).contains 40 && !(bs n).contains 41) && decide ((g.1 ++ g.2.1).map bs).Nodup
theorem sepB_spec {g : Gr} (h : sepB g = true) : (∀ n ∈ g.1 ++ g.2.1, bs n ≠ [] ∧ 32 ∉ bs n ∧ 40 ∉ bs n ∧ 41 ∉ bs n) ∧ (g.1 ++ g.2.1).Nodup := by
  simp only [sepB, Bool.and_eq_true, List.all_eq_true, decide_eq_true_eq] at h
  refine ⟨fun n hn => ?_, (List.pairwise_map.1 h.2).imp (fun h e => h (congrArg bs e))⟩
  have := h.1 n hn
  simp only [Bool.not_eq_true', List.isEmpty_eq_false_iff, List.contains_eq_mem, decide_eq_false_iff_not] at this
  exact ⟨this.1.1.1, this.1.1.2, this.1.2, this.2⟩
def okL (g : Gr) : Prop := (∀ q ∈ g.2.2, 100 ≤ q.1 ∧ q.1 < 100 + (g.2.1.length : Int)) ∧ g.2.2.Nodup
theorem hasS_mem {left : Int} {r : List Int} : ∀ {l : List (Int × List Int)}, (left, r) ∈ l → hasS left r l = true
  | [], h => by simp at h
  | q :: l, h => by
    rcases List.mem_cons.1 h with e | h
    · subst e
      simp only [hasS, decide_true, Bool.true_and, sameS_refl, Bool.true_or]
    · simp only [hasS, hasS_mem h, Bool.or_true]
theorem putS_okL {g : Gr} (h : okL g) {left : Int} (h1 : 100 ≤ left) (h2 : left < 100 + (g.2.1.length : Int)) (row : List Int) : okL (putS g left row) := by
  unfold putS
  split
  · exact h
  · rename_i hn
    refine ⟨fun q hq => ?_, ?_⟩
    · rcases List.mem_append.1 hq with hq | hq
      · exact h.1 q hq
      · rw [List.mem_singleton.1 hq]; exact ⟨h1, h2⟩
    · refine List.pairwise_append.2 ⟨h.2, List.pairwise_singleton _ _, fun x hx y hy e => hn ?_⟩
      rw [List.mem_singleton.1 hy] at e
      exact hasS_mem (e ▸ hx)
theorem puts1_okL : ∀ (k : Nat) (i : Int) {g : Gr}, 0 ≤ i → i + k ≤ (g.2.1.length : Int) → okL g → okL (puts1 k i g)
  | 0, i, g, _, _, h => h
  | k + 1, i, g, h0, h1, h => by
    obtain ⟨p1, p2, _⟩ := putS_len g (100 + i) [i]
    exact puts1_okL k (i + 1) (by omega) (by rw [p2]; omega) (putS_okL h (by omega) (by omega) _)
theorem puts2_okL {m : Int} (hm : 0 < m) : ∀ (l : List (List Int)) (i : Int) {g : Gr}, m = (g.2.1.length : Int) → okL g → okL (puts2 m i g l)
  | [], i, g, _, h => h
  | r :: l, i, g, hn, h => by
    obtain ⟨p1, p2, _⟩ := putS_len g (100 + leftS i r % m) r
    have e1 := Int.emod_nonneg (leftS i r) (show m ≠ 0 by omega)
    have e2 := Int.emod_lt_of_pos (leftS i r) hm
    exact puts2_okL hm l (i + 1) (by rw [p2]; exact hn) (putS_okL h (by omega) (by omega) _)
theorem take_sep : ∀ t n : Nat, t ≤ 3 → n ≤ 3 → sepB ([bA, bB, bC].take t, [bS, bUA, bUB].take n, []) = true
  | 0, 0, _, _ => by kernel_rfl
  | 0, 1, _, _ => by kernel_rfl
  | 0, 2, _, _ => by kernel_rfl
  | 0, 3, _, _ => by kernel_rfl
  | 1, 0, _, _ => by kernel_rfl
  | 1, 1, _, _ => by kernel_rfl
  | 1, 2, _, _ => by kernel_rfl
  | 1, 3, _, _ => by kernel_rfl
  | 2, 0, _, _ => by kernel_rfl
  | 2, 1, _, _ => by kernel_rfl
  | 2, 2, _, _ => by kernel_rfl
  | 2, 3, _, _ => by kernel_rfl
  | 3, 0, _, _ => by kernel_rfl
  | 3, 1, _, _ => by kernel_rfl
  | 3, 2, _, _ => by kernel_rfl
  | 3, 3, _, _ => by kernel_rfl
  | t + 4, _, h, _ => by omega
  | _, n + 4, _, h => by omega
theorem anyS_N (r : Raw) : okN3 (anyS r) := by
  have e1 := Int.emod_nonneg r.2.1 (show (3 : Int) ≠ 0 by omega)
  have e2 := Int.emod_lt_of_pos r.2.1 (show (0 : Int) < 3 by omega)
  have e3 := Int.emod_nonneg r.2.2.1 (show (3 : Int) ≠ 0 by omega)
  have e4 := Int.emod_lt_of_pos r.2.2.1 (show (0 : Int) < 3 by omega)
  have hN : ([bS, bUA, bUB].take (1 + r.2.2.1 % 3).toNat).length = (1 + r.2.2.1 % 3).toNat := by rw [List.length_take]; show min _ 3 = _; omega
  obtain ⟨m1, m2, _⟩ := puts1_len (1 + r.2.2.1 % 3).toNat 0 ([bA, bB, bC].take (1 + r.2.1 % 3).toNat, [bS, bUA, bUB].take (1 + r.2.2.1 % 3).toNat, [])
  have hl : ∀ (m : Int) (l : List (List Int)) (i : Int) (g : Gr), (puts2 m i g l).1 = g.1 ∧ (puts2 m i g l).2.1 = g.2.1 := by
    intro m l
    induction l with
    | nil => intro i g; exact ⟨rfl, rfl⟩
    | cons r l ih =>
      intro i g
      obtain ⟨h1, h2⟩ := ih (i + 1) (putS g (100 + leftS i r % m) r)
      obtain ⟨p1, p2, _⟩ := putS_len g (100 + leftS i r % m) r
      rw [puts2]; exact ⟨h1.trans p1, h2.trans p2⟩
  obtain ⟨l1, l2⟩ := hl (1 + r.2.2.1 % 3) (r.2.2.2.2.1.take 5) 0 (puts1 (1 + r.2.2.1 % 3).toNat 0 ([bA, bB, bC].take (1 + r.2.1 % 3).toNat, [bS, bUA, bUB].take (1 + r.2.2.1 % 3).toNat, []))
  have hL : okL (anyS r) := puts2_okL (by omega) _ _ (by rw [m2]; simp only [hN]; omega) (puts1_okL _ _ (by omega) (by simp only [hN]; omega) ⟨fun q hq => by simp at hq, List.nodup_nil⟩)
  have hsep := sepB_spec (take_sep (1 + r.2.1 % 3).toNat (1 + r.2.2.1 % 3).toNat (by omega) (by omega))
  have n1 : (anyS r).1 = [bA, bB, bC].take (1 + r.2.1 % 3).toNat := by rw [anyS, l1, m1]
  have n2 : (anyS r).2.1 = [bS, bUA, bUB].take (1 + r.2.2.1 % 3).toNat := by rw [anyS, l2, m2]
  refine ⟨⟨(anyS_ok r).1, (anyS_ok r).2.1⟩, by rw [n1, n2]; exact hsep.1, by rw [n1, n2]; exact hsep.2, hL.2, fun q hq => ?_⟩
  have := hL.1 q hq
  simp only [isS, nonS, Bool.or_eq_true, Bool.and_eq_true, decide_eq_true_eq]
  exact .inr this
def okN3B (g : Gr) : Bool := sepB g && (decide g.2.2.Nodup && g.2.2.all fun q => isS g q.1)
theorem grL_N : grL.all (fun g => okB g && okN3B g) = true := by kernel_rfl
theorem grS_N (k : Nat) (h : k < 27) : okN3 (grS k) := by
  have := List.all_eq_true.1 grL_N _ (getD_mem (x := ([], [], [])) (i := k) (l := grL) (by rw [grL_len]; exact h))
  simp only [Bool.and_eq_true, okN3B, decide_eq_true_eq, List.all_eq_true] at this
  obtain ⟨h1, h2, h3, h4⟩ := this
  obtain ⟨h5, h6⟩ := sepB_spec h2
  have h7 := okB_spec h1
  exact ⟨⟨h7.1, h7.2.1⟩, h5, h6, h3, h4⟩
theorem gramS_N (r : Raw) : okN3 (gramS r) := by
  have e1 := Int.emod_nonneg r.2.1 (show (17 : Int) ≠ 0 by omega)
  have e2 := Int.emod_lt_of_pos r.2.1 (show (0 : Int) < 17 by omega)
  have e3 := Int.emod_nonneg r.2.1 (show (10 : Int) ≠ 0 by omega)
  have e4 := Int.emod_lt_of_pos r.2.1 (show (0 : Int) < 10 by omega)
  unfold gramS
  split
  · exact grS_N _ (by omega)
  · split
    · exact grS_N _ (by omega)
    · exact anyS_N r
end Go.Proofs.Ytdmljeaigjfenaa.D

namespace Go.Proofs.Ytdmljeaigjfenaa.D
open Go Go.EV Go.TL Go.Proofs
set_option linter.unusedVariables false
set_option linter.unusedSimpArgs false
set_option maxRecDepth 100000
def validB (g : Gr) : Bool := (g.2.2.all fun q => q.2.all fun s => isS g s) && Nat.ble 1 g.2.1.length
theorem grL_V : grL.all validB = true := by kernel_rfl
theorem gramS_V (r : Raw) : validG (gramS r) ∧ 1 ≤ (gramS r).2.1.length := by
  have e1 := Int.emod_nonneg r.2.1 (show (17 : Int) ≠ 0 by omega)
  have e2 := Int.emod_lt_of_pos r.2.1 (show (0 : Int) < 17 by omega)
  have e3 := Int.emod_nonneg r.2.1 (show (10 : Int) ≠ 0 by omega)
  have e4 := Int.emod_lt_of_pos r.2.1 (show (0 : Int) < 10 by omega)
  have key : ∀ k, k < 27 → validG (grS k) ∧ 1 ≤ (grS k).2.1.length := fun k h => by
    have := List.all_eq_true.1 grL_V _ (getD_mem (x := ([], [], [])) (i := k) (l := grL) (by rw [grL_len]; exact h))
    simp only [validB, Bool.and_eq_true, List.all_eq_true] at this
    exact ⟨this.1, Nat.le_of_ble_eq_true this.2⟩
  unfold gramS
  split
  · exact key _ (by omega)
  · split
    · exact key _ (by omega)
    · exact ⟨(anyS_V r).1.2.2.2, (anyS_V r).2.1⟩
theorem treeS_sym (d : Nat) (g : Gr) (sym : Int) (l : List Int) : (treeS d g sym l).1.sym = sym := by
  cases d with
  | zero => rfl
  | succ d => rw [treeS]; split <;> rfl
theorem ofS_check {g : Gr} (hV : validG g) (hG : okG g) (hn : 1 ≤ g.2.1.length) (l : List Int) (deep : Int) : checkS g (ofS g l deep) (ofS g l deep).sym = true ∧ 100 ≤ (ofS g l deep).sym := by
  rw [ofS, if_neg (by omega)]
  have e1 := Int.emod_nonneg (IntKind.i64.wrap ((l.getD 0 0).tdiv 7)) (show (g.2.1.length : Int) ≠ 0 by omega)
  have e2 := Int.emod_lt_of_pos (IntKind.i64.wrap ((l.getD 0 0).tdiv 7)) (show (0 : Int) < (g.2.1.length : Int) by omega)
  generalize IntKind.i64.wrap ((l.getD 0 0).tdiv 7) % (g.2.1.length : Int) = q at *
  have key : ∀ s : Int, 100 ≤ s → s < 100 + (g.2.1.length : Int) → checkS g (treeS (deep % 6).toNat g s l).1 (treeS (deep % 6).toNat g s l).1.sym = true ∧ 100 ≤ (treeS (deep % 6).toNat g s l).1.sym := fun s h1 h2 => by
    rw [treeS_sym]
    refine ⟨treeS_check hV hG _ _ _ ?_, h1⟩
    simp only [isS, nonS, Bool.or_eq_true, Bool.and_eq_true, decide_eq_true_eq]
    exact .inr ⟨h1, h2⟩
  split
  · exact key _ (by omega) (by omega)
  · exact key _ (by omega) (by omega)
theorem toList_loop (s : ByteArray) : ∀ (n i : Nat) (r : List UInt8), n = s.size - i → ByteArray.toList.loop s i r = r.reverse ++ s.data.toList.drop i
  | 0, i, r, h => by
    rw [ByteArray.toList.loop, if_neg (by omega), List.drop_eq_nil_of_le (by rw [Array.length_toList]; show s.size ≤ i; omega), List.append_nil]
  | n + 1, i, r, h => by
    have hi : i < s.data.size := by show i < s.size; omega
    rw [ByteArray.toList.loop, if_pos (by omega), toList_loop s n (i + 1) _ (by omega), List.reverse_cons, List.append_assoc]
    congr 1
    have hd := List.drop_eq_getElem_cons (l := s.data.toList) (i := i) (by rw [Array.length_toList]; exact hi)
    rw [hd]
    simp only [List.singleton_append, List.cons.injEq, and_true]
    rw [Array.getElem_toList]
    show s.data[i]! = s.data[i]
    exact getElem!_pos s.data i hi
theorem toList_data (s : ByteArray) : s.toList = s.data.toList := by
  rw [ByteArray.toList, toList_loop s _ 0 [] rfl]; rfl
theorem toList_bs {a b : ByteArray} (h : a.toList = b.toList) : bs a = bs b := by
  rw [toList_data, toList_data] at h
  unfold bs; rw [h]
noncomputable def treeTexts  : Face := ⟨7, [.v RAW, .v (.sl (.int .i64)), .v (.sl (.int .i64)), .v (.int .i64), .v (.int .i64)], fun (r, l, m, deep, other) => none,
  [⟨false, [.v .bool], fun (r, l, m, deep, other) => true, fun (r, l, m, deep, other) => none⟩]⟩
end Go.Proofs.Ytdmljeaigjfenaa.D
