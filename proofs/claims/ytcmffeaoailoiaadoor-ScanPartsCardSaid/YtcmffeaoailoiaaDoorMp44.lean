/- Texts that the proof of a law rests on, put together: part 44. -/
import Derived.Test.YtcmffeaoailoiaaDoorMp43
import Derived.Shelf.Strings.Count
import Derived.Shelf.Strings.Search3
import Derived.Shelf.Strings.SlTrimAscii
import Derived.Test.YtcmffeaoailoiaaDoorProg
namespace Go.Proofs.YtcmffeaoailoiaaDoor.D
open Go Go.EV Go.Proofs
set_option linter.unusedVariables false
set_option linter.unusedSimpArgs false
set_option maxRecDepth 100000
def lays161_ren : Go.Shelf.Ren := ⟨fun | 161 => 48 | 231 => 27 | 227 => 29 | 233 => 30 | 235 => 32 | 228 => 41 | 197 => 42 | 151 => 43 | 260 => 49 | 152 => 50 | 137 => 56 | 119 => 57 | 224 => 54 | 225 => 53 | 217 => 52 | 266 => 58 | n => n, fun | 9 => 9 | 4 => 4 | 3 => 3 | 5 => 5 | 117 => 59 | 116 => 58 | 0 => 0 | 124 => 62 | 105 => 67 | 21 => 21 | 119 => 74 | 46 => 73 | 139 => 77 | 138 => 76 | n => n, fun | 3 => 1 | 4 => 2 | n => n⟩
theorem lays161 : Go.Proofs.Lays.n161 Tryd.prog lays161_ren where
  mixed := by kernel_rfl
  f119 := Tryd.func57.trans (congrArg some (by kernel_rfl))
  f137 := Tryd.func56.trans (congrArg some (by kernel_rfl))
  f151 := Tryd.func43.trans (congrArg some (by kernel_rfl))
  f152 := Tryd.func50.trans (congrArg some (by kernel_rfl))
  f161 := Tryd.func48.trans (congrArg some (by kernel_rfl))
  f197 := Tryd.func42.trans (congrArg some (by kernel_rfl))
  f217 := Tryd.func52.trans (congrArg some (by kernel_rfl))
  f224 := Tryd.func54.trans (congrArg some (by kernel_rfl))
  f225 := Tryd.func53.trans (congrArg some (by kernel_rfl))
  f227 := Tryd.func29.trans (congrArg some (by kernel_rfl))
  f228 := Tryd.func41.trans (congrArg some (by kernel_rfl))
  f231 := Tryd.func27.trans (congrArg some (by kernel_rfl))
  f233 := Tryd.func30.trans (congrArg some (by kernel_rfl))
  f235 := Tryd.func32.trans (congrArg some (by kernel_rfl))
  f260 := Tryd.func49.trans (congrArg some (by kernel_rfl))
  f266 := Tryd.func58.trans (congrArg some (by kernel_rfl))
  t0 := Tryd.underlying0
  a0 := Tryd.isAgg0
  z0 := Tryd.sizeOf0
  v0 := Tryd.zeroValue0
  t3 := Tryd.underlying3
  a3 := Tryd.isAgg3
  z3 := Tryd.sizeOf3
  v3 := Tryd.zeroValue3
  t4 := Tryd.underlying4
  a4 := Tryd.isAgg4
  z4 := Tryd.sizeOf4
  v4 := Tryd.zeroValue4
  t5 := Tryd.underlying5
  a5 := Tryd.isAgg5
  z5 := Tryd.sizeOf5
  v5 := Tryd.zeroValue5
  t9 := Tryd.underlying9
  a9 := Tryd.isAgg9
  z9 := Tryd.sizeOf9
  v9 := Tryd.zeroValue9
  t21 := Tryd.underlying21
  a21 := Tryd.isAgg21
  z21 := Tryd.sizeOf21
  v21 := Tryd.zeroValue21
  t46 := Tryd.underlying73
  a46 := Tryd.isAgg73
  z46 := Tryd.sizeOf73
  v46 := Tryd.zeroValue73
  t105 := Tryd.underlying67
  a105 := Tryd.isAgg67
  z105 := Tryd.sizeOf67
  v105 := Tryd.zeroValue67
  t116 := Tryd.underlying58
  a116 := Tryd.isAgg58
  z116 := Tryd.sizeOf58
  t117 := Tryd.underlying59
  a117 := Tryd.isAgg59
  z117 := Tryd.sizeOf59
  v117 := Tryd.zeroValue59
  t119 := Tryd.underlying74
  a119 := Tryd.isAgg74
  z119 := Tryd.sizeOf74
  t124 := Tryd.underlying62
  a124 := Tryd.isAgg62
  z124 := Tryd.sizeOf62
  v124 := Tryd.zeroValue62
  t138 := Tryd.underlying76
  a138 := Tryd.isAgg76
  z138 := Tryd.sizeOf76
  v138 := Tryd.zeroValue76
  t139 := Tryd.underlying77
  a139 := Tryd.isAgg77
  z139 := Tryd.sizeOf77
  v139 := Tryd.zeroValue77
  g3 := by kernel_rfl
  g4 := by kernel_rfl
def lays160_ren : Go.Shelf.Ren := ⟨fun | 160 => 19 | 232 => 28 | 231 => 27 | 227 => 29 | 234 => 31 | 233 => 30 | 236 => 33 | 235 => 32 | 228 => 41 | 271 => 44 | 151 => 43 | 197 => 42 | 120 => 51 | 152 => 50 | 260 => 49 | 137 => 56 | 119 => 57 | 224 => 54 | 225 => 53 | 217 => 52 | 266 => 58 | n => n, fun | 9 => 9 | 4 => 4 | 3 => 3 | 5 => 5 | 117 => 59 | 116 => 58 | 0 => 0 | 124 => 62 | 21 => 21 | 105 => 67 | 46 => 73 | 119 => 74 | 139 => 77 | 138 => 76 | n => n, fun | 3 => 1 | 4 => 2 | n => n⟩
theorem lays160 : Go.Proofs.Lays.n160 Tryd.prog lays160_ren where
  mixed := by kernel_rfl
  f119 := Tryd.func57.trans (congrArg some (by kernel_rfl))
  f120 := Tryd.func51.trans (congrArg some (by kernel_rfl))
  f137 := Tryd.func56.trans (congrArg some (by kernel_rfl))
  f151 := Tryd.func43.trans (congrArg some (by kernel_rfl))
  f152 := Tryd.func50.trans (congrArg some (by kernel_rfl))
  f160 := Tryd.func19.trans (congrArg some (by kernel_rfl))
  f197 := Tryd.func42.trans (congrArg some (by kernel_rfl))
  f217 := Tryd.func52.trans (congrArg some (by kernel_rfl))
  f224 := Tryd.func54.trans (congrArg some (by kernel_rfl))
  f225 := Tryd.func53.trans (congrArg some (by kernel_rfl))
  f227 := Tryd.func29.trans (congrArg some (by kernel_rfl))
  f228 := Tryd.func41.trans (congrArg some (by kernel_rfl))
  f231 := Tryd.func27.trans (congrArg some (by kernel_rfl))
  f232 := Tryd.func28.trans (congrArg some (by kernel_rfl))
  f233 := Tryd.func30.trans (congrArg some (by kernel_rfl))
  f234 := Tryd.func31.trans (congrArg some (by kernel_rfl))
  f235 := Tryd.func32.trans (congrArg some (by kernel_rfl))
  f236 := Tryd.func33.trans (congrArg some (by kernel_rfl))
  f260 := Tryd.func49.trans (congrArg some (by kernel_rfl))
  f266 := Tryd.func58.trans (congrArg some (by kernel_rfl))
  f271 := Tryd.func44.trans (congrArg some (by kernel_rfl))
  t0 := Tryd.underlying0
  a0 := Tryd.isAgg0
  z0 := Tryd.sizeOf0
  v0 := Tryd.zeroValue0
  t3 := Tryd.underlying3
  a3 := Tryd.isAgg3
  z3 := Tryd.sizeOf3
  v3 := Tryd.zeroValue3
  t4 := Tryd.underlying4
  a4 := Tryd.isAgg4
  z4 := Tryd.sizeOf4
  v4 := Tryd.zeroValue4
  t5 := Tryd.underlying5
  a5 := Tryd.isAgg5
  z5 := Tryd.sizeOf5
  v5 := Tryd.zeroValue5
  t9 := Tryd.underlying9
  a9 := Tryd.isAgg9
  z9 := Tryd.sizeOf9
  v9 := Tryd.zeroValue9
  t21 := Tryd.underlying21
  a21 := Tryd.isAgg21
  z21 := Tryd.sizeOf21
  v21 := Tryd.zeroValue21
  t46 := Tryd.underlying73
  a46 := Tryd.isAgg73
  z46 := Tryd.sizeOf73
  v46 := Tryd.zeroValue73
  t105 := Tryd.underlying67
  a105 := Tryd.isAgg67
  z105 := Tryd.sizeOf67
  v105 := Tryd.zeroValue67
  t116 := Tryd.underlying58
  a116 := Tryd.isAgg58
  z116 := Tryd.sizeOf58
  t117 := Tryd.underlying59
  a117 := Tryd.isAgg59
  z117 := Tryd.sizeOf59
  v117 := Tryd.zeroValue59
  t119 := Tryd.underlying74
  a119 := Tryd.isAgg74
  z119 := Tryd.sizeOf74
  t124 := Tryd.underlying62
  a124 := Tryd.isAgg62
  z124 := Tryd.sizeOf62
  v124 := Tryd.zeroValue62
  t138 := Tryd.underlying76
  a138 := Tryd.isAgg76
  z138 := Tryd.sizeOf76
  v138 := Tryd.zeroValue76
  t139 := Tryd.underlying77
  a139 := Tryd.isAgg77
  z139 := Tryd.sizeOf77
  v139 := Tryd.zeroValue77
  g3 := by kernel_rfl
  g4 := by kernel_rfl
def lays144_ren : Go.Shelf.Ren := ⟨fun | 144 => 20 | 143 => 34 | 219 => 45 | 217 => 52 | 225 => 53 | 224 => 54 | 267 => 55 | 266 => 58 | 314 => 59 | n => n, fun | 9 => 9 | 4 => 4 | 3 => 3 | 5 => 5 | 46 => 73 | 146 => 80 | 51 => 79 | n => n, fun | 1 => 0 | n => n⟩
theorem lays144 : Go.Proofs.Lays.n144 Tryd.prog lays144_ren where
  mixed := by kernel_rfl
  f143 := Tryd.func34.trans (congrArg some (by kernel_rfl))
  f144 := Tryd.func20.trans (congrArg some (by kernel_rfl))
  f217 := Tryd.func52.trans (congrArg some (by kernel_rfl))
  f219 := Tryd.func45.trans (congrArg some (by kernel_rfl))
  f224 := Tryd.func54.trans (congrArg some (by kernel_rfl))
  f225 := Tryd.func53.trans (congrArg some (by kernel_rfl))
  f266 := Tryd.func58.trans (congrArg some (by kernel_rfl))
  f267 := Tryd.func55.trans (congrArg some (by kernel_rfl))
  f314 := Tryd.func59.trans (congrArg some (by kernel_rfl))
  t3 := Tryd.underlying3
  a3 := Tryd.isAgg3
  z3 := Tryd.sizeOf3
  v3 := Tryd.zeroValue3
  t4 := Tryd.underlying4
  a4 := Tryd.isAgg4
  z4 := Tryd.sizeOf4
  v4 := Tryd.zeroValue4
  t5 := Tryd.underlying5
  a5 := Tryd.isAgg5
  z5 := Tryd.sizeOf5
  v5 := Tryd.zeroValue5
  t9 := Tryd.underlying9
  a9 := Tryd.isAgg9
  z9 := Tryd.sizeOf9
  v9 := Tryd.zeroValue9
  t46 := Tryd.underlying73
  a46 := Tryd.isAgg73
  z46 := Tryd.sizeOf73
  v46 := Tryd.zeroValue73
  t51 := Tryd.underlying79
  a51 := Tryd.isAgg79
  z51 := Tryd.sizeOf79
  v51 := Tryd.zeroValue79
  t146 := Tryd.underlying80
  a146 := Tryd.isAgg80
  z146 := Tryd.sizeOf80
  v146 := Tryd.zeroValue80
  g1 := by kernel_rfl
def lays138_ren : Go.Shelf.Ren := ⟨fun | 138 => 36 | 195 => 46 | 218 => 47 | 143 => 34 | 219 => 45 | 217 => 52 | 225 => 53 | 224 => 54 | 267 => 55 | 266 => 58 | 314 => 59 | n => n, fun | 9 => 9 | 3 => 3 | 4 => 4 | 5 => 5 | 0 => 0 | 46 => 73 | 146 => 80 | 51 => 79 | n => n, fun | 1 => 0 | n => n⟩
theorem lays138 : Go.Proofs.Lays.n138 Tryd.prog lays138_ren where
  mixed := by kernel_rfl
  f138 := Tryd.func36.trans (congrArg some (by kernel_rfl))
  f143 := Tryd.func34.trans (congrArg some (by kernel_rfl))
  f195 := Tryd.func46.trans (congrArg some (by kernel_rfl))
  f217 := Tryd.func52.trans (congrArg some (by kernel_rfl))
  f218 := Tryd.func47.trans (congrArg some (by kernel_rfl))
  f219 := Tryd.func45.trans (congrArg some (by kernel_rfl))
  f224 := Tryd.func54.trans (congrArg some (by kernel_rfl))
  f225 := Tryd.func53.trans (congrArg some (by kernel_rfl))
  f266 := Tryd.func58.trans (congrArg some (by kernel_rfl))
  f267 := Tryd.func55.trans (congrArg some (by kernel_rfl))
  f314 := Tryd.func59.trans (congrArg some (by kernel_rfl))
  t0 := Tryd.underlying0
  a0 := Tryd.isAgg0
  z0 := Tryd.sizeOf0
  v0 := Tryd.zeroValue0
  t3 := Tryd.underlying3
  a3 := Tryd.isAgg3
  z3 := Tryd.sizeOf3
  v3 := Tryd.zeroValue3
  t4 := Tryd.underlying4
  a4 := Tryd.isAgg4
  z4 := Tryd.sizeOf4
  v4 := Tryd.zeroValue4
  t5 := Tryd.underlying5
  a5 := Tryd.isAgg5
  z5 := Tryd.sizeOf5
  v5 := Tryd.zeroValue5
  t9 := Tryd.underlying9
  a9 := Tryd.isAgg9
  z9 := Tryd.sizeOf9
  v9 := Tryd.zeroValue9
  t46 := Tryd.underlying73
  a46 := Tryd.isAgg73
  z46 := Tryd.sizeOf73
  v46 := Tryd.zeroValue73
  t51 := Tryd.underlying79
  a51 := Tryd.isAgg79
  z51 := Tryd.sizeOf79
  v51 := Tryd.zeroValue79
  t146 := Tryd.underlying80
  a146 := Tryd.isAgg80
  z146 := Tryd.sizeOf80
  v146 := Tryd.zeroValue80
  g1 := by kernel_rfl
def lays219_ren : Go.Shelf.Ren := ⟨fun | 219 => 45 | 217 => 52 | 225 => 53 | 224 => 54 | 267 => 55 | 266 => 58 | 314 => 59 | n => n, fun | 9 => 9 | 3 => 3 | 4 => 4 | 5 => 5 | 46 => 73 | 146 => 80 | 51 => 79 | n => n, fun | 1 => 0 | n => n⟩
theorem lays219 : Go.Proofs.Lays.n219 Tryd.prog lays219_ren where
  mixed := by kernel_rfl
  f217 := Tryd.func52.trans (congrArg some (by kernel_rfl))
  f219 := Tryd.func45.trans (congrArg some (by kernel_rfl))
  f224 := Tryd.func54.trans (congrArg some (by kernel_rfl))
  f225 := Tryd.func53.trans (congrArg some (by kernel_rfl))
  f266 := Tryd.func58.trans (congrArg some (by kernel_rfl))
  f267 := Tryd.func55.trans (congrArg some (by kernel_rfl))
  f314 := Tryd.func59.trans (congrArg some (by kernel_rfl))
  t3 := Tryd.underlying3
  a3 := Tryd.isAgg3
  z3 := Tryd.sizeOf3
  v3 := Tryd.zeroValue3
  t4 := Tryd.underlying4
  a4 := Tryd.isAgg4
  z4 := Tryd.sizeOf4
  v4 := Tryd.zeroValue4
  t5 := Tryd.underlying5
  a5 := Tryd.isAgg5
  z5 := Tryd.sizeOf5
  v5 := Tryd.zeroValue5
  t9 := Tryd.underlying9
  a9 := Tryd.isAgg9
  z9 := Tryd.sizeOf9
  v9 := Tryd.zeroValue9
  t46 := Tryd.underlying73
  a46 := Tryd.isAgg73
  z46 := Tryd.sizeOf73
  v46 := Tryd.zeroValue73
  t51 := Tryd.underlying79
  a51 := Tryd.isAgg79
  z51 := Tryd.sizeOf79
  v51 := Tryd.zeroValue79
  t146 := Tryd.underlying80
  a146 := Tryd.isAgg80
  z146 := Tryd.sizeOf80
  v146 := Tryd.zeroValue80
  g1 := by kernel_rfl
theorem set161 : (Tryd.prog.info? (lays161_ren.t 116)).map (fun i => (i.zero, i.size)) = some (some (.agg (Array.replicate 256 (.bool false))), 256) := by kernel_rfl
theorem set160 : (Tryd.prog.info? (lays160_ren.t 116)).map (fun i => (i.zero, i.size)) = some (some (.agg (Array.replicate 256 (.bool false))), 256) := by kernel_rfl
def toB (l : List UInt8) : ByteArray := ⟨l.toArray⟩
theorem toB_data (s : ByteArray) : toB s.data.toList = s := by
  simp [toB]
theorem toB_list (l : List UInt8) : (toB l).data.toList = l := by simp [toB]
theorem toB_size (l : List UInt8) : (toB l).size = l.length := by simp [toB, ByteArray.size]
theorem size_list (s : ByteArray) : s.size = s.data.toList.length := (Array.length_toList (xs := s.data)).symm
theorem ext_toB (s : ByteArray) (a b : Nat) : s.extract a b = toB ((s.data.toList.take b).drop a) := by
  apply ByteArray.ext
  apply Array.toList_inj.1
  rw [toB_list]
  simp [ByteArray.data_extract, Array.toList_extract, List.extract, List.drop_take]
def spU (b : UInt8) : List UInt8 → List (List UInt8) × List UInt8
  | [] => ([], [])
  | c :: r => if c = b then ([] :: (spU b r).1, (spU b r).2) else match (spU b r).1 with
    | [] => ([], c :: (spU b r).2)
    | p :: t => ((c :: p) :: t, (spU b r).2)
theorem spU_cnt (b : UInt8) : ∀ l, (spU b l).1.length = Lib.countByte l b
  | [] => rfl
  | c :: r => by
    have ih := spU_cnt b r
    unfold Lib.countByte at *
    rw [spU, List.count_cons]
    by_cases h : c = b
    · rw [if_pos h, h]; simp [ih]
    · rw [if_neg h, if_neg (by simpa using h)]
      split
      · rename_i e; rw [e] at ih; simpa using ih
      · rename_i p t e; rw [e] at ih; simpa using ih
theorem ix_cases (b : UInt8) : ∀ l : List UInt8, (Lib.indexByte l b = -1 ∧ spU b l = ([], l) ∧ l.takeWhile (· != b) = l) ∨ ∃ k : Nat, Lib.indexByte l b = k ∧ k < l.length ∧ spU b l = (l.take k :: (spU b (l.drop (k + 1))).1, (spU b (l.drop (k + 1))).2) ∧ l.takeWhile (· != b) = l.take k
  | [] => .inl ⟨rfl, rfl, rfl⟩
  | c :: r => by
    rcases ix_cases b r with ⟨h1, h2, h3⟩ | ⟨k, h1, h2, h3, h4⟩
    · by_cases h : c = b
      · right
        exact ⟨0, by rw [Lib.indexByte, if_pos (by simpa using h)]; rfl, by simp, by rw [spU, if_pos h]; rfl, by rw [List.takeWhile, show (c != b) = false by simpa using h]; rfl⟩
      · left
        refine ⟨by rw [Lib.indexByte, if_neg (by simpa using h), h1]; rfl, by rw [spU, if_neg h, h2], by rw [List.takeWhile, show (c != b) = true by simpa using h, h3]⟩
    · right
      by_cases h : c = b
      · exact ⟨0, by rw [Lib.indexByte, if_pos (by simpa using h)]; rfl, by simp, by rw [spU, if_pos h]; rfl, by rw [List.takeWhile, show (c != b) = false by simpa using h]; rfl⟩
      · refine ⟨k + 1, by rw [Lib.indexByte, if_neg (by simpa using h), h1, if_neg (by simp)]; rfl, by simp only [List.length_cons]; omega, ?_, by rw [List.takeWhile, show (c != b) = true by simpa using h, h4]; rfl⟩
        rw [spU, if_neg h, h3]; rfl
def idxB (s c : ByteArray) : Int := Lib.indexByte s.data.toList (c.get! 0)
def cntS (s c : ByteArray) : Int := Lib.countByte s.data.toList (c.get! 0)
def initP (s c : ByteArray) : List ByteArray := (spU (c.get! 0) s.data.toList).1.map toB
def lastP (s c : ByteArray) : ByteArray := toB (spU (c.get! 0) s.data.toList).2
def piecesP (s c : ByteArray) : List ByteArray := initP s c ++ [lastP s c]
def cutS (s c : ByteArray) : ByteArray := toB (s.data.toList.takeWhile (· != c.get! 0))
def restS (s c : ByteArray) : ByteArray := s.extract ((idxB s c).toNat + 1) s.size
theorem cntS_len (s c : ByteArray) : cntS s c = ((initP s c).length : Int) := by
  rw [cntS, initP, List.length_map, spU_cnt]
theorem idx_none {s c : ByteArray} (h : idxB s c < 0) : initP s c = [] ∧ lastP s c = s ∧ cutS s c = s ∧ cntS s c = 0 := by
  rcases ix_cases (c.get! 0) s.data.toList with ⟨h1, h2, h3⟩ | ⟨k, h1, h2, h3, h4⟩
  · refine ⟨by rw [initP, h2]; rfl, by rw [lastP, h2, toB_data], by rw [cutS, h3, toB_data], by rw [cntS_len, initP, h2]; rfl⟩
  · rw [idxB, h1] at h; omega
theorem idx_some {s c : ByteArray} (h : 0 ≤ idxB s c) : idxB s c < (s.size : Int) ∧ initP s c = s.extract 0 (idxB s c).toNat :: initP (restS s c) c ∧ lastP s c = lastP (restS s c) c ∧ cutS s c = s.extract 0 (idxB s c).toNat ∧ cntS s c = 1 + cntS (restS s c) c ∧ (restS s c).size + (idxB s c).toNat + 1 = s.size := by
  rcases ix_cases (c.get! 0) s.data.toList with ⟨h1, h2, h3⟩ | ⟨k, h1, h2, h3, h4⟩
  · rw [idxB, h1] at h; exact absurd h (by decide)
  · have e : idxB s c = k := h1
    have er : restS s c = toB (s.data.toList.drop (k + 1)) := by
      rw [restS, e, ext_toB, size_list, List.take_length]; rfl
    have e0 : s.extract 0 k = toB (s.data.toList.take k) := by rw [ext_toB]; rfl
    have i1 : initP s c = s.extract 0 k :: initP (restS s c) c := by
      rw [er, initP, h3, initP, toB_list, e0]; rfl
    rw [e]
    refine ⟨by rw [size_list]; omega, i1, ?_, ?_, ?_, ?_⟩
    · rw [er, lastP, h3, lastP, toB_list]
    · rw [show ((k : Int)).toNat = k from rfl, e0, cutS, h4]
    · rw [cntS_len, cntS_len, i1, List.length_cons]; omega
    · rw [er, toB_size, List.length_drop, size_list]; show _ + k + 1 = _; omega
theorem toList_data (s : ByteArray) : s.toList = s.data.toList := Go.Lib.toList_data s
def asciiS (c : ByteArray) : Bool := c.data.toList.all fun b => decide (b.toNat < 128)
def triml (s c : ByteArray) : ByteArray := ⟨(Lib.trimLeftS s.data.toList c.data.toList).toArray⟩
def trim (s c : ByteArray) : ByteArray := ⟨(Lib.trimS s.data.toList c.data.toList).toArray⟩
theorem one_byte {c : ByteArray} (h : c.size = 1) : c = ⟨#[c.get! 0]⟩ := by
  obtain ⟨⟨l⟩⟩ := c
  match l, h with
  | [x], _ => rfl
noncomputable def trimlA : Face := ⟨48, [.v .str, .v .str], fun (s, c) => some (c.size < 4294967281 ∧ asciiS c = true), [⟨false, [.v .str], fun (s, c) => triml s c, fun _ => none⟩]⟩
noncomputable def trimA : Face := ⟨19, [.v .str, .v .str], fun (s, c) => some (s.size ≤ 9223372036854775807 ∧ c.size < 4294967281 ∧ asciiS c = true), [⟨false, [.v .str], fun (s, c) => trim s c, fun _ => none⟩]⟩
noncomputable def hasA : Face := ⟨20, [.v .str, .v .str], fun (s, c) => some (c.size = 1), [⟨false, [.v .bool], fun (s, c) => decide (0 ≤ idxB s c), fun _ => none⟩]⟩
noncomputable def cntA : Face := ⟨36, [.v .str, .v .str], fun (s, c) => some (c.size = 1), [⟨false, [.v (.int .i64)], fun (s, c) => cntS s c, fun _ => none⟩]⟩
noncomputable def idxA : Face := ⟨45, [.v .str, .v .str], fun (s, c) => some (c.size = 1), [⟨false, [.v (.int .i64)], fun (s, c) => idxB s c, fun _ => none⟩]⟩
theorem two_args {C : Cx} {s c : ByteArray} {vs : List Value} (h : Dens C [.sym (.str s), .sym (.str c)] vs) : vs = [.string s, .string c] := by
  obtain ⟨u, us, rfl, h1, h2⟩ := h.cons_inv
  obtain ⟨u', us', rfl, h3, h4⟩ := h2.cons_inv
  rw [h4.nil_inv]
  cases sym_inv h1
  cases sym_inv h3
  rfl
theorem trimlA.fn : FnOk Tryd.prog trimlA := fn_lib (ps := [.v .str, .v .str]) (t := .str) (val := fun (s, c) => triml s c) (fun _ => rfl) rfl fun ⟨s, c⟩ C vs w hp hD => by
  obtain ⟨h1, h2⟩ : c.size < 4294967281 ∧ asciiS c = true := hp
  rw [two_args hD]
  exact (Any.strings_TrimLeft_laid lays161 set161 s c w h1 (ascii_of_all h2)).mono fun e w' ⟨h, hB⟩ => ⟨_, h, hB, fun C' => .sym (.str _)⟩
theorem trimA.fn : FnOk Tryd.prog trimA := fn_lib (ps := [.v .str, .v .str]) (t := .str) (val := fun (s, c) => trim s c) (fun _ => rfl) rfl fun ⟨s, c⟩ C vs w hp hD => by
  obtain ⟨h0, h1, h2⟩ : s.size ≤ 9223372036854775807 ∧ c.size < 4294967281 ∧ asciiS c = true := hp
  rw [two_args hD]
  exact (Any.strings_Trim_laid lays160 set160 s c w h0 h1 (ascii_of_all h2)).mono fun e w' ⟨h, hB⟩ => ⟨_, h, hB, fun C' => .sym (.str _)⟩
theorem hasA.fn : FnOk Tryd.prog hasA := fn_lib (ps := [.v .str, .v .str]) (t := .bool) (val := fun (s, c) => decide (0 ≤ idxB s c)) (fun _ => rfl) rfl fun ⟨s, c⟩ C vs w hp hD => by
  have h1 : c.size = 1 := hp
  rw [two_args hD, one_byte h1]
  exact (Any.strings_Contains_one lays144 s (c.get! 0) w).mono fun e w' ⟨h, hB⟩ => ⟨_, h, hB ▸ Go.RowKit.Below.refl _ _, fun C' => .sym (.bool _)⟩
theorem cntA.fn : FnOk Tryd.prog cntA := fn_lib (ps := [.v .str, .v .str]) (t := .int .i64) (val := fun (s, c) => cntS s c) (fun _ => rfl) rfl fun ⟨s, c⟩ C vs w hp hD => by
  have h1 : c.size = 1 := hp
  rw [two_args hD, one_byte h1]
  exact (Any.strings_Count_one lays138 s (c.get! 0) w).mono fun e w' ⟨h, hB⟩ => ⟨_, h, hB ▸ Go.RowKit.Below.refl _ _, fun C' => .sym (.int _ _)⟩
theorem idxA.fn : FnOk Tryd.prog idxA := fn_lib (ps := [.v .str, .v .str]) (t := .int .i64) (val := fun (s, c) => idxB s c) (fun _ => rfl) rfl fun ⟨s, c⟩ C vs w hp hD => by
  have h1 : c.size = 1 := hp
  rw [two_args hD, one_byte h1]
  exact (Any.stringslite_Index_one lays219 s (c.get! 0) w).mono fun e w' ⟨h, hB⟩ => ⟨_, h, hB ▸ Go.RowKit.Below.refl _ _, fun C' => .sym (.int _ _)⟩
def sufS (s p : ByteArray) : Bool := decide (p.size ≤ s.size) && ((s.extract (s.size - p.size) s.size).toList == p.toList)
noncomputable def hsuf  : Face := ⟨37, [.v .str, .v .str], fun (s, p) => some (s.size ≤ 4000000 ∧ p.size ≤ 4000000),
  [⟨false, [.v .bool], fun (s, p) => sufS s p, fun (s, p) => none⟩]⟩
noncomputable def hsuf.g  (s : ByteArray) (p : ByteArray) : Prop := GoodFA Tryd.prog (cfOf []) [] 1000 hsuf (s, p)
noncomputable def hsuf.T (s : ByteArray) (p : ByteArray) : Prop := ((True ∧ decide ((↑s.size : Int) ≥ (↑p.size : Int)) = true) ∧ (0 : Int) ≤ IntKind.i64.wrap ((↑s.size : Int) - (↑p.size : Int)) ∧ IntKind.i64.wrap ((↑s.size : Int) - (↑p.size : Int)) ≤ (↑s.size : Int) ∧ (↑s.size : Int) ≤ (↑s.size : Int) →
  True ∧ ((s.extract (IntKind.i64.wrap ((↑s.size : Int) - (↑p.size : Int))).toNat (↑s.size : Int).toNat).toList == p.toList) = sufS s p) ∧ ((True ∧ decide ((↑s.size : Int) ≥ (↑p.size : Int)) = true) ∧ ¬((0 : Int) ≤ IntKind.i64.wrap ((↑s.size : Int) - (↑p.size : Int)) ∧ IntKind.i64.wrap ((↑s.size : Int) - (↑p.size : Int)) ≤ (↑s.size : Int) ∧ (↑s.size : Int) ≤ (↑s.size : Int)) → False) ∧ (True ∧ decide ((↑s.size : Int) ≥ (↑p.size : Int)) = false → True ∧ false = sufS s p) ∧ (True)
theorem hsuf.eq  (s : ByteArray) (p : ByteArray) : hsuf.g  s p = hsuf.T  s p := by kernel_rfl
theorem hsuf.ok  (s : ByteArray) (p : ByteArray) (hx : s.size ≤ 4000000 ∧ p.size ≤ 4000000) : hsuf.T  s p := by
  obtain ⟨h1, h2⟩ := hx
  rw [hsuf.T, sufS]
  rw [wrapI64 (x := (s.size : Int) - p.size) (by omega) (by omega)]
  ((repeat' (first | exact trivial | apply And.intro)) <;> (intro hw; (try (simp only [true_and, and_true, decide_eq_true_eq, decide_eq_false_iff_not, beq_iff_eq, bne_iff_ne, beq_eq_false_iff_ne, bne_eq_false_iff_eq, ne_eq, Bool.not_eq_true, Bool.not_eq_false, not_true_eq_false, not_false_eq_true, Bool.not_eq_eq_eq_not, Bool.not_true, Bool.not_false, forall_const, imp_self, Bool.true_eq_false, Bool.false_eq_true, reduceCtorEq] at hw)); (try first | (exfalso; omega) | exact ⟨trivial, rfl⟩ | exact (hw hx).elim | exact (hw.2 hx).elim)))
  all_goals first
    | (refine ⟨trivial, ?_⟩; rw [decide_eq_true (show p.size ≤ s.size by omega), Bool.true_and, show ((s.size : Int) - p.size).toNat = s.size - p.size by omega]; rfl)
    | (refine ⟨trivial, ?_⟩; rw [decide_eq_false (show ¬ p.size ≤ s.size by omega)]; rfl)
    | trace_state
theorem hsuf.fn   : FnOk Tryd.prog hsuf := fn_evalH (l := []) (lf := 1000) (fun _ => cfOf_ok (fns_nil _)) _ (lps_nil _ _) (by kernel_rfl) (fun ⟨s, p⟩ hx => Hid.of (hsuf.eq  s p) (hsuf.ok  s p hx))
noncomputable def tsuf  : Face := ⟨24, [.v .str, .v .str], fun (s, p) => some (s.size ≤ 4000000 ∧ p.size ≤ 4000000),
  [⟨false, [.v .str], fun (s, p) => if sufS s p = true then s.extract 0 (s.size - p.size) else s, fun (s, p) => none⟩]⟩
noncomputable def tsuf.g  (s : ByteArray) (p : ByteArray) : Prop := GoodFA Tryd.prog (cfOf [hsuf]) [] 1000 tsuf (s, p)
noncomputable def tsuf.T (s : ByteArray) (p : ByteArray) : Prop := (True ∧ ¬(s.size ≤ (4000000 : Nat) ∧ p.size ≤ (4000000 : Nat)) → False) ∧ (((True ∧ s.size ≤ (4000000 : Nat) ∧ p.size ≤ (4000000 : Nat)) ∧ sufS s p = true) ∧ (0 : Int) ≤ (0 : Int) ∧ (0 : Int) ≤ IntKind.i64.wrap ((↑s.size : Int) - (↑p.size : Int)) ∧ IntKind.i64.wrap ((↑s.size : Int) - (↑p.size : Int)) ≤ (↑s.size : Int) →
  True ∧ s.extract (Int.toNat (0 : Int)) (IntKind.i64.wrap ((↑s.size : Int) - (↑p.size : Int))).toNat = if sufS s p = true then s.extract (0 : Nat) (s.size - p.size) else s) ∧ (((True ∧ s.size ≤ (4000000 : Nat) ∧ p.size ≤ (4000000 : Nat)) ∧ sufS s p = true) ∧ ¬((0 : Int) ≤ (0 : Int) ∧ (0 : Int) ≤ IntKind.i64.wrap ((↑s.size : Int) - (↑p.size : Int)) ∧ IntKind.i64.wrap ((↑s.size : Int) - (↑p.size : Int)) ≤ (↑s.size : Int)) →
  False) ∧ ((True ∧ s.size ≤ (4000000 : Nat) ∧ p.size ≤ (4000000 : Nat)) ∧ sufS s p = false → True ∧ s = if sufS s p = true then s.extract (0 : Nat) (s.size - p.size) else s) ∧ (True)
theorem tsuf.eq  (s : ByteArray) (p : ByteArray) : tsuf.g  s p = tsuf.T  s p := by kernel_rfl
theorem tsuf.ok  (s : ByteArray) (p : ByteArray) (hx : s.size ≤ 4000000 ∧ p.size ≤ 4000000) : tsuf.T  s p := by
  obtain ⟨h1, h2⟩ := hx
  rw [tsuf.T]
  rw [wrapI64 (x := (s.size : Int) - p.size) (by omega) (by omega)]
  have hle : sufS s p = true → p.size ≤ s.size := fun h => by
    rw [sufS, Bool.and_eq_true, decide_eq_true_eq] at h; exact h.1
  ((repeat' (first | exact trivial | apply And.intro)) <;> (intro hw; (try (simp only [true_and, and_true, decide_eq_true_eq, decide_eq_false_iff_not, beq_iff_eq, bne_iff_ne, beq_eq_false_iff_ne, bne_eq_false_iff_eq, ne_eq, Bool.not_eq_true, Bool.not_eq_false, not_true_eq_false, not_false_eq_true, Bool.not_eq_eq_eq_not, Bool.not_true, Bool.not_false, forall_const, imp_self, Bool.true_eq_false, Bool.false_eq_true, reduceCtorEq] at hw)); (try first | (exfalso; omega) | exact ⟨trivial, rfl⟩ | exact (hw hx).elim | exact (hw.2 hx).elim)))
  all_goals first
    | (exfalso; have := hle hw.1.2; omega)
    | (exfalso; omega)
    | (refine ⟨trivial, ?_⟩; rw [if_pos hw.1.2, show ((s.size : Int) - p.size).toNat = s.size - p.size by omega]; rfl)
    | (refine ⟨trivial, ?_⟩; rw [if_neg (by rw [hw.2]; exact Bool.false_ne_true)])
    | trace_state
theorem tsuf.fn   : FnOk Tryd.prog tsuf := fn_evalH (l := []) (lf := 1000) (fun _ => cfOf_ok (fns_cons hsuf.fn (fns_nil _))) _ (lps_nil _ _) (by kernel_rfl) (fun ⟨s, p⟩ hx => Hid.of (tsuf.eq  s p) (tsuf.ok  s p hx))
noncomputable def tsuf2  : Face := ⟨17, [.v .str, .v .str], fun (s, p) => some (s.size ≤ 4000000 ∧ p.size ≤ 4000000),
  [⟨false, [.v .str], fun (s, p) => if sufS s p = true then s.extract 0 (s.size - p.size) else s, fun (s, p) => none⟩]⟩
noncomputable def tsuf2.g  (s : ByteArray) (p : ByteArray) : Prop := GoodFA Tryd.prog (cfOf [tsuf]) [] 1000 tsuf2 (s, p)
noncomputable def tsuf2.T (s : ByteArray) (p : ByteArray) : Prop := (True ∧ ¬(s.size ≤ (4000000 : Nat) ∧ p.size ≤ (4000000 : Nat)) → False) ∧ (True ∧ s.size ≤ (4000000 : Nat) ∧ p.size ≤ (4000000 : Nat) → True ∧ (if sufS s p = true then s.extract (0 : Nat) (s.size - p.size) else s) = if sufS s p = true then s.extract (0 : Nat) (s.size - p.size) else s) ∧ (True)
theorem tsuf2.eq  (s : ByteArray) (p : ByteArray) : tsuf2.g  s p = tsuf2.T  s p := by kernel_rfl
theorem tsuf2.ok  (s : ByteArray) (p : ByteArray) (hx : s.size ≤ 4000000 ∧ p.size ≤ 4000000) : tsuf2.T  s p := by
  obtain ⟨h1, h2⟩ := hx
  rw [tsuf2.T]
  ((repeat' (first | exact trivial | apply And.intro)) <;> (intro hw; (try (simp only [true_and, and_true, decide_eq_true_eq, decide_eq_false_iff_not, beq_iff_eq, bne_iff_ne, beq_eq_false_iff_ne, bne_eq_false_iff_eq, ne_eq, Bool.not_eq_true, Bool.not_eq_false, not_true_eq_false, not_false_eq_true, Bool.not_eq_eq_eq_not, Bool.not_true, Bool.not_false, forall_const, imp_self, Bool.true_eq_false, Bool.false_eq_true, reduceCtorEq] at hw)); (try first | (exfalso; omega) | exact ⟨trivial, rfl⟩ | exact (hw hx).elim | exact (hw.2 hx).elim)))
  all_goals first
    | exact ⟨trivial, trivial⟩
    | trace_state
theorem tsuf2.fn   : FnOk Tryd.prog tsuf2 := fn_evalH (l := []) (lf := 1000) (fun _ => cfOf_ok (fns_cons tsuf.fn (fns_nil _))) _ (lps_nil _ _) (by kernel_rfl) (fun ⟨s, p⟩ hx => Hid.of (tsuf2.eq  s p) (tsuf2.ok  s p hx))
noncomputable def cutF  : Face := ⟨38, [.v .str, .v .str], fun (s, c) => some (c.size = 1 ∧ s.size ≤ 4000000),
  [⟨false, [.v .str, .v .str, .v .bool], fun (s, c) => (cutS s c, restS s c, true), fun (s, c) => some (0 ≤ idxB s c)⟩,
   ⟨false, [.v .str, .v .str, .v .bool], fun (s, c) => (cutS s c, ⟨#[]⟩, false), fun (s, c) => some (idxB s c < 0)⟩]⟩
noncomputable def cutF.g  (s : ByteArray) (c : ByteArray) : Prop := GoodFA Tryd.prog (cfOf [idxA]) [] 1000 cutF (s, c)
noncomputable def cutF.q0 (s : ByteArray) (c : ByteArray) : Prop := ((True ∧ c.size = (1 : Nat)) ∧ decide (idxB s c ≥ (0 : Int)) = true) ∧ (0 : Int) ≤ (0 : Int) ∧ (0 : Int) ≤ idxB s c ∧ idxB s c ≤ (↑s.size : Int)
noncomputable def cutF.T (s : ByteArray) (c : ByteArray) : Prop := (True ∧ ¬c.size = (1 : Nat) → False) ∧ (((True ∧ c.size = (1 : Nat)) ∧ decide (idxB s c ≥ (0 : Int)) = true) ∧ ¬((0 : Int) ≤ (0 : Int) ∧ (0 : Int) ≤ idxB s c ∧ idxB s c ≤ (↑s.size : Int)) → False) ∧ ((cutF.q0 s c) ∧ ¬((0 : Int) ≤ IntKind.i64.wrap (idxB s c + (↑c.size : Int)) ∧ IntKind.i64.wrap (idxB s c + (↑c.size : Int)) ≤ (↑s.size : Int) ∧ (↑s.size : Int) ≤ (↑s.size : Int)) → False) ∧ ((cutF.q0 s c) ∧ (0 : Int) ≤ IntKind.i64.wrap (idxB s c + (↑c.size : Int)) ∧ IntKind.i64.wrap (idxB s c + (↑c.size : Int)) ≤ (↑s.size : Int) ∧ (↑s.size : Int) ≤ (↑s.size : Int) → (0 : Int) ≤ idxB s c ∧ (s.extract (Int.toNat (0 : Int)) (idxB s c).toNat, s.extract (IntKind.i64.wrap (idxB s c + (↑c.size : Int))).toNat (↑s.size : Int).toNat, true) = (cutS s c, restS s c, true) ∨ idxB s c < (0 : Int) ∧ (s.extract (Int.toNat (0 : Int)) (idxB s c).toNat, s.extract (IntKind.i64.wrap (idxB s c + (↑c.size : Int))).toNat (↑s.size : Int).toNat, true) = (cutS s c, ByteArray.mk #[], false)) ∧ ((True ∧ c.size = (1 : Nat)) ∧ decide (idxB s c ≥ (0 : Int)) = false → (0 : Int) ≤ idxB s c ∧ (s, ByteArray.mk #[], false) = (cutS s c, restS s c, true) ∨ idxB s c < (0 : Int) ∧ (s, ByteArray.mk #[], false) = (cutS s c, ByteArray.mk #[], false)) ∧ (True)
theorem cutF.eq  (s : ByteArray) (c : ByteArray) : cutF.g  s c = cutF.T  s c := by kernel_rfl
theorem cutF.ok  (s : ByteArray) (c : ByteArray) (hx : c.size = 1 ∧ s.size ≤ 4000000) : cutF.T  s c := by
  obtain ⟨h1, h2⟩ := hx
  delta cutF.T cutF.q0
  rw [h1]
  by_cases hi : 0 ≤ idxB s c
  · obtain ⟨i1, i2, i3, i4, i5, i6⟩ := idx_some hi
    rw [wrapI64 (x := idxB s c + ((1 : Nat) : Int)) (by omega) (by omega)]
    ((repeat' (first | exact trivial | apply And.intro)) <;> (intro hw; (try (simp only [true_and, and_true, decide_eq_true_eq, decide_eq_false_iff_not, beq_iff_eq, bne_iff_ne, beq_eq_false_iff_ne, bne_eq_false_iff_eq, ne_eq, Bool.not_eq_true, Bool.not_eq_false, not_true_eq_false, not_false_eq_true, Bool.not_eq_eq_eq_not, Bool.not_true, Bool.not_false, forall_const, imp_self, Bool.true_eq_false, Bool.false_eq_true, reduceCtorEq] at hw)); (try first | (exfalso; omega) | exact ⟨trivial, rfl⟩ | exact (hw hx).elim | exact (hw.2 hx).elim)))
    all_goals first
      | (exfalso; omega)
      | exact .inl ⟨hi, by rw [i4, restS, show (idxB s c + ((1 : Nat) : Int)).toNat = (idxB s c).toNat + 1 by omega]; rfl⟩
      | trace_state
  · obtain ⟨i1, i2, i3, i4⟩ := idx_none (s := s) (c := c) (by omega)
    ((repeat' (first | exact trivial | apply And.intro)) <;> (intro hw; (try (simp only [true_and, and_true, decide_eq_true_eq, decide_eq_false_iff_not, beq_iff_eq, bne_iff_ne, beq_eq_false_iff_ne, bne_eq_false_iff_eq, ne_eq, Bool.not_eq_true, Bool.not_eq_false, not_true_eq_false, not_false_eq_true, Bool.not_eq_eq_eq_not, Bool.not_true, Bool.not_false, forall_const, imp_self, Bool.true_eq_false, Bool.false_eq_true, reduceCtorEq] at hw)); (try first | (exfalso; omega) | exact ⟨trivial, rfl⟩ | exact (hw hx).elim | exact (hw.2 hx).elim)))
    all_goals first
      | (exfalso; omega)
      | exact .inr ⟨by omega, by rw [i3]⟩
      | trace_state
theorem cutF.fn   : FnOk Tryd.prog cutF := fn_evalH (l := []) (lf := 1000) (fun _ => cfOf_ok (fns_cons idxA.fn (fns_nil _))) _ (lps_nil _ _) (by kernel_rfl) (fun ⟨s, c⟩ hx => Hid.of (cutF.eq  s c) (cutF.ok  s c hx))
noncomputable def cutF2  : Face := ⟨25, [.v .str, .v .str], fun (s, c) => some (c.size = 1 ∧ s.size ≤ 4000000),
  [⟨false, [.v .str, .v .str, .v .bool], fun (s, c) => (cutS s c, restS s c, true), fun (s, c) => some (0 ≤ idxB s c)⟩,
   ⟨false, [.v .str, .v .str, .v .bool], fun (s, c) => (cutS s c, ⟨#[]⟩, false), fun (s, c) => some (idxB s c < 0)⟩]⟩
noncomputable def cutF2.g  (s : ByteArray) (c : ByteArray) : Prop := GoodFA Tryd.prog (cfOf [cutF]) [] 1000 cutF2 (s, c)
noncomputable def cutF2.T (s : ByteArray) (c : ByteArray) : Prop := (True ∧ ¬(c.size = (1 : Nat) ∧ s.size ≤ (4000000 : Nat)) → False) ∧ ((True ∧ c.size = (1 : Nat) ∧ s.size ≤ (4000000 : Nat)) ∧ (0 : Int) ≤ idxB s c →
  (0 : Int) ≤ idxB s c ∧ (cutS s c, restS s c, true) = (cutS s c, restS s c, true) ∨ idxB s c < (0 : Int) ∧ (cutS s c, restS s c, true) = (cutS s c, ByteArray.mk #[], false)) ∧ ((True ∧ c.size = (1 : Nat) ∧ s.size ≤ (4000000 : Nat)) ∧ idxB s c < (0 : Int) →
  (0 : Int) ≤ idxB s c ∧ (cutS s c, ByteArray.mk #[], false) = (cutS s c, restS s c, true) ∨ idxB s c < (0 : Int) ∧ (cutS s c, ByteArray.mk #[], false) = (cutS s c, ByteArray.mk #[], false)) ∧ (True)
theorem cutF2.eq  (s : ByteArray) (c : ByteArray) : cutF2.g  s c = cutF2.T  s c := by kernel_rfl
theorem cutF2.ok  (s : ByteArray) (c : ByteArray) (hx : c.size = 1 ∧ s.size ≤ 4000000) : cutF2.T  s c := by
  obtain ⟨h1, h2⟩ := hx
  rw [cutF2.T, h1]
  ((repeat' (first | exact trivial | apply And.intro)) <;> (intro hw; (try (simp only [true_and, and_true, decide_eq_true_eq, decide_eq_false_iff_not, beq_iff_eq, bne_iff_ne, beq_eq_false_iff_ne, bne_eq_false_iff_eq, ne_eq, Bool.not_eq_true, Bool.not_eq_false, not_true_eq_false, not_false_eq_true, Bool.not_eq_eq_eq_not, Bool.not_true, Bool.not_false, forall_const, imp_self, Bool.true_eq_false, Bool.false_eq_true, reduceCtorEq] at hw)); (try first | (exfalso; omega) | exact ⟨trivial, rfl⟩ | exact (hw hx).elim | exact (hw.2 hx).elim)))
  all_goals first
    | (exfalso; omega)
    | exact .inl ⟨hw.2, rfl⟩
    | exact .inr ⟨hw.2, rfl⟩
    | trace_state
theorem cutF2.fn   : FnOk Tryd.prog cutF2 := fn_evalH (l := []) (lf := 1000) (fun _ => cfOf_ok (fns_cons cutF.fn (fns_nil _))) _ (lps_nil _ _) (by kernel_rfl) (fun ⟨s, c⟩ hx => Hid.of (cutF2.eq  s c) (cutF2.ok  s c hx))
noncomputable def idxA2  : Face := ⟨34, [.v .str, .v .str], fun (s, c) => some (c.size = 1),
  [⟨false, [.v (.int .i64)], fun (s, c) => idxB s c, fun (s, c) => none⟩]⟩
noncomputable def idxA2.g  (s : ByteArray) (c : ByteArray) : Prop := GoodFA Tryd.prog (cfOf [idxA]) [] 1000 idxA2 (s, c)
noncomputable def idxA2.T (s : ByteArray) (c : ByteArray) : Prop := (True ∧ ¬c.size = (1 : Nat) → False) ∧ (True ∧ c.size = (1 : Nat) → True ∧ idxB s c = idxB s c) ∧ (True)
theorem idxA2.eq  (s : ByteArray) (c : ByteArray) : idxA2.g  s c = idxA2.T  s c := by kernel_rfl
theorem idxA2.ok  (s : ByteArray) (c : ByteArray) (hx : c.size = 1) : idxA2.T  s c := by
  rw [idxA2.T]
  ((repeat' (first | exact trivial | apply And.intro)) <;> (intro hw; (try (simp only [true_and, and_true, decide_eq_true_eq, decide_eq_false_iff_not, beq_iff_eq, bne_iff_ne, beq_eq_false_iff_ne, bne_eq_false_iff_eq, ne_eq, Bool.not_eq_true, Bool.not_eq_false, not_true_eq_false, not_false_eq_true, Bool.not_eq_eq_eq_not, Bool.not_true, Bool.not_false, forall_const, imp_self, Bool.true_eq_false, Bool.false_eq_true, reduceCtorEq] at hw)); (try first | (exfalso; omega) | exact ⟨trivial, rfl⟩ | exact (hw hx).elim | exact (hw.2 hx).elim)))
  all_goals first
    | exact ⟨trivial, trivial⟩
    | trace_state
theorem idxA2.fn   : FnOk Tryd.prog idxA2 := fn_evalH (l := []) (lf := 1000) (fun _ => cfOf_ok (fns_cons idxA.fn (fns_nil _))) _ (lps_nil _ _) (by kernel_rfl) (fun ⟨s, c⟩ hx => Hid.of (idxA2.eq  s c) (idxA2.ok  s c hx))
noncomputable def gsL  : LFace := ⟨[0, 1, 2, 3, 9, 10], [.v .str, .v .str, .v (.int .i64), .v (.int .i64), .row .str 9, .v (.int .i64)], fun (s, c, sv, n, a, i) => some (c.size = 1 ∧ sv = 0 ∧ n = i + cntS s c ∧ 0 ≤ i ∧ (a.length : Int) = n + 1 ∧ s.size ≤ 4000000 ∧ a.length ≤ 4000001),
  [⟨.normal, [0, 9, 10], [.v .str, .row .str 9, .v (.int .i64)], fun (s, c, sv, n, a, i) => (lastP s c, a.take i.toNat ++ initP s c ++ a.drop n.toNat, n), fun (s, c, sv, n, a, i) => none⟩]⟩
noncomputable def gsL.mu  : dens gsL.sh → Nat := fun (s, c, sv, n, a, i) => (n - i).toNat
noncomputable def gsL.g  (s : ByteArray) (c : ByteArray) (sv : Int) (n : Int) (a : List ByteArray) (i : Int) : Prop := GoodLA Tryd.prog (cfOf [idxA2]) [] 1000 23 0 gsL gsL.mu (s, c, sv, n, a, i)
noncomputable def gsL.q0 (s : ByteArray) (c : ByteArray) (sv : Int) (n : Int) (i : Int) : Prop := (((True ∧ decide (i < n) = true) ∧ c.size = (1 : Nat)) ∧ decide (idxB s c < (0 : Int)) = false) ∧ (0 : Int) ≤ (0 : Int) ∧ (0 : Int) ≤ IntKind.i64.wrap (idxB s c + sv) ∧ IntKind.i64.wrap (idxB s c + sv) ≤ (↑s.size : Int)
noncomputable def gsL.T (s : ByteArray) (c : ByteArray) (sv : Int) (n : Int) (a : List ByteArray) (i : Int) : Prop := ((True ∧ decide (i < n) = true) ∧ ¬c.size = (1 : Nat) → False) ∧ (((True ∧ decide (i < n) = true) ∧ c.size = (1 : Nat)) ∧ decide (idxB s c < (0 : Int)) = true → True ∧ (s, a, i) = (lastP s c, List.take i.toNat a ++ initP s c ++ List.drop n.toNat a, n)) ∧ ((((gsL.q0 s c sv n i) ∧ (0 : Int) ≤ i ∧ i < (↑a.length : Int)) ∧ i.toNat < a.length) ∧ (0 : Int) ≤ IntKind.i64.wrap (idxB s c + (↑c.size : Int)) ∧ IntKind.i64.wrap (idxB s c + (↑c.size : Int)) ≤ (↑s.size : Int) ∧ (↑s.size : Int) ≤ (↑s.size : Int) → (c.size = (1 : Nat) ∧ sv = (0 : Int) ∧ n = IntKind.i64.wrap (i + (1 : Int)) + cntS (s.extract (IntKind.i64.wrap (idxB s c + (↑c.size : Int))).toNat (↑s.size : Int).toNat) c ∧ (0 : Int) ≤ IntKind.i64.wrap (i + (1 : Int)) ∧ (↑(a.set i.toNat (s.extract (Int.toNat (0 : Int)) (IntKind.i64.wrap (idxB s c + sv)).toNat)).length : Int) = n + (1 : Int) ∧ (s.extract (IntKind.i64.wrap (idxB s c + (↑c.size : Int))).toNat (↑s.size : Int).toNat).size ≤ (4000000 : Nat) ∧ (a.set i.toNat (s.extract (Int.toNat (0 : Int)) (IntKind.i64.wrap (idxB s c + sv)).toNat)).length ≤ (4000001 : Nat)) ∧ gsL.mu (s.extract (IntKind.i64.wrap (idxB s c + (↑c.size : Int))).toNat (↑s.size : Int).toNat, c, sv, n, a.set i.toNat (s.extract (Int.toNat (0 : Int)) (IntKind.i64.wrap (idxB s c + sv)).toNat), IntKind.i64.wrap (i + (1 : Int))) < gsL.mu (s, c, sv, n, a, i) ∧ (True → True ∧ (lastP (s.extract (IntKind.i64.wrap (idxB s c + (↑c.size : Int))).toNat (↑s.size : Int).toNat) c, List.take (IntKind.i64.wrap (i + (1 : Int))).toNat (a.set i.toNat (s.extract (Int.toNat (0 : Int)) (IntKind.i64.wrap (idxB s c + sv)).toNat)) ++ initP (s.extract (IntKind.i64.wrap (idxB s c + (↑c.size : Int))).toNat (↑s.size : Int).toNat) c ++ List.drop n.toNat (a.set i.toNat (s.extract (Int.toNat (0 : Int)) (IntKind.i64.wrap (idxB s c + sv)).toNat)), n) = (lastP s c, List.take i.toNat a ++ initP s c ++ List.drop n.toNat a, n)) ∧ True) ∧ ((((gsL.q0 s c sv n i) ∧ (0 : Int) ≤ i ∧ i < (↑a.length : Int)) ∧ i.toNat < a.length) ∧ ¬((0 : Int) ≤ IntKind.i64.wrap (idxB s c + (↑c.size : Int)) ∧ IntKind.i64.wrap (idxB s c + (↑c.size : Int)) ≤ (↑s.size : Int) ∧ (↑s.size : Int) ≤ (↑s.size : Int)) → False) ∧ (((gsL.q0 s c sv n i) ∧ (0 : Int) ≤ i ∧ i < (↑a.length : Int)) ∧ ¬i.toNat < a.length → False) ∧ ((gsL.q0 s c sv n i) ∧ ¬((0 : Int) ≤ i ∧ i < (↑a.length : Int)) → False) ∧ ((((True ∧ decide (i < n) = true) ∧ c.size = (1 : Nat)) ∧ decide (idxB s c < (0 : Int)) = false) ∧ ¬((0 : Int) ≤ (0 : Int) ∧ (0 : Int) ≤ IntKind.i64.wrap (idxB s c + sv) ∧ IntKind.i64.wrap (idxB s c + sv) ≤ (↑s.size : Int)) → False) ∧ (True ∧ decide (i < n) = false → True ∧ (s, a, i) = (lastP s c, List.take i.toNat a ++ initP s c ++ List.drop n.toNat a, n)) ∧ (True)
theorem gsL.eq  (s : ByteArray) (c : ByteArray) (sv : Int) (n : Int) (a : List ByteArray) (i : Int) : gsL.g  s c sv n a i = gsL.T  s c sv n a i := by kernel_rfl
theorem gsL.ok  (s : ByteArray) (c : ByteArray) (sv : Int) (n : Int) (a : List ByteArray) (i : Int) (hx : c.size = 1 ∧ sv = 0 ∧ n = i + cntS s c ∧ 0 ≤ i ∧ (a.length : Int) = n + 1 ∧ s.size ≤ 4000000 ∧ a.length ≤ 4000001) : gsL.T  s c sv n a i := by
  obtain ⟨h1, rfl, rfl, h3, h4, h5, h6⟩ := hx
  delta gsL.T gsL.q0
  rw [h1]
  have hc := cntS_len s c
  by_cases hi : 0 ≤ idxB s c
  · obtain ⟨i1, i2, i3, i4, i5, i6⟩ := idx_some hi
    have hc2 := cntS_len (restS s c) c
    have er : s.extract (idxB s c + ((1 : Nat) : Int)).toNat ((s.size : Nat) : Int).toNat = restS s c := by
      rw [restS, show (idxB s c + ((1 : Nat) : Int)).toNat = (idxB s c).toNat + 1 by omega]; rfl
    rw [wrapI64 (x := idxB s c + ((1 : Nat) : Int)) (by omega) (by omega), wrapI64 (x := idxB s c + 0) (by omega) (by omega), wrapI64 (x := i + 1) (by omega) (by omega), Int.add_zero, er, List.length_set]
    have hin : i.toNat < a.length := by omega
    have e9 : (a.set i.toNat (s.extract 0 (idxB s c).toNat)).take (i + 1).toNat ++ initP (restS s c) c ++ (a.set i.toNat (s.extract 0 (idxB s c).toNat)).drop (i + cntS s c).toNat = a.take i.toNat ++ initP s c ++ a.drop (i + cntS s c).toNat := by
      rw [i2, List.drop_set_of_lt (by omega), show (i + 1).toNat = i.toNat + 1 by omega, List.take_succ_eq_append_getElem (by rw [List.length_set]; exact hin), List.getElem_set_self, List.take_set_of_le (Nat.le_refl _)]
      simp
    ((repeat' (first | exact trivial | apply And.intro)) <;> (intro hw; (try (simp only [true_and, and_true, decide_eq_true_eq, decide_eq_false_iff_not, beq_iff_eq, bne_iff_ne, beq_eq_false_iff_ne, bne_eq_false_iff_eq, ne_eq, Bool.not_eq_true, Bool.not_eq_false, not_true_eq_false, not_false_eq_true, Bool.not_eq_eq_eq_not, Bool.not_true, Bool.not_false, forall_const, imp_self, Bool.true_eq_false, Bool.false_eq_true, reduceCtorEq] at hw)); (try first | (exfalso; omega) | exact ⟨trivial, rfl⟩ | exact (hw hx).elim | exact (hw.2 hx).elim)))
    all_goals first
      | (exfalso; omega)
      | exact hw.2.elim
      | exact ⟨⟨rfl, rfl, by omega, by omega, by omega, by omega, h6⟩, by simp only [gsL.mu]; omega, fun _ => ⟨trivial, by rw [i3, ← e9]; rfl⟩, trivial⟩
      | trace_state
  · obtain ⟨i1, i2, i3, i4⟩ := idx_none (s := s) (c := c) (by omega)
    rw [i1, i2, i4, Int.add_zero, List.append_nil, List.take_append_drop]
    ((repeat' (first | exact trivial | apply And.intro)) <;> (intro hw; (try (simp only [true_and, and_true, decide_eq_true_eq, decide_eq_false_iff_not, beq_iff_eq, bne_iff_ne, beq_eq_false_iff_ne, bne_eq_false_iff_eq, ne_eq, Bool.not_eq_true, Bool.not_eq_false, not_true_eq_false, not_false_eq_true, Bool.not_eq_eq_eq_not, Bool.not_true, Bool.not_false, forall_const, imp_self, Bool.true_eq_false, Bool.false_eq_true, reduceCtorEq] at hw)); (try first | (exfalso; omega) | exact ⟨trivial, rfl⟩ | exact (hw hx).elim | exact (hw.2 hx).elim)))
    all_goals first
      | (exfalso; omega)
      | exact ⟨trivial, trivial⟩
      | trace_state
theorem gsL.lp   : LpAt Tryd.prog 23 0 gsL := lp_evalH (l := []) (lf := 1000) (fun _ => cfOf_ok (fns_cons idxA2.fn (fns_nil _))) (lps_nil _ _) (by kernel_rfl) _ (gsL.mu ) (fun ⟨s, c, sv, n, a, i⟩ hx => Hid.of (gsL.eq  s c sv n a i) (gsL.ok  s c sv n a i hx))
noncomputable def gsF  : Face := ⟨23, [.v .str, .v .str, .v (.int .i64), .v (.int .i64)], fun (s, c, sv, n) => some (c.size = 1 ∧ sv = 0 ∧ n = -1 ∧ s.size ≤ 4000000),
  [⟨false, [.v (.sl .str)], fun (s, c, sv, n) => piecesP s c, fun (s, c, sv, n) => none⟩]⟩
noncomputable def gsF.g  (s : ByteArray) (c : ByteArray) (sv : Int) (n : Int) : Prop := GoodFA Tryd.prog (cfOf [cntA]) [(0, gsL), (1000002, deadL), (1000004, deadL)] 1000 gsF (s, c, sv, n)
noncomputable def gsF.q8 (c : ByteArray) (n : Int) : Prop := (True ∧ (n == (0 : Int)) = false) ∧ (c.toList == (ByteArray.mk #[]).toList) = false
noncomputable def gsF.q5 (s : ByteArray) (c : ByteArray) (n : Int) : Prop := (((gsF.q8 c n) ∧ decide (n < (0 : Int)) = true) ∧ c.size = (1 : Nat)) ∧ ((0 : Int) ≤ if IntKind.i64.wrap ((↑s.size : Int) + (1 : Int)) < IntKind.i64.wrap (cntS s c + (1 : Int)) then IntKind.i64.wrap ((↑s.size : Int) + (1 : Int)) else IntKind.i64.wrap (cntS s c + (1 : Int))) ∧ ((if IntKind.i64.wrap ((↑s.size : Int) + (1 : Int)) < IntKind.i64.wrap (cntS s c + (1 : Int)) then IntKind.i64.wrap ((↑s.size : Int) + (1 : Int)) else IntKind.i64.wrap (cntS s c + (1 : Int))) ≤ if IntKind.i64.wrap ((↑s.size : Int) + (1 : Int)) < IntKind.i64.wrap (cntS s c + (1 : Int)) then IntKind.i64.wrap ((↑s.size : Int) + (1 : Int)) else IntKind.i64.wrap (cntS s c + (1 : Int))) ∧ (if IntKind.i64.wrap ((↑s.size : Int) + (1 : Int)) < IntKind.i64.wrap (cntS s c + (1 : Int)) then IntKind.i64.wrap ((↑s.size : Int) + (1 : Int)) else IntKind.i64.wrap (cntS s c + (1 : Int))) * (↑(16 : Nat) : Int) ≤ (140737488355328 : Int)
noncomputable def gsF.q2 (s : ByteArray) (c : ByteArray) (sv : Int) (n : Int) : Prop := (gsF.q5 s c n) ∧ c.size = (1 : Nat) ∧ sv = (0 : Int) ∧ IntKind.i64.wrap ((if IntKind.i64.wrap ((↑s.size : Int) + (1 : Int)) < IntKind.i64.wrap (cntS s c + (1 : Int)) then IntKind.i64.wrap ((↑s.size : Int) + (1 : Int)) else IntKind.i64.wrap (cntS s c + (1 : Int))) - (1 : Int)) = (0 : Int) + cntS s c ∧ (0 : Int) ≤ (0 : Int) ∧ (↑(List.replicate (if IntKind.i64.wrap ((↑s.size : Int) + (1 : Int)) < IntKind.i64.wrap (cntS s c + (1 : Int)) then IntKind.i64.wrap ((↑s.size : Int) + (1 : Int)) else IntKind.i64.wrap (cntS s c + (1 : Int))).toNat (ByteArray.mk #[])).length : Int) = IntKind.i64.wrap ((if IntKind.i64.wrap ((↑s.size : Int) + (1 : Int)) < IntKind.i64.wrap (cntS s c + (1 : Int)) then IntKind.i64.wrap ((↑s.size : Int) + (1 : Int)) else IntKind.i64.wrap (cntS s c + (1 : Int))) - (1 : Int)) + (1 : Int) ∧ s.size ≤ (4000000 : Nat) ∧ (List.replicate (if IntKind.i64.wrap ((↑s.size : Int) + (1 : Int)) < IntKind.i64.wrap (cntS s c + (1 : Int)) then IntKind.i64.wrap ((↑s.size : Int) + (1 : Int)) else IntKind.i64.wrap (cntS s c + (1 : Int))).toNat (ByteArray.mk #[])).length ≤ (4000001 : Nat)
noncomputable def gsF.q0 (s : ByteArray) (c : ByteArray) (sv : Int) (n : Int) : Prop := (gsF.q2 s c sv n) ∧ (0 : Int) ≤ IntKind.i64.wrap ((if IntKind.i64.wrap ((↑s.size : Int) + (1 : Int)) < IntKind.i64.wrap (cntS s c + (1 : Int)) then IntKind.i64.wrap ((↑s.size : Int) + (1 : Int)) else IntKind.i64.wrap (cntS s c + (1 : Int))) - (1 : Int)) ∧ IntKind.i64.wrap ((if IntKind.i64.wrap ((↑s.size : Int) + (1 : Int)) < IntKind.i64.wrap (cntS s c + (1 : Int)) then IntKind.i64.wrap ((↑s.size : Int) + (1 : Int)) else IntKind.i64.wrap (cntS s c + (1 : Int))) - (1 : Int)) < (↑(List.take (Int.toNat (0 : Int)) (List.replicate (if IntKind.i64.wrap ((↑s.size : Int) + (1 : Int)) < IntKind.i64.wrap (cntS s c + (1 : Int)) then IntKind.i64.wrap ((↑s.size : Int) + (1 : Int)) else IntKind.i64.wrap (cntS s c + (1 : Int))).toNat (ByteArray.mk #[])) ++ initP s c ++ List.drop (IntKind.i64.wrap ((if IntKind.i64.wrap ((↑s.size : Int) + (1 : Int)) < IntKind.i64.wrap (cntS s c + (1 : Int)) then IntKind.i64.wrap ((↑s.size : Int) + (1 : Int)) else IntKind.i64.wrap (cntS s c + (1 : Int))) - (1 : Int))).toNat (List.replicate (if IntKind.i64.wrap ((↑s.size : Int) + (1 : Int)) < IntKind.i64.wrap (cntS s c + (1 : Int)) then IntKind.i64.wrap ((↑s.size : Int) + (1 : Int)) else IntKind.i64.wrap (cntS s c + (1 : Int))).toNat (ByteArray.mk #[]))).length : Int)
noncomputable def gsF.q7 (s : ByteArray) (c : ByteArray) (n : Int) : Prop := ((gsF.q8 c n) ∧ decide (n < (0 : Int)) = false) ∧ ((0 : Int) ≤ if IntKind.i64.wrap ((↑s.size : Int) + (1 : Int)) < n then IntKind.i64.wrap ((↑s.size : Int) + (1 : Int)) else n) ∧ ((if IntKind.i64.wrap ((↑s.size : Int) + (1 : Int)) < n then IntKind.i64.wrap ((↑s.size : Int) + (1 : Int)) else n) ≤ if IntKind.i64.wrap ((↑s.size : Int) + (1 : Int)) < n then IntKind.i64.wrap ((↑s.size : Int) + (1 : Int)) else n) ∧ (if IntKind.i64.wrap ((↑s.size : Int) + (1 : Int)) < n then IntKind.i64.wrap ((↑s.size : Int) + (1 : Int)) else n) * (↑(16 : Nat) : Int) ≤ (140737488355328 : Int)
noncomputable def gsF.q3 (s : ByteArray) (c : ByteArray) (sv : Int) (n : Int) : Prop := (gsF.q7 s c n) ∧ c.size = (1 : Nat) ∧ sv = (0 : Int) ∧ IntKind.i64.wrap ((if IntKind.i64.wrap ((↑s.size : Int) + (1 : Int)) < n then IntKind.i64.wrap ((↑s.size : Int) + (1 : Int)) else n) - (1 : Int)) = (0 : Int) + cntS s c ∧ (0 : Int) ≤ (0 : Int) ∧ (↑(List.replicate (if IntKind.i64.wrap ((↑s.size : Int) + (1 : Int)) < n then IntKind.i64.wrap ((↑s.size : Int) + (1 : Int)) else n).toNat (ByteArray.mk #[])).length : Int) = IntKind.i64.wrap ((if IntKind.i64.wrap ((↑s.size : Int) + (1 : Int)) < n then IntKind.i64.wrap ((↑s.size : Int) + (1 : Int)) else n) - (1 : Int)) + (1 : Int) ∧ s.size ≤ (4000000 : Nat) ∧ (List.replicate (if IntKind.i64.wrap ((↑s.size : Int) + (1 : Int)) < n then IntKind.i64.wrap ((↑s.size : Int) + (1 : Int)) else n).toNat (ByteArray.mk #[])).length ≤ (4000001 : Nat)
noncomputable def gsF.q1 (s : ByteArray) (c : ByteArray) (sv : Int) (n : Int) : Prop := (gsF.q3 s c sv n) ∧ (0 : Int) ≤ IntKind.i64.wrap ((if IntKind.i64.wrap ((↑s.size : Int) + (1 : Int)) < n then IntKind.i64.wrap ((↑s.size : Int) + (1 : Int)) else n) - (1 : Int)) ∧ IntKind.i64.wrap ((if IntKind.i64.wrap ((↑s.size : Int) + (1 : Int)) < n then IntKind.i64.wrap ((↑s.size : Int) + (1 : Int)) else n) - (1 : Int)) < (↑(List.take (Int.toNat (0 : Int)) (List.replicate (if IntKind.i64.wrap ((↑s.size : Int) + (1 : Int)) < n then IntKind.i64.wrap ((↑s.size : Int) + (1 : Int)) else n).toNat (ByteArray.mk #[])) ++ initP s c ++ List.drop (IntKind.i64.wrap ((if IntKind.i64.wrap ((↑s.size : Int) + (1 : Int)) < n then IntKind.i64.wrap ((↑s.size : Int) + (1 : Int)) else n) - (1 : Int))).toNat (List.replicate (if IntKind.i64.wrap ((↑s.size : Int) + (1 : Int)) < n then IntKind.i64.wrap ((↑s.size : Int) + (1 : Int)) else n).toNat (ByteArray.mk #[]))).length : Int)
noncomputable def gsF.q4 (s : ByteArray) (c : ByteArray) (sv : Int) (n : Int) : Prop := (gsF.q0 s c sv n) ∧ (IntKind.i64.wrap ((if IntKind.i64.wrap ((↑s.size : Int) + (1 : Int)) < IntKind.i64.wrap (cntS s c + (1 : Int)) then IntKind.i64.wrap ((↑s.size : Int) + (1 : Int)) else IntKind.i64.wrap (cntS s c + (1 : Int))) - (1 : Int))).toNat < (List.take (Int.toNat (0 : Int)) (List.replicate (if IntKind.i64.wrap ((↑s.size : Int) + (1 : Int)) < IntKind.i64.wrap (cntS s c + (1 : Int)) then IntKind.i64.wrap ((↑s.size : Int) + (1 : Int)) else IntKind.i64.wrap (cntS s c + (1 : Int))).toNat (ByteArray.mk #[])) ++ initP s c ++ List.drop (IntKind.i64.wrap ((if IntKind.i64.wrap ((↑s.size : Int) + (1 : Int)) < IntKind.i64.wrap (cntS s c + (1 : Int)) then IntKind.i64.wrap ((↑s.size : Int) + (1 : Int)) else IntKind.i64.wrap (cntS s c + (1 : Int))) - (1 : Int))).toNat (List.replicate (if IntKind.i64.wrap ((↑s.size : Int) + (1 : Int)) < IntKind.i64.wrap (cntS s c + (1 : Int)) then IntKind.i64.wrap ((↑s.size : Int) + (1 : Int)) else IntKind.i64.wrap (cntS s c + (1 : Int))).toNat (ByteArray.mk #[]))).length
noncomputable def gsF.q6 (s : ByteArray) (c : ByteArray) (sv : Int) (n : Int) : Prop := (gsF.q1 s c sv n) ∧ (IntKind.i64.wrap ((if IntKind.i64.wrap ((↑s.size : Int) + (1 : Int)) < n then IntKind.i64.wrap ((↑s.size : Int) + (1 : Int)) else n) - (1 : Int))).toNat < (List.take (Int.toNat (0 : Int)) (List.replicate (if IntKind.i64.wrap ((↑s.size : Int) + (1 : Int)) < n then IntKind.i64.wrap ((↑s.size : Int) + (1 : Int)) else n).toNat (ByteArray.mk #[])) ++ initP s c ++ List.drop (IntKind.i64.wrap ((if IntKind.i64.wrap ((↑s.size : Int) + (1 : Int)) < n then IntKind.i64.wrap ((↑s.size : Int) + (1 : Int)) else n) - (1 : Int))).toNat (List.replicate (if IntKind.i64.wrap ((↑s.size : Int) + (1 : Int)) < n then IntKind.i64.wrap ((↑s.size : Int) + (1 : Int)) else n).toNat (ByteArray.mk #[]))).length
noncomputable def gsF.T (s : ByteArray) (c : ByteArray) (sv : Int) (n : Int) : Prop := ((True ∧ (n == (0 : Int)) = true) ∧ ¬False → False) ∧ (((True ∧ (n == (0 : Int)) = false) ∧ (c.toList == (ByteArray.mk #[]).toList) = true) ∧ ¬False → False) ∧ (((gsF.q8 c n) ∧ decide (n < (0 : Int)) = true) ∧ ¬c.size = (1 : Nat) → False) ∧ ((gsF.q5 s c n) ∧ ¬(c.size = (1 : Nat) ∧ sv = (0 : Int) ∧ IntKind.i64.wrap ((if IntKind.i64.wrap ((↑s.size : Int) + (1 : Int)) < IntKind.i64.wrap (cntS s c + (1 : Int)) then IntKind.i64.wrap ((↑s.size : Int) + (1 : Int)) else IntKind.i64.wrap (cntS s c + (1 : Int))) - (1 : Int)) = (0 : Int) + cntS s c ∧ (0 : Int) ≤ (0 : Int) ∧ (↑(List.replicate (if IntKind.i64.wrap ((↑s.size : Int) + (1 : Int)) < IntKind.i64.wrap (cntS s c + (1 : Int)) then IntKind.i64.wrap ((↑s.size : Int) + (1 : Int)) else IntKind.i64.wrap (cntS s c + (1 : Int))).toNat (ByteArray.mk #[])).length : Int) = IntKind.i64.wrap ((if IntKind.i64.wrap ((↑s.size : Int) + (1 : Int)) < IntKind.i64.wrap (cntS s c + (1 : Int)) then IntKind.i64.wrap ((↑s.size : Int) + (1 : Int)) else IntKind.i64.wrap (cntS s c + (1 : Int))) - (1 : Int)) + (1 : Int) ∧ s.size ≤ (4000000 : Nat) ∧ (List.replicate (if IntKind.i64.wrap ((↑s.size : Int) + (1 : Int)) < IntKind.i64.wrap (cntS s c + (1 : Int)) then IntKind.i64.wrap ((↑s.size : Int) + (1 : Int)) else IntKind.i64.wrap (cntS s c + (1 : Int))).toNat (ByteArray.mk #[])).length ≤ (4000001 : Nat)) → False) ∧ ((gsF.q4 s c sv n) ∧ (0 : Int) ≤ (0 : Int) ∧ (0 : Int) ≤ IntKind.i64.wrap (IntKind.i64.wrap ((if IntKind.i64.wrap ((↑s.size : Int) + (1 : Int)) < IntKind.i64.wrap (cntS s c + (1 : Int)) then IntKind.i64.wrap ((↑s.size : Int) + (1 : Int)) else IntKind.i64.wrap (cntS s c + (1 : Int))) - (1 : Int)) + (1 : Int)) ∧ IntKind.i64.wrap (IntKind.i64.wrap ((if IntKind.i64.wrap ((↑s.size : Int) + (1 : Int)) < IntKind.i64.wrap (cntS s c + (1 : Int)) then IntKind.i64.wrap ((↑s.size : Int) + (1 : Int)) else IntKind.i64.wrap (cntS s c + (1 : Int))) - (1 : Int)) + (1 : Int)) ≤ (↑((List.take (Int.toNat (0 : Int)) (List.replicate (if IntKind.i64.wrap ((↑s.size : Int) + (1 : Int)) < IntKind.i64.wrap (cntS s c + (1 : Int)) then IntKind.i64.wrap ((↑s.size : Int) + (1 : Int)) else IntKind.i64.wrap (cntS s c + (1 : Int))).toNat (ByteArray.mk #[])) ++ initP s c ++ List.drop (IntKind.i64.wrap ((if IntKind.i64.wrap ((↑s.size : Int) + (1 : Int)) < IntKind.i64.wrap (cntS s c + (1 : Int)) then IntKind.i64.wrap ((↑s.size : Int) + (1 : Int)) else IntKind.i64.wrap (cntS s c + (1 : Int))) - (1 : Int))).toNat (List.replicate (if IntKind.i64.wrap ((↑s.size : Int) + (1 : Int)) < IntKind.i64.wrap (cntS s c + (1 : Int)) then IntKind.i64.wrap ((↑s.size : Int) + (1 : Int)) else IntKind.i64.wrap (cntS s c + (1 : Int))).toNat (ByteArray.mk #[]))).set (IntKind.i64.wrap ((if IntKind.i64.wrap ((↑s.size : Int) + (1 : Int)) < IntKind.i64.wrap (cntS s c + (1 : Int)) then IntKind.i64.wrap ((↑s.size : Int) + (1 : Int)) else IntKind.i64.wrap (cntS s c + (1 : Int))) - (1 : Int))).toNat (lastP s c)).length : Int) → True ∧ List.drop (Int.toNat (0 : Int)) (List.take (IntKind.i64.wrap (IntKind.i64.wrap ((if IntKind.i64.wrap ((↑s.size : Int) + (1 : Int)) < IntKind.i64.wrap (cntS s c + (1 : Int)) then IntKind.i64.wrap ((↑s.size : Int) + (1 : Int)) else IntKind.i64.wrap (cntS s c + (1 : Int))) - (1 : Int)) + (1 : Int))).toNat ((List.take (Int.toNat (0 : Int)) (List.replicate (if IntKind.i64.wrap ((↑s.size : Int) + (1 : Int)) < IntKind.i64.wrap (cntS s c + (1 : Int)) then IntKind.i64.wrap ((↑s.size : Int) + (1 : Int)) else IntKind.i64.wrap (cntS s c + (1 : Int))).toNat (ByteArray.mk #[])) ++ initP s c ++ List.drop (IntKind.i64.wrap ((if IntKind.i64.wrap ((↑s.size : Int) + (1 : Int)) < IntKind.i64.wrap (cntS s c + (1 : Int)) then IntKind.i64.wrap ((↑s.size : Int) + (1 : Int)) else IntKind.i64.wrap (cntS s c + (1 : Int))) - (1 : Int))).toNat (List.replicate (if IntKind.i64.wrap ((↑s.size : Int) + (1 : Int)) < IntKind.i64.wrap (cntS s c + (1 : Int)) then IntKind.i64.wrap ((↑s.size : Int) + (1 : Int)) else IntKind.i64.wrap (cntS s c + (1 : Int))).toNat (ByteArray.mk #[]))).set (IntKind.i64.wrap ((if IntKind.i64.wrap ((↑s.size : Int) + (1 : Int)) < IntKind.i64.wrap (cntS s c + (1 : Int)) then IntKind.i64.wrap ((↑s.size : Int) + (1 : Int)) else IntKind.i64.wrap (cntS s c + (1 : Int))) - (1 : Int))).toNat (lastP s c))) = piecesP s c) ∧ ((gsF.q4 s c sv n) ∧ ¬((0 : Int) ≤ (0 : Int) ∧ (0 : Int) ≤ IntKind.i64.wrap (IntKind.i64.wrap ((if IntKind.i64.wrap ((↑s.size : Int) + (1 : Int)) < IntKind.i64.wrap (cntS s c + (1 : Int)) then IntKind.i64.wrap ((↑s.size : Int) + (1 : Int)) else IntKind.i64.wrap (cntS s c + (1 : Int))) - (1 : Int)) + (1 : Int)) ∧ IntKind.i64.wrap (IntKind.i64.wrap ((if IntKind.i64.wrap ((↑s.size : Int) + (1 : Int)) < IntKind.i64.wrap (cntS s c + (1 : Int)) then IntKind.i64.wrap ((↑s.size : Int) + (1 : Int)) else IntKind.i64.wrap (cntS s c + (1 : Int))) - (1 : Int)) + (1 : Int)) ≤ (↑((List.take (Int.toNat (0 : Int)) (List.replicate (if IntKind.i64.wrap ((↑s.size : Int) + (1 : Int)) < IntKind.i64.wrap (cntS s c + (1 : Int)) then IntKind.i64.wrap ((↑s.size : Int) + (1 : Int)) else IntKind.i64.wrap (cntS s c + (1 : Int))).toNat (ByteArray.mk #[])) ++ initP s c ++ List.drop (IntKind.i64.wrap ((if IntKind.i64.wrap ((↑s.size : Int) + (1 : Int)) < IntKind.i64.wrap (cntS s c + (1 : Int)) then IntKind.i64.wrap ((↑s.size : Int) + (1 : Int)) else IntKind.i64.wrap (cntS s c + (1 : Int))) - (1 : Int))).toNat (List.replicate (if IntKind.i64.wrap ((↑s.size : Int) + (1 : Int)) < IntKind.i64.wrap (cntS s c + (1 : Int)) then IntKind.i64.wrap ((↑s.size : Int) + (1 : Int)) else IntKind.i64.wrap (cntS s c + (1 : Int))).toNat (ByteArray.mk #[]))).set (IntKind.i64.wrap ((if IntKind.i64.wrap ((↑s.size : Int) + (1 : Int)) < IntKind.i64.wrap (cntS s c + (1 : Int)) then IntKind.i64.wrap ((↑s.size : Int) + (1 : Int)) else IntKind.i64.wrap (cntS s c + (1 : Int))) - (1 : Int))).toNat (lastP s c)).length : Int)) → False) ∧ ((gsF.q0 s c sv n) ∧ ¬(IntKind.i64.wrap ((if IntKind.i64.wrap ((↑s.size : Int) + (1 : Int)) < IntKind.i64.wrap (cntS s c + (1 : Int)) then IntKind.i64.wrap ((↑s.size : Int) + (1 : Int)) else IntKind.i64.wrap (cntS s c + (1 : Int))) - (1 : Int))).toNat < (List.take (Int.toNat (0 : Int)) (List.replicate (if IntKind.i64.wrap ((↑s.size : Int) + (1 : Int)) < IntKind.i64.wrap (cntS s c + (1 : Int)) then IntKind.i64.wrap ((↑s.size : Int) + (1 : Int)) else IntKind.i64.wrap (cntS s c + (1 : Int))).toNat (ByteArray.mk #[])) ++ initP s c ++ List.drop (IntKind.i64.wrap ((if IntKind.i64.wrap ((↑s.size : Int) + (1 : Int)) < IntKind.i64.wrap (cntS s c + (1 : Int)) then IntKind.i64.wrap ((↑s.size : Int) + (1 : Int)) else IntKind.i64.wrap (cntS s c + (1 : Int))) - (1 : Int))).toNat (List.replicate (if IntKind.i64.wrap ((↑s.size : Int) + (1 : Int)) < IntKind.i64.wrap (cntS s c + (1 : Int)) then IntKind.i64.wrap ((↑s.size : Int) + (1 : Int)) else IntKind.i64.wrap (cntS s c + (1 : Int))).toNat (ByteArray.mk #[]))).length → False) ∧ ((gsF.q2 s c sv n) ∧ ¬((0 : Int) ≤ IntKind.i64.wrap ((if IntKind.i64.wrap ((↑s.size : Int) + (1 : Int)) < IntKind.i64.wrap (cntS s c + (1 : Int)) then IntKind.i64.wrap ((↑s.size : Int) + (1 : Int)) else IntKind.i64.wrap (cntS s c + (1 : Int))) - (1 : Int)) ∧ IntKind.i64.wrap ((if IntKind.i64.wrap ((↑s.size : Int) + (1 : Int)) < IntKind.i64.wrap (cntS s c + (1 : Int)) then IntKind.i64.wrap ((↑s.size : Int) + (1 : Int)) else IntKind.i64.wrap (cntS s c + (1 : Int))) - (1 : Int)) < (↑(List.take (Int.toNat (0 : Int)) (List.replicate (if IntKind.i64.wrap ((↑s.size : Int) + (1 : Int)) < IntKind.i64.wrap (cntS s c + (1 : Int)) then IntKind.i64.wrap ((↑s.size : Int) + (1 : Int)) else IntKind.i64.wrap (cntS s c + (1 : Int))).toNat (ByteArray.mk #[])) ++ initP s c ++ List.drop (IntKind.i64.wrap ((if IntKind.i64.wrap ((↑s.size : Int) + (1 : Int)) < IntKind.i64.wrap (cntS s c + (1 : Int)) then IntKind.i64.wrap ((↑s.size : Int) + (1 : Int)) else IntKind.i64.wrap (cntS s c + (1 : Int))) - (1 : Int))).toNat (List.replicate (if IntKind.i64.wrap ((↑s.size : Int) + (1 : Int)) < IntKind.i64.wrap (cntS s c + (1 : Int)) then IntKind.i64.wrap ((↑s.size : Int) + (1 : Int)) else IntKind.i64.wrap (cntS s c + (1 : Int))).toNat (ByteArray.mk #[]))).length : Int)) → False) ∧ ((((gsF.q8 c n) ∧ decide (n < (0 : Int)) = true) ∧ c.size = (1 : Nat)) ∧ ¬(((0 : Int) ≤ if IntKind.i64.wrap ((↑s.size : Int) + (1 : Int)) < IntKind.i64.wrap (cntS s c + (1 : Int)) then IntKind.i64.wrap ((↑s.size : Int) + (1 : Int)) else IntKind.i64.wrap (cntS s c + (1 : Int))) ∧ ((if IntKind.i64.wrap ((↑s.size : Int) + (1 : Int)) < IntKind.i64.wrap (cntS s c + (1 : Int)) then IntKind.i64.wrap ((↑s.size : Int) + (1 : Int)) else IntKind.i64.wrap (cntS s c + (1 : Int))) ≤ if IntKind.i64.wrap ((↑s.size : Int) + (1 : Int)) < IntKind.i64.wrap (cntS s c + (1 : Int)) then IntKind.i64.wrap ((↑s.size : Int) + (1 : Int)) else IntKind.i64.wrap (cntS s c + (1 : Int))) ∧ (if IntKind.i64.wrap ((↑s.size : Int) + (1 : Int)) < IntKind.i64.wrap (cntS s c + (1 : Int)) then IntKind.i64.wrap ((↑s.size : Int) + (1 : Int)) else IntKind.i64.wrap (cntS s c + (1 : Int))) * (↑(16 : Nat) : Int) ≤ (140737488355328 : Int)) → False) ∧ ((gsF.q7 s c n) ∧ ¬(c.size = (1 : Nat) ∧ sv = (0 : Int) ∧ IntKind.i64.wrap ((if IntKind.i64.wrap ((↑s.size : Int) + (1 : Int)) < n then IntKind.i64.wrap ((↑s.size : Int) + (1 : Int)) else n) - (1 : Int)) = (0 : Int) + cntS s c ∧ (0 : Int) ≤ (0 : Int) ∧ (↑(List.replicate (if IntKind.i64.wrap ((↑s.size : Int) + (1 : Int)) < n then IntKind.i64.wrap ((↑s.size : Int) + (1 : Int)) else n).toNat (ByteArray.mk #[])).length : Int) = IntKind.i64.wrap ((if IntKind.i64.wrap ((↑s.size : Int) + (1 : Int)) < n then IntKind.i64.wrap ((↑s.size : Int) + (1 : Int)) else n) - (1 : Int)) + (1 : Int) ∧ s.size ≤ (4000000 : Nat) ∧ (List.replicate (if IntKind.i64.wrap ((↑s.size : Int) + (1 : Int)) < n then IntKind.i64.wrap ((↑s.size : Int) + (1 : Int)) else n).toNat (ByteArray.mk #[])).length ≤ (4000001 : Nat)) → False) ∧ ((gsF.q6 s c sv n) ∧ (0 : Int) ≤ (0 : Int) ∧ (0 : Int) ≤ IntKind.i64.wrap (IntKind.i64.wrap ((if IntKind.i64.wrap ((↑s.size : Int) + (1 : Int)) < n then IntKind.i64.wrap ((↑s.size : Int) + (1 : Int)) else n) - (1 : Int)) + (1 : Int)) ∧ IntKind.i64.wrap (IntKind.i64.wrap ((if IntKind.i64.wrap ((↑s.size : Int) + (1 : Int)) < n then IntKind.i64.wrap ((↑s.size : Int) + (1 : Int)) else n) - (1 : Int)) + (1 : Int)) ≤ (↑((List.take (Int.toNat (0 : Int)) (List.replicate (if IntKind.i64.wrap ((↑s.size : Int) + (1 : Int)) < n then IntKind.i64.wrap ((↑s.size : Int) + (1 : Int)) else n).toNat (ByteArray.mk #[])) ++ initP s c ++ List.drop (IntKind.i64.wrap ((if IntKind.i64.wrap ((↑s.size : Int) + (1 : Int)) < n then IntKind.i64.wrap ((↑s.size : Int) + (1 : Int)) else n) - (1 : Int))).toNat (List.replicate (if IntKind.i64.wrap ((↑s.size : Int) + (1 : Int)) < n then IntKind.i64.wrap ((↑s.size : Int) + (1 : Int)) else n).toNat (ByteArray.mk #[]))).set (IntKind.i64.wrap ((if IntKind.i64.wrap ((↑s.size : Int) + (1 : Int)) < n then IntKind.i64.wrap ((↑s.size : Int) + (1 : Int)) else n) - (1 : Int))).toNat (lastP s c)).length : Int) → True ∧ List.drop (Int.toNat (0 : Int)) (List.take (IntKind.i64.wrap (IntKind.i64.wrap ((if IntKind.i64.wrap ((↑s.size : Int) + (1 : Int)) < n then IntKind.i64.wrap ((↑s.size : Int) + (1 : Int)) else n) - (1 : Int)) + (1 : Int))).toNat ((List.take (Int.toNat (0 : Int)) (List.replicate (if IntKind.i64.wrap ((↑s.size : Int) + (1 : Int)) < n then IntKind.i64.wrap ((↑s.size : Int) + (1 : Int)) else n).toNat (ByteArray.mk #[])) ++ initP s c ++ List.drop (IntKind.i64.wrap ((if IntKind.i64.wrap ((↑s.size : Int) + (1 : Int)) < n then IntKind.i64.wrap ((↑s.size : Int) + (1 : Int)) else n) - (1 : Int))).toNat (List.replicate (if IntKind.i64.wrap ((↑s.size : Int) + (1 : Int)) < n then IntKind.i64.wrap ((↑s.size : Int) + (1 : Int)) else n).toNat (ByteArray.mk #[]))).set (IntKind.i64.wrap ((if IntKind.i64.wrap ((↑s.size : Int) + (1 : Int)) < n then IntKind.i64.wrap ((↑s.size : Int) + (1 : Int)) else n) - (1 : Int))).toNat (lastP s c))) = piecesP s c) ∧ ((gsF.q6 s c sv n) ∧ ¬((0 : Int) ≤ (0 : Int) ∧ (0 : Int) ≤ IntKind.i64.wrap (IntKind.i64.wrap ((if IntKind.i64.wrap ((↑s.size : Int) + (1 : Int)) < n then IntKind.i64.wrap ((↑s.size : Int) + (1 : Int)) else n) - (1 : Int)) + (1 : Int)) ∧ IntKind.i64.wrap (IntKind.i64.wrap ((if IntKind.i64.wrap ((↑s.size : Int) + (1 : Int)) < n then IntKind.i64.wrap ((↑s.size : Int) + (1 : Int)) else n) - (1 : Int)) + (1 : Int)) ≤ (↑((List.take (Int.toNat (0 : Int)) (List.replicate (if IntKind.i64.wrap ((↑s.size : Int) + (1 : Int)) < n then IntKind.i64.wrap ((↑s.size : Int) + (1 : Int)) else n).toNat (ByteArray.mk #[])) ++ initP s c ++ List.drop (IntKind.i64.wrap ((if IntKind.i64.wrap ((↑s.size : Int) + (1 : Int)) < n then IntKind.i64.wrap ((↑s.size : Int) + (1 : Int)) else n) - (1 : Int))).toNat (List.replicate (if IntKind.i64.wrap ((↑s.size : Int) + (1 : Int)) < n then IntKind.i64.wrap ((↑s.size : Int) + (1 : Int)) else n).toNat (ByteArray.mk #[]))).set (IntKind.i64.wrap ((if IntKind.i64.wrap ((↑s.size : Int) + (1 : Int)) < n then IntKind.i64.wrap ((↑s.size : Int) + (1 : Int)) else n) - (1 : Int))).toNat (lastP s c)).length : Int)) → False) ∧ ((gsF.q1 s c sv n) ∧ ¬(IntKind.i64.wrap ((if IntKind.i64.wrap ((↑s.size : Int) + (1 : Int)) < n then IntKind.i64.wrap ((↑s.size : Int) + (1 : Int)) else n) - (1 : Int))).toNat < (List.take (Int.toNat (0 : Int)) (List.replicate (if IntKind.i64.wrap ((↑s.size : Int) + (1 : Int)) < n then IntKind.i64.wrap ((↑s.size : Int) + (1 : Int)) else n).toNat (ByteArray.mk #[])) ++ initP s c ++ List.drop (IntKind.i64.wrap ((if IntKind.i64.wrap ((↑s.size : Int) + (1 : Int)) < n then IntKind.i64.wrap ((↑s.size : Int) + (1 : Int)) else n) - (1 : Int))).toNat (List.replicate (if IntKind.i64.wrap ((↑s.size : Int) + (1 : Int)) < n then IntKind.i64.wrap ((↑s.size : Int) + (1 : Int)) else n).toNat (ByteArray.mk #[]))).length → False) ∧ ((gsF.q3 s c sv n) ∧ ¬((0 : Int) ≤ IntKind.i64.wrap ((if IntKind.i64.wrap ((↑s.size : Int) + (1 : Int)) < n then IntKind.i64.wrap ((↑s.size : Int) + (1 : Int)) else n) - (1 : Int)) ∧ IntKind.i64.wrap ((if IntKind.i64.wrap ((↑s.size : Int) + (1 : Int)) < n then IntKind.i64.wrap ((↑s.size : Int) + (1 : Int)) else n) - (1 : Int)) < (↑(List.take (Int.toNat (0 : Int)) (List.replicate (if IntKind.i64.wrap ((↑s.size : Int) + (1 : Int)) < n then IntKind.i64.wrap ((↑s.size : Int) + (1 : Int)) else n).toNat (ByteArray.mk #[])) ++ initP s c ++ List.drop (IntKind.i64.wrap ((if IntKind.i64.wrap ((↑s.size : Int) + (1 : Int)) < n then IntKind.i64.wrap ((↑s.size : Int) + (1 : Int)) else n) - (1 : Int))).toNat (List.replicate (if IntKind.i64.wrap ((↑s.size : Int) + (1 : Int)) < n then IntKind.i64.wrap ((↑s.size : Int) + (1 : Int)) else n).toNat (ByteArray.mk #[]))).length : Int)) → False) ∧ (((gsF.q8 c n) ∧ decide (n < (0 : Int)) = false) ∧ ¬(((0 : Int) ≤ if IntKind.i64.wrap ((↑s.size : Int) + (1 : Int)) < n then IntKind.i64.wrap ((↑s.size : Int) + (1 : Int)) else n) ∧ ((if IntKind.i64.wrap ((↑s.size : Int) + (1 : Int)) < n then IntKind.i64.wrap ((↑s.size : Int) + (1 : Int)) else n) ≤ if IntKind.i64.wrap ((↑s.size : Int) + (1 : Int)) < n then IntKind.i64.wrap ((↑s.size : Int) + (1 : Int)) else n) ∧ (if IntKind.i64.wrap ((↑s.size : Int) + (1 : Int)) < n then IntKind.i64.wrap ((↑s.size : Int) + (1 : Int)) else n) * (↑(16 : Nat) : Int) ≤ (140737488355328 : Int)) → False) ∧ (True)
theorem gsF.eq  (s : ByteArray) (c : ByteArray) (sv : Int) (n : Int) : gsF.g  s c sv n = gsF.T  s c sv n := by kernel_rfl
theorem gsF.ok  (s : ByteArray) (c : ByteArray) (sv : Int) (n : Int) (hx : c.size = 1 ∧ sv = 0 ∧ n = -1 ∧ s.size ≤ 4000000) : gsF.T  s c sv n := by
  obtain ⟨h1, rfl, rfl, h4⟩ := hx
  have hc := cntS_len s c
  have hk : cntS s c ≤ (s.size : Int) := by
    rw [cntS, size_list]; exact Int.ofNat_le.2 List.count_le_length
  have hne : ¬ c.toList = (ByteArray.mk #[]).toList := by rw [toList_data, toList_data]; intro e; rw [size_list, e] at h1; cases h1
  have hm : (if IntKind.i64.wrap ((s.size : Int) + 1) < IntKind.i64.wrap (cntS s c + 1) then IntKind.i64.wrap ((s.size : Int) + 1) else IntKind.i64.wrap (cntS s c + 1)) = cntS s c + 1 := by
    rw [wrapI64 (x := (s.size : Int) + 1) (by omega) (by omega), wrapI64 (x := cntS s c + 1) (by omega) (by omega), if_neg (by omega)]
  delta gsF.T gsF.q8 gsF.q5 gsF.q2 gsF.q0 gsF.q7 gsF.q3 gsF.q1 gsF.q4 gsF.q6
  rw [h1]
  simp only [hm]
  have e7 : List.take (Int.toNat 0) (List.replicate (cntS s c + 1).toNat (ByteArray.mk #[])) ++ initP s c ++ List.drop (cntS s c + 1 - 1).toNat (List.replicate (cntS s c + 1).toNat (ByteArray.mk #[])) = initP s c ++ [ByteArray.mk #[]] := by
    rw [List.drop_replicate, show (cntS s c + 1).toNat - (cntS s c + 1 - 1).toNat = 1 by omega]; rfl
  have e8 : (initP s c ++ [ByteArray.mk #[]]).set (cntS s c + 1 - 1).toNat (lastP s c) = piecesP s c := by
    rw [show (cntS s c + 1 - 1).toNat = (initP s c).length by omega, List.set_append_right _ _ (Nat.le_refl _), Nat.sub_self]; rfl
  have e9 : ((piecesP s c).length : Int) = cntS s c + 1 := by rw [piecesP, List.length_append, hc]; rfl
  rw [wrapI64 (x := cntS s c + 1 - 1) (by omega) (by omega), e7, e8, wrapI64 (x := cntS s c + 1 - 1 + 1) (by omega) (by omega)]
  simp only [List.length_replicate, List.length_append, List.length_cons, List.length_nil, hne, e9]
  ((repeat' (first | exact trivial | apply And.intro)) <;> (intro hw; (try (simp only [true_and, and_true, decide_eq_true_eq, decide_eq_false_iff_not, beq_iff_eq, bne_iff_ne, beq_eq_false_iff_ne, bne_eq_false_iff_eq, ne_eq, Bool.not_eq_true, Bool.not_eq_false, not_true_eq_false, not_false_eq_true, Bool.not_eq_eq_eq_not, Bool.not_true, Bool.not_false, forall_const, imp_self, Bool.true_eq_false, Bool.false_eq_true, reduceCtorEq] at hw)); (try first | (exfalso; omega) | exact ⟨trivial, rfl⟩ | exact (hw hx).elim | exact (hw.2 hx).elim)))
  all_goals first
    | exact (hne hw).elim
    | exact hw.2.elim
    | (refine ⟨trivial, ?_⟩; rw [show (cntS s c + 1 - 1 + 1).toNat = (piecesP s c).length by omega]; simp; done)
    | trace_state
theorem gsF.fn   : FnOk Tryd.prog gsF := fn_evalH (l := [(0, gsL), (1000002, deadL), (1000004, deadL)]) (lf := 1000) (fun _ => cfOf_ok (fns_cons cntA.fn (fns_nil _))) _ (lps_cons (gsL.lp) (lps_cons (lp_dead _ _ _) (lps_cons (lp_dead _ _ _) (lps_nil _ _)))) (by kernel_rfl) (fun ⟨s, c, sv, n⟩ hx => Hid.of (gsF.eq  s c sv n) (gsF.ok  s c sv n hx))
noncomputable def splitF  : Face := ⟨16, [.v .str, .v .str], fun (s, c) => some (c.size = 1 ∧ s.size ≤ 4000000),
  [⟨false, [.v (.sl .str)], fun (s, c) => piecesP s c, fun (s, c) => none⟩]⟩
noncomputable def splitF.g  (s : ByteArray) (c : ByteArray) : Prop := GoodFA Tryd.prog (cfOf [gsF]) [] 1000 splitF (s, c)
noncomputable def splitF.T (s : ByteArray) (c : ByteArray) : Prop := (True ∧ ¬(c.size = (1 : Nat) ∧ (0 : Int) = (0 : Int) ∧ (-1 : Int) = (-1 : Int) ∧ s.size ≤ (4000000 : Nat)) → False) ∧ (True ∧ c.size = (1 : Nat) ∧ (0 : Int) = (0 : Int) ∧ (-1 : Int) = (-1 : Int) ∧ s.size ≤ (4000000 : Nat) → True ∧ piecesP s c = piecesP s c) ∧ (True)
theorem splitF.eq  (s : ByteArray) (c : ByteArray) : splitF.g  s c = splitF.T  s c := by kernel_rfl
theorem splitF.ok  (s : ByteArray) (c : ByteArray) (hx : c.size = 1 ∧ s.size ≤ 4000000) : splitF.T  s c := by
  obtain ⟨h1, h4⟩ := hx
  rw [splitF.T]
  ((repeat' (first | exact trivial | apply And.intro)) <;> (intro hw; (try (simp only [true_and, and_true, decide_eq_true_eq, decide_eq_false_iff_not, beq_iff_eq, bne_iff_ne, beq_eq_false_iff_ne, bne_eq_false_iff_eq, ne_eq, Bool.not_eq_true, Bool.not_eq_false, not_true_eq_false, not_false_eq_true, Bool.not_eq_eq_eq_not, Bool.not_true, Bool.not_false, forall_const, imp_self, Bool.true_eq_false, Bool.false_eq_true, reduceCtorEq] at hw)); (try first | (exfalso; omega) | exact ⟨trivial, rfl⟩ | exact (hw hx).elim | exact (hw.2 hx).elim)))
  all_goals first
    | (exfalso; omega)
    | exact ⟨trivial, trivial⟩
    | trace_state
theorem splitF.fn   : FnOk Tryd.prog splitF := fn_evalH (l := []) (lf := 1000) (fun _ => cfOf_ok (fns_cons gsF.fn (fns_nil _))) _ (lps_nil _ _) (by kernel_rfl) (fun ⟨s, c⟩ hx => Hid.of (splitF.eq  s c) (splitF.ok  s c hx))
end Go.Proofs.YtcmffeaoailoiaaDoor.D

namespace Go.Proofs.YtcmffeaoailoiaaDoor.D
open Go Go.EV Go.Proofs
set_option linter.unusedVariables false
set_option linter.unusedSimpArgs false
set_option maxRecDepth 100000
abbrev TK : Ty := .pr (.int .i64) (.pr .str (.pr (.int .i64) (.int .i64)))
abbrev Tok : Type := Int × ByteArray × Int × Int
def ofB (l : List Int) : ByteArray := ⟨(l.map fun x => UInt8.ofNat x.toNat).toArray⟩
def letC (c : Int) : Bool := decide (97 ≤ c ∧ c ≤ 122) || decide (65 ≤ c ∧ c ≤ 90)
def digC (c : Int) : Bool := decide (48 ≤ c ∧ c ≤ 57)
def alnC (c : Int) : Bool := letC c || digC c
def nameL (w : List Int) : Bool := decide (1 ≤ w.length) && (decide (w.length ≤ 8) && (letC (w.headD 0) && w.all alnC))
def kindL (w : List Int) : Int := if w.headD 0 < 97 then 1 else 2
def consT (t : Tok) (p : List Tok × Int) : List Tok × Int := if p.2 = 0 then (t :: p.1, 0) else ([], p.2)
def lineL : Nat → Int → Int → List Int → List Tok × Int
  | 0, _, _, _ => ([], 0)
  | _ + 1, _, _, [] => ([], 0)
  | n + 1, no, at_, c :: r =>
    if c = 32 then lineL n no (at_ + 1) r
    else if c = 58 then consT (3, ofB [58], no, at_ + 1) (lineL n no (at_ + 1) r)
    else if c = 124 then consT (4, ofB [124], no, at_ + 1) (lineL n no (at_ + 1) r)
    else if nameL ((c :: r).takeWhile alnC) = true then consT (kindL ((c :: r).takeWhile alnC), ofB ((c :: r).takeWhile alnC), no, at_ + 1) (lineL n no (at_ + (((c :: r).takeWhile alnC).length : Int)) ((c :: r).dropWhile alnC))
    else ([], at_ + 1)
def noMk (c : Int) : Bool := !(decide (c = 35))
def noNl (c : Int) : Bool := !(decide (c = 10))
abbrev Scn : Type := List Tok × Int × Int
def consS (l : List Tok) (p : Scn) : Scn := if p.2.1 = 0 then (l ++ p.1, 0, 0) else ([], p.2)
def linesL : Int → List (List Int) → Scn
  | _, [] => ([], 0, 0)
  | no, s :: r => if (lineL (s.length + 1) no 0 (s.takeWhile noMk)).2 = 0 then consS ((lineL (s.length + 1) no 0 (s.takeWhile noMk)).1 ++ [(5, ofB [], no, (s.length : Int) + 1)]) (linesL (no + 1) r) else ([], no, (lineL (s.length + 1) no 0 (s.takeWhile noMk)).2)
def refL : Nat → Int → Int → List Int → Scn
  | 0, _, _, _ => ([], 0, 0)
  | _ + 1, _, _, [] => ([], 0, 0)
  | n + 1, no, col, c :: r =>
    if c = 32 then refL n no (col + 1) r
    else if c = 35 then refL n no (col + (((c :: r).takeWhile noNl).length : Int)) ((c :: r).dropWhile noNl)
    else if c = 10 then consS [(5, ofB [], no, col)] (refL n (no + 1) 1 r)
    else if c = 58 then consS [(3, ofB [58], no, col)] (refL n no (col + 1) r)
    else if c = 124 then consS [(4, ofB [124], no, col)] (refL n no (col + 1) r)
    else if alnC c = true then (if nameL ((c :: r).takeWhile alnC) = true then consS [(kindL ((c :: r).takeWhile alnC), ofB ((c :: r).takeWhile alnC), no, col)] (refL n no (col + (((c :: r).takeWhile alnC).length : Int)) ((c :: r).dropWhile alnC)) else ([], no, col))
    else ([], no, col)
def consE (p : List Tok × Int) (no : Int) (q : Scn) : Scn := if p.2 = 0 then consS p.1 q else ([], no, p.2)
theorem take_app {p : Int → Bool} : ∀ {a b : List Int}, (∀ x, b.head? = some x → p x = false) → (a ++ b).takeWhile p = a.takeWhile p ∧ (a ++ b).dropWhile p = a.dropWhile p ++ b
  | [], b, h => by
    cases b with
    | nil => simp
    | cons x r => have := h x rfl; simp [List.takeWhile, List.dropWhile, this]
  | c :: a, b, h => by
    obtain ⟨h1, h2⟩ := take_app (a := a) h
    rw [List.cons_append, List.takeWhile, List.dropWhile, List.takeWhile, List.dropWhile]
    cases p c with
    | true => exact ⟨by simp only [h1], h2⟩
    | false => exact ⟨rfl, rfl⟩
theorem consS_app (a b : List Tok) (q : Scn) : consS a (consS b q) = consS (a ++ b) q := by
  unfold consS
  by_cases h : q.2.1 = 0
  · simp [h]
  · simp [h]
theorem drop_len {p : Int → Bool} (l : List Int) : (l.takeWhile p).length + (l.dropWhile p).length = l.length := by
  rw [← List.length_append, List.takeWhile_append_dropWhile]
theorem refL_fuel : ∀ (n m : Nat) (no col : Int) (L : List Int), L.length + 1 ≤ n → L.length + 1 ≤ m → refL n no col L = refL m no col L
  | 0, m, no, col, L, h, _ => by omega
  | n + 1, 0, no, col, L, _, h => by omega
  | n + 1, m + 1, no, col, [], _, _ => by simp [refL]
  | n + 1, m + 1, no, col, c :: r, h, k => by
    simp only [List.length_cons] at h k
    have e1 := fun a b => refL_fuel n m a b r (by omega) (by omega)
    have e2 : ∀ (p : Int → Bool) a b, p c = true → refL n a b ((c :: r).dropWhile p) = refL m a b ((c :: r).dropWhile p) := fun p a b hp => by
      have h1 := drop_len (p := p) (c :: r)
      have h2 : 1 ≤ ((c :: r).takeWhile p).length := by rw [List.takeWhile, hp]; simp
      simp only [List.length_cons] at h1
      exact refL_fuel n m a b _ (by omega) (by omega)
    rw [refL, refL]
    simp only [e1]
    by_cases h1 : c = 32
    · rw [if_pos h1, if_pos h1]
    · rw [if_neg h1, if_neg h1]
      by_cases h2 : c = 35
      · rw [if_pos h2, if_pos h2, e2 noNl _ _ (by rw [h2]; rfl)]
      · rw [if_neg h2, if_neg h2]
        by_cases h3 : alnC c = true
        · rw [e2 alnC _ _ h3]
        · rw [if_neg h3, if_neg h3]
theorem lineL_fuel : ∀ (n m : Nat) (no at_ : Int) (L : List Int), L.length + 1 ≤ n → L.length + 1 ≤ m → lineL n no at_ L = lineL m no at_ L
  | 0, m, no, at_, L, h, _ => by omega
  | n + 1, 0, no, at_, L, _, h => by omega
  | n + 1, m + 1, no, at_, [], _, _ => by simp [lineL]
  | n + 1, m + 1, no, at_, c :: r, h, k => by
    simp only [List.length_cons] at h k
    have e1 := fun a b => lineL_fuel n m a b r (by omega) (by omega)
    rw [lineL, lineL]
    simp only [e1]
    by_cases h3 : nameL ((c :: r).takeWhile alnC) = true
    · have h1 := drop_len (p := alnC) (c :: r)
      have h2 : 1 ≤ ((c :: r).takeWhile alnC).length := by
        simp only [nameL, Bool.and_eq_true, decide_eq_true_eq] at h3; exact h3.1
      simp only [List.length_cons] at h1
      rw [lineL_fuel n m no _ ((c :: r).dropWhile alnC) (by omega) (by omega)]
    · rw [if_neg h3, if_neg h3]
theorem consE_cons (t : Tok) (p : List Tok × Int) (no : Int) (hno : no ≠ 0) (q : Scn) : consE (consT t p) no q = consS [t] (consE p no q) := by
  unfold consE consT
  by_cases h : p.2 = 0
  · rw [if_pos h, if_pos rfl, if_pos h, consS_app]; rfl
  · rw [if_neg h, if_neg h, if_neg h]
    simp [consS, hno]
theorem mark_aln : ∀ (s : List Int), (s.takeWhile noMk).takeWhile alnC = s.takeWhile alnC ∧ (s.takeWhile noMk).dropWhile alnC = (s.dropWhile alnC).takeWhile noMk
  | [] => by simp
  | c :: r => by
    by_cases hm : noMk c = true
    · obtain ⟨h1, h2⟩ := mark_aln r
      rw [show (c :: r).takeWhile noMk = c :: r.takeWhile noMk by rw [List.takeWhile, hm]]
      by_cases ha : alnC c = true
      · simp only [List.takeWhile, List.dropWhile, ha, h1, h2, and_self]
      · have ha : alnC c = false := by simpa using ha
        simp only [List.takeWhile, List.dropWhile, ha, hm, and_self]
    · have hm : noMk c = false := by simpa using hm
      have hc : c = 35 := by simpa [noMk] using hm
      subst hc
      simp [List.takeWhile, List.dropWhile, noMk, alnC, letC, digC]
theorem ref_line : ∀ (k : Nat) (s : List Int), s.length ≤ k → 10 ∉ s → ∀ (n m : Nat) (no at_ : Int) (rest : List Int), no ≠ 0 → 0 ≤ at_ → s.length + rest.length + 2 ≤ n → s.length + 1 ≤ m →
    refL n no (at_ + 1) (s ++ 10 :: rest) = consE (lineL m no at_ (s.takeWhile noMk)) no (consS [(5, ofB [], no, at_ + (s.length : Int) + 1)] (refL n (no + 1) 1 rest))
  | k, [], _, _, n, m, no, at_, rest, hno, hat, hn, hm => by
    cases n with
    | zero => simp at hn
    | succ n =>
    cases m with
    | zero => simp at hm
    | succ m =>
    simp only [List.length_nil] at hn
    rw [List.nil_append, refL, if_neg (by decide), if_neg (by decide), if_pos rfl]
    show _ = consE ([], 0) no _
    rw [consE, if_pos rfl, consS_app, refL_fuel n (n + 1) _ _ _ (by omega) (by omega)]
    simp
  | 0, _ :: _, h, _, _, _, _, _, _, _, _, _, _ => by simp at h
  | k + 1, c :: r, hk, h10, n, m, no, at_, rest, hno, hat, hn, hm => by
    cases n with
    | zero => simp at hn
    | succ n =>
    cases m with
    | zero => simp at hm
    | succ m =>
    simp only [List.length_cons] at hn hm hk
    simp only [List.mem_cons, not_or] at h10
    have e5 : ∀ j : Int, at_ + j + ((r.length : Nat) : Int) + 1 = at_ + (r.length : Int) + j + 1 := fun j => by omega
    have ih := ref_line k r (by omega) h10.2 n m no (at_ + 1) rest hno (by omega) (by omega) (by omega)
    have hlen : at_ + (((c :: r).length : Nat) : Int) + 1 = at_ + 1 + (r.length : Int) + 1 := by simp only [List.length_cons]; omega
    have hf : refL (n + 1) (no + 1) 1 rest = refL n (no + 1) 1 rest := refL_fuel _ _ _ _ _ (by omega) (by omega)
    rw [hlen, hf, List.cons_append, refL]
    by_cases h1 : c = 32
    · subst h1
      rw [if_pos rfl, show (32 :: r).takeWhile noMk = 32 :: r.takeWhile noMk by simp [List.takeWhile, noMk], lineL, if_pos rfl]
      exact ih
    · rw [if_neg h1]
      by_cases h2 : c = 35
      · subst h2
        obtain ⟨t1, t2⟩ := take_app (p := noNl) (a := 35 :: r) (b := 10 :: rest) (fun x hx => by cases hx; rfl)
        have hall : ∀ l : List Int, 10 ∉ l → l.takeWhile noNl = l ∧ l.dropWhile noNl = [] := by
          intro l
          induction l with
          | nil => intro _; exact ⟨rfl, rfl⟩
          | cons x l ih =>
            intro hx
            simp only [List.mem_cons, not_or] at hx
            obtain ⟨i1, i2⟩ := ih hx.2
            have : noNl x = true := by simp [noNl]; exact fun e => hx.1 e.symm
            rw [List.takeWhile, List.dropWhile, this]
            exact ⟨by simp only [i1], i2⟩
        obtain ⟨a1, a2⟩ := hall (35 :: r) (by simp only [List.mem_cons, not_or]; exact ⟨by decide, h10.2⟩)
        rw [if_pos rfl, ← List.cons_append, t1, t2, a1, a2, List.nil_append, show (35 :: r).takeWhile noMk = [] by simp [List.takeWhile, noMk]]
        rw [show lineL (m + 1) no at_ [] = ([], 0) by rw [lineL]]
        rw [consE, if_pos rfl, consS_app, List.nil_append]
        cases n with
        | zero => omega
        | succ n =>
        rw [refL, if_neg (by decide), if_neg (by decide), if_pos rfl, refL_fuel n (n + 1) _ _ rest (by omega) (by omega)]
        simp only [List.length_cons]
        rw [show at_ + 1 + ((r.length + 1 : Nat) : Int) = at_ + 1 + (r.length : Int) + 1 by omega]
      · rw [if_neg h2]
        have hm2 : (c :: r).takeWhile noMk = c :: r.takeWhile noMk := by
          have : noMk c = true := by simp [noMk, h2]
          rw [List.takeWhile, this]
        rw [if_neg (fun e => h10.1 e.symm), hm2, lineL, if_neg h1]
        by_cases h3 : c = 58
        · rw [if_pos h3, if_pos h3, consE_cons _ _ _ hno]
          rw [ih]
        · rw [if_neg h3, if_neg h3]
          by_cases h4 : c = 124
          · rw [if_pos h4, if_pos h4, consE_cons _ _ _ hno]
            rw [ih]
          · rw [if_neg h4, if_neg h4]
            obtain ⟨t1, t2⟩ := take_app (p := alnC) (a := c :: r) (b := 10 :: rest) (fun x hx => by cases hx; rfl)
            obtain ⟨m1, m2⟩ := mark_aln (c :: r)
            rw [hm2] at m1 m2
            rw [← List.cons_append, t1, t2, m1, m2]
            by_cases h5 : alnC c = true
            · rw [if_pos h5]
              by_cases h6 : nameL ((c :: r).takeWhile alnC) = true
              · rw [if_pos h6, if_pos h6, consE_cons _ _ _ hno]
                have hd := drop_len (p := alnC) (c :: r)
                have h7 : 1 ≤ ((c :: r).takeWhile alnC).length := by
                  simp only [nameL, Bool.and_eq_true, decide_eq_true_eq] at h6; exact h6.1
                have hsub : 10 ∉ (c :: r).dropWhile alnC := fun hx => by
                  have := (List.dropWhile_sublist alnC (l := c :: r)).subset hx
                  simp only [List.mem_cons] at this
                  rcases this with e | e
                  · exact h10.1 e
                  · exact h10.2 e
                simp only [List.length_cons] at hd
                have i2 := ref_line k ((c :: r).dropWhile alnC) (by omega) hsub n m no (at_ + (((c :: r).takeWhile alnC).length : Int)) rest hno (by omega) (by omega) (by omega)
                rw [show at_ + 1 + (((c :: r).takeWhile alnC).length : Int) = at_ + (((c :: r).takeWhile alnC).length : Int) + 1 by omega, i2]
                rw [show at_ + (((c :: r).takeWhile alnC).length : Int) + (((c :: r).dropWhile alnC).length : Int) + 1 = at_ + 1 + (r.length : Int) + 1 by omega]
              · rw [if_neg h6, if_neg h6, consE, if_neg (by show at_ + 1 ≠ 0; omega)]
            · have h5 : alnC c = false := by simpa using h5
              have hw : (c :: r).takeWhile alnC = [] := by rw [List.takeWhile, h5]
              rw [if_neg (by rw [h5]; exact Bool.false_ne_true), hw, if_neg (by decide), consE, if_neg (by show at_ + 1 ≠ 0; omega)]
def splitL : List Int → List (List Int)
  | [] => [[]]
  | c :: r => if c = 10 then [] :: splitL r else match splitL r with
    | [] => [[c]]
    | s :: t => (c :: s) :: t
def joinL : List (List Int) → List Int
  | [] => []
  | s :: r => s ++ 10 :: joinL r
theorem splitL_ne : ∀ l, splitL l ≠ []
  | [] => by simp [splitL]
  | c :: r => by
    rw [splitL]
    split
    · simp
    · split <;> simp
theorem join_split : ∀ l : List Int, joinL (splitL l) = l ++ [10]
  | [] => rfl
  | c :: r => by
    have ih := join_split r
    rw [splitL]
    split
    · rename_i h; rw [joinL, ih, h]; rfl
    · split
      · rename_i h; exact absurd h (splitL_ne r)
      · rename_i s t h; rw [h, joinL] at ih; rw [joinL, List.cons_append, ih]; rfl
theorem split_no : ∀ (l : List Int), ∀ s ∈ splitL l, 10 ∉ s
  | [], s, h => by simp [splitL] at h; subst h; simp
  | c :: r, s, h => by
    have ih := split_no r
    rw [splitL] at h
    split at h
    · rcases List.mem_cons.1 h with e | h
      · rw [e]; simp
      · exact ih s h
    · rename_i hc
      split at h
      · simp at h; subst h; simp; exact fun e => hc e.symm
      · rename_i s' t hs
        rcases List.mem_cons.1 h with e | h
        · rw [e]; simp only [List.mem_cons, not_or]; exact ⟨fun e => hc e.symm, ih s' (by rw [hs]; simp)⟩
        · exact ih s (by rw [hs]; exact List.mem_cons_of_mem _ h)
theorem ref_lines : ∀ (ls : List (List Int)), (∀ s ∈ ls, 10 ∉ s) → ∀ (n : Nat) (no : Int), 0 < no → (joinL ls).length + 2 ≤ n → refL n no 1 (joinL ls) = linesL no ls
  | [], _, n, no, _, hn => by
    cases n with
    | zero => simp at hn
    | succ n => simp [joinL, refL, linesL]
  | s :: r, h, n, no, hno, hn => by
    simp only [joinL, List.length_append, List.length_cons] at hn
    have ih := ref_lines r (fun x hx => h x (List.mem_cons_of_mem _ hx)) n (no + 1) (by omega) (by omega)
    have hl := ref_line s.length s (Nat.le_refl _) (h s (by simp)) n (s.length + 1) no 0 (joinL r) (by omega) (Int.le_refl 0) (by omega) (Nat.le_refl _)
    rw [Int.zero_add] at hl
    rw [joinL, hl, ih, linesL, consE]
    split
    · rw [consS_app]; simp
    · rfl
def bI (s : ByteArray) : List Int := s.data.toList.map fun b => (b.toNat : Int)
def grB : ByteArray := ⟨#[65, 66, 67, 68, 69, 70, 71, 72, 73, 74, 75, 76, 77, 78, 79, 80, 81, 82, 83, 84, 85, 86, 87, 88, 89, 90]⟩
def dgB : ByteArray := ⟨#[48, 49, 50, 51, 52, 53, 54, 55, 56, 57]⟩
def anB : ByteArray := ⟨#[65, 66, 67, 68, 69, 70, 71, 72, 73, 74, 75, 76, 77, 78, 79, 80, 81, 82, 83, 84, 85, 86, 87, 88, 89, 90, 97, 98, 99, 100, 101, 102, 103, 104, 105, 106, 107, 108, 109, 110, 111, 112, 113, 114, 115, 116, 117, 118, 119, 120, 121, 122, 48, 49, 50, 51, 52, 53, 54, 55, 56, 57]⟩
theorem bI_toB (l : List UInt8) : bI (toB l) = l.map fun b => (b.toNat : Int) := by rw [bI, toB_list]
theorem bI_len (s : ByteArray) : (bI s).length = s.size := by rw [bI, List.length_map, size_list]
theorem ofB_map (l : List UInt8) : ofB (l.map fun b => (b.toNat : Int)) = toB l := by
  rw [ofB, toB, List.map_map]
  congr 2
  conv => rhs; rw [← List.map_id l]
  apply List.map_congr_left
  intro b _
  show UInt8.ofNat ((b.toNat : Int)).toNat = b
  rw [Int.toNat_natCast]; exact UInt8.ofNat_toNat
theorem bI_ofB_take (p : Int → Bool) (s : ByteArray) : ofB ((bI s).takeWhile p) = toB (s.data.toList.takeWhile fun b => p (b.toNat : Int)) := by
  rw [bI, List.takeWhile_map, ofB_map]; rfl
theorem aln_all : ∀ n < 256, anB.data.toList.contains (UInt8.ofNat n) = alnC (n : Int) := by decide
theorem gr_all : ∀ n < 256, decide (0 ≤ Lib.indexByte grB.data.toList (UInt8.ofNat n)) = decide (65 ≤ n ∧ n ≤ 90) := by decide
theorem dg_all : ∀ n < 256, decide (0 ≤ Lib.indexByte dgB.data.toList (UInt8.ofNat n)) = digC (n : Int) := by decide
theorem aln_b (b : UInt8) : anB.data.toList.contains b = alnC (b.toNat : Int) := by
  have h := aln_all b.toNat (UInt8.toNat_lt b)
  rwa [UInt8.ofNat_toNat] at h
theorem get0 (c : ByteArray) : c.get! 0 = c.data.toList.headD 0 := by
  obtain ⟨⟨l⟩⟩ := c
  cases l <;> rfl
theorem head_bI (s : ByteArray) : (bI s).headD 0 = ((s.get! 0).toNat : Int) := by
  rw [get0, bI]
  cases s.data.toList <;> rfl
theorem get0_ext {s : ByteArray} (h : 1 ≤ s.size) : (s.extract 0 1).get! 0 = s.get! 0 := by
  rw [get0, get0, ext_toB, toB_list]
  rw [size_list] at h
  cases hl : s.data.toList with
  | nil => rw [hl] at h; simp at h
  | cons a r => rfl
theorem gr_b {s : ByteArray} (h : 1 ≤ s.size) : decide (0 ≤ idxB grB (s.extract 0 1)) = decide (65 ≤ (bI s).headD 0 ∧ (bI s).headD 0 ≤ 90) := by
  have e := gr_all (s.get! 0).toNat (UInt8.toNat_lt _)
  rw [UInt8.ofNat_toNat, decide_eq_decide] at e
  rw [idxB, get0_ext h, head_bI, decide_eq_decide, e]; omega
theorem dg_b {s : ByteArray} (h : 1 ≤ s.size) : decide (0 ≤ idxB dgB (s.extract 0 1)) = digC ((bI s).headD 0) := by
  have e := dg_all (s.get! 0).toNat (UInt8.toNat_lt _)
  rw [UInt8.ofNat_toNat] at e
  rw [idxB, get0_ext h, head_bI, e]
theorem dropWhile_nil {α : Type} {p : α → Bool} : ∀ {l : List α}, l.dropWhile p = [] ↔ ∀ x ∈ l, p x = true
  | [] => by simp
  | a :: r => by
    rw [List.dropWhile]
    cases h : p a with
    | true => simp [dropWhile_nil (l := r), h]
    | false => simp [h]
theorem trim_nil (l cs : List UInt8) : Lib.trimS l cs = [] ↔ ∀ x ∈ l, cs.contains x = true := by
  have hd : ∀ {m : List UInt8} {x : UInt8} {r}, m.dropWhile (cs.contains ·) = x :: r → cs.contains x = false := by
    intro m
    induction m with
    | nil => intro x r h; simp at h
    | cons a m ih =>
      intro x r h
      rw [List.dropWhile] at h
      cases ha : cs.contains a with
      | true => rw [ha] at h; exact ih h
      | false => rw [ha] at h; simp only [List.cons.injEq] at h; rw [← h.1]; exact ha
  rw [Lib.trimS, Lib.trimLeftS, dropWhile_nil, Lib.trimRightS]
  constructor
  · intro h
    cases hq : l.reverse.dropWhile (cs.contains ·) with
    | nil =>
      have := dropWhile_nil.1 hq
      intro x hx; exact this x (List.mem_reverse.2 hx)
    | cons x r =>
      have h1 := h x (by rw [hq]; simp)
      rw [hd hq] at h1; cases h1
  · intro h x hx
    have : x ∈ l.reverse := (List.dropWhile_sublist _).subset (List.mem_reverse.1 hx)
    exact h x (List.mem_reverse.1 this)
theorem trim_an (s : ByteArray) : ((trim s anB).toList == (ByteArray.mk #[]).toList) = (bI s).all alnC := by
  rw [Bool.eq_iff_iff, beq_iff_eq, toList_data, toList_data, trim]
  show Lib.trimS _ _ = [] ↔ _
  rw [trim_nil, List.all_eq_true, bI]
  simp only [aln_b, List.mem_map]
  constructor
  · rintro h x ⟨b, hb, rfl⟩; exact h b hb
  · intro h b hb; exact h _ ⟨b, hb, rfl⟩
theorem triml_an (s : ByteArray) : ((triml s anB).size : Int) = s.size - ((bI s).takeWhile alnC).length := by
  have h := drop_len (p := alnC) (bI s)
  have e : (triml s anB).size = ((bI s).dropWhile alnC).length := by
    rw [triml, bI, List.dropWhile_map, List.length_map, size_list]
    show (Lib.trimLeftS _ _).length = _
    rw [Lib.trimLeftS]
    simp only [aln_b]; rfl
  rw [bI_len] at h
  omega
theorem emp_eq (s : ByteArray) : (s.toList == (ByteArray.mk #[]).toList) = decide (s.size = 0) := by
  rw [Bool.eq_iff_iff, beq_iff_eq, decide_eq_true_eq, toList_data, toList_data, size_list]
  show s.data.toList = [] ↔ _
  rw [List.length_eq_zero_iff]
theorem let_dig {c : Int} (h : alnC c = true) : letC c = !digC c := by
  simp only [alnC, letC, digC, Bool.or_eq_true, decide_eq_true_eq] at h
  rw [Bool.eq_iff_iff]
  simp only [letC, digC, Bool.or_eq_true, decide_eq_true_eq, Bool.not_eq_true', decide_eq_false_iff_not]
  omega
theorem head_all {p : Int → Bool} {l : List Int} (h : l.all p = true) (h1 : 1 ≤ l.length) : p (l.headD 0) = true := by
  cases l with
  | nil => simp at h1
  | cons a r => simp only [List.all_cons, Bool.and_eq_true] at h; exact h.1
theorem nameL_eq {s : ByteArray} (h1 : 1 ≤ s.size) (h8 : s.size ≤ 8) (ha : (bI s).all alnC = true) : nameL (bI s) = !digC ((bI s).headD 0) := by
  have hl := bI_len s
  rw [nameL, ha, let_dig (head_all ha (by omega)), decide_eq_true (by omega), decide_eq_true (by omega), Bool.and_true]; rfl
theorem nameL_no {s : ByteArray} (h : ¬ (1 ≤ s.size ∧ s.size ≤ 8 ∧ (bI s).all alnC = true)) : nameL (bI s) = false := by
  rw [← Bool.not_eq_true]
  intro hn
  apply h
  simp only [nameL, Bool.and_eq_true, decide_eq_true_eq, bI_len] at hn
  exact ⟨hn.1, hn.2.1, hn.2.2.2⟩
theorem an_ok : (anB.size < 4294967281 ∧ asciiS anB = true) := by decide
theorem ext1 {s : ByteArray} (h : 1 ≤ s.size) : (s.extract 0 1).size = 1 := by
  rw [ByteArray.size_extract]; omega
noncomputable def nameF  : Face := ⟨11, [.v .str], fun s => some (s.size ≤ 4000000),
  [⟨false, [.v .bool], fun s => nameL (bI s), fun s => none⟩]⟩
noncomputable def nameF.g  (s : ByteArray) : Prop := GoodFA Tryd.prog (cfOf [trimA, hasA]) [] 1000 nameF s
noncomputable def nameF.q0 (s : ByteArray) : Prop := ((True ∧ (!s.toList == (ByteArray.mk #[]).toList) = true) ∧ decide ((↑s.size : Int) ≤ (8 : Int)) = true) ∧ s.size ≤ (9223372036854775807 : Nat) ∧ (anB).size < (4294967281 : Nat) ∧ asciiS (anB) = true
noncomputable def nameF.q1 (s : ByteArray) : Prop := ((nameF.q0 s) ∧ ((trim s (anB)).toList == (ByteArray.mk #[]).toList) = true) ∧ (0 : Int) ≤ (0 : Int) ∧ (0 : Int) ≤ (1 : Int) ∧ (1 : Int) ≤ (↑s.size : Int)
noncomputable def nameF.T (s : ByteArray) : Prop := (((True ∧ (!s.toList == (ByteArray.mk #[]).toList) = true) ∧ decide ((↑s.size : Int) ≤ (8 : Int)) = true) ∧ ¬(s.size ≤ (9223372036854775807 : Nat) ∧ (anB).size < (4294967281 : Nat) ∧ asciiS (anB) = true) → False) ∧ ((nameF.q1 s) ∧ ¬(s.extract (Int.toNat (0 : Int)) (Int.toNat (1 : Int))).size = (1 : Nat) → False) ∧ ((nameF.q1 s) ∧ (s.extract (Int.toNat (0 : Int)) (Int.toNat (1 : Int))).size = (1 : Nat) → True ∧ (!decide ((0 : Int) ≤ idxB (dgB) (s.extract (Int.toNat (0 : Int)) (Int.toNat (1 : Int))))) = nameL (bI s)) ∧ (((nameF.q0 s) ∧ ((trim s (anB)).toList == (ByteArray.mk #[]).toList) = true) ∧ ¬((0 : Int) ≤ (0 : Int) ∧ (0 : Int) ≤ (1 : Int) ∧ (1 : Int) ≤ (↑s.size : Int)) → False) ∧ ((nameF.q0 s) ∧ ((trim s (anB)).toList == (ByteArray.mk #[]).toList) = false → True ∧ false = nameL (bI s)) ∧ ((True ∧ (!s.toList == (ByteArray.mk #[]).toList) = true) ∧ decide ((↑s.size : Int) ≤ (8 : Int)) = false → True ∧ false = nameL (bI s)) ∧ (True ∧ (!s.toList == (ByteArray.mk #[]).toList) = false → True ∧ false = nameL (bI s)) ∧ (True)
theorem nameF.eq  (s : ByteArray) : nameF.g  s = nameF.T  s := by kernel_rfl
theorem nameF.ok  (s : ByteArray) (hx : s.size ≤ 4000000) : nameF.T  s := by
  have ha := an_ok.1
  have hb := an_ok.2
  delta nameF.T nameF.q0 nameF.q1
  rw [trim_an]
  simp only [emp_eq, show Int.toNat 0 = 0 from rfl, show Int.toNat 1 = 1 from rfl]
  by_cases h1 : 1 ≤ s.size
  · rw [ext1 h1, dg_b h1]
    ((repeat' (first | exact trivial | apply And.intro)) <;> (intro hw; (try (simp only [true_and, and_true, decide_eq_true_eq, decide_eq_false_iff_not, beq_iff_eq, bne_iff_ne, beq_eq_false_iff_ne, bne_eq_false_iff_eq, ne_eq, Bool.not_eq_true, Bool.not_eq_false, not_true_eq_false, not_false_eq_true, Bool.not_eq_eq_eq_not, Bool.not_true, Bool.not_false, forall_const, imp_self, Bool.true_eq_false, Bool.false_eq_true, reduceCtorEq] at hw)); (try first | (exfalso; omega) | exact ⟨trivial, rfl⟩ | exact (hw hx).elim | exact (hw.2 hx).elim)))
    all_goals first
      | (exfalso; omega)
      | exact hw.2 ⟨by omega, ha, hb⟩
      | exact hw.2.elim
      | exact ⟨trivial, (nameL_eq h1 (by omega) hw.1.2).symm⟩
      | exact ⟨trivial, (nameL_no (fun h => by first | omega | (have := hw.2; rw [h.2.2] at this; cases this))).symm⟩
      | trace_state
  · ((repeat' (first | exact trivial | apply And.intro)) <;> (intro hw; (try (simp only [true_and, and_true, decide_eq_true_eq, decide_eq_false_iff_not, beq_iff_eq, bne_iff_ne, beq_eq_false_iff_ne, bne_eq_false_iff_eq, ne_eq, Bool.not_eq_true, Bool.not_eq_false, not_true_eq_false, not_false_eq_true, Bool.not_eq_eq_eq_not, Bool.not_true, Bool.not_false, forall_const, imp_self, Bool.true_eq_false, Bool.false_eq_true, reduceCtorEq] at hw)); (try first | (exfalso; omega) | exact ⟨trivial, rfl⟩ | exact (hw hx).elim | exact (hw.2 hx).elim)))
    all_goals first
      | (exfalso; omega)
      | exact ⟨trivial, (nameL_no (fun h => by omega)).symm⟩
      | trace_state
theorem nameF.fn   : FnOk Tryd.prog nameF := fn_evalH (l := []) (lf := 1000) (fun _ => cfOf_ok (fns_cons trimA.fn (fns_cons hasA.fn (fns_nil _)))) _ (lps_nil _ _) (by kernel_rfl) (fun s hx => Hid.of (nameF.eq  s) (nameF.ok  s hx))
noncomputable def rowF  : Face := ⟨39, [.v .str], fun s => some (s.size ≤ 4000000),
  [⟨false, [.v (.int .i64)], fun s => (((bI s).takeWhile alnC).length : Int), fun s => none⟩]⟩
noncomputable def rowF.g  (s : ByteArray) : Prop := GoodFA Tryd.prog (cfOf [trimlA]) [] 1000 rowF s
noncomputable def rowF.T (s : ByteArray) : Prop := (True ∧ ¬((anB).size < (4294967281 : Nat) ∧ asciiS (anB) = true) →
  False) ∧ (True ∧ (anB).size < (4294967281 : Nat) ∧ asciiS (anB) = true →
  True ∧ IntKind.i64.wrap ((↑s.size : Int) - (↑(triml s (anB)).size : Int)) = (↑(List.takeWhile alnC (bI s)).length : Int)) ∧ (True)
theorem rowF.eq  (s : ByteArray) : rowF.g  s = rowF.T  s := by kernel_rfl
theorem rowF.ok  (s : ByteArray) (hx : s.size ≤ 4000000) : rowF.T  s := by
  have ha := an_ok.1
  have hb := an_ok.2
  have hl := bI_len s
  have hd := drop_len (p := alnC) (bI s)
  rw [rowF.T, triml_an, wrapI64 (by omega) (by omega)]
  ((repeat' (first | exact trivial | apply And.intro)) <;> (intro hw; (try (simp only [true_and, and_true, decide_eq_true_eq, decide_eq_false_iff_not, beq_iff_eq, bne_iff_ne, beq_eq_false_iff_ne, bne_eq_false_iff_eq, ne_eq, Bool.not_eq_true, Bool.not_eq_false, not_true_eq_false, not_false_eq_true, Bool.not_eq_eq_eq_not, Bool.not_true, Bool.not_false, forall_const, imp_self, Bool.true_eq_false, Bool.false_eq_true, reduceCtorEq] at hw)); (try first | (exfalso; omega) | exact ⟨trivial, rfl⟩ | exact (hw hx).elim | exact (hw.2 hx).elim)))
  all_goals first
    | exact hw ⟨ha, hb⟩
    | exact ⟨trivial, by omega⟩
    | trace_state
theorem rowF.fn   : FnOk Tryd.prog rowF := fn_evalH (l := []) (lf := 1000) (fun _ => cfOf_ok (fns_cons trimlA.fn (fns_nil _))) _ (lps_nil _ _) (by kernel_rfl) (fun s hx => Hid.of (rowF.eq  s) (rowF.ok  s hx))
noncomputable def wordF  : Face := ⟨40, [.v .str], fun s => some (s.size ≤ 4000000 ∧ nameL (bI s) = true),
  [⟨false, [.v TK], fun s => (kindL (bI s), s, 0, 0), fun s => none⟩]⟩
noncomputable def wordF.g  (s : ByteArray) : Prop := GoodFA Tryd.prog (cfOf [hasA]) [] 1000 wordF s
noncomputable def wordF.q0 (s : ByteArray) : Prop := True ∧ (0 : Int) ≤ (0 : Int) ∧ (0 : Int) ≤ (1 : Int) ∧ (1 : Int) ≤ (↑s.size : Int)
noncomputable def wordF.T (s : ByteArray) : Prop := ((wordF.q0 s) ∧ ¬(s.extract (Int.toNat (0 : Int)) (Int.toNat (1 : Int))).size = (1 : Nat) → False) ∧ (((wordF.q0 s) ∧ (s.extract (Int.toNat (0 : Int)) (Int.toNat (1 : Int))).size = (1 : Nat)) ∧ decide ((0 : Int) ≤ idxB (grB) (s.extract (Int.toNat (0 : Int)) (Int.toNat (1 : Int)))) = true → True ∧ ((1 : Int), s, (0 : Int), (0 : Int)) = (kindL (bI s), s, (0 : Int), (0 : Int))) ∧ (((wordF.q0 s) ∧ (s.extract (Int.toNat (0 : Int)) (Int.toNat (1 : Int))).size = (1 : Nat)) ∧ decide ((0 : Int) ≤ idxB (grB) (s.extract (Int.toNat (0 : Int)) (Int.toNat (1 : Int)))) = false → True ∧ ((2 : Int), s, (0 : Int), (0 : Int)) = (kindL (bI s), s, (0 : Int), (0 : Int))) ∧ (True ∧ ¬((0 : Int) ≤ (0 : Int) ∧ (0 : Int) ≤ (1 : Int) ∧ (1 : Int) ≤ (↑s.size : Int)) → False) ∧ (True)
theorem wordF.eq  (s : ByteArray) : wordF.g  s = wordF.T  s := by kernel_rfl
theorem wordF.ok  (s : ByteArray) (hx : s.size ≤ 4000000 ∧ nameL (bI s) = true) : wordF.T  s := by
  obtain ⟨h0, hn⟩ := hx
  have h1 : 1 ≤ s.size := by
    rw [nameL, Bool.and_eq_true, decide_eq_true_eq, bI_len] at hn; exact hn.1
  have hc : letC ((bI s).headD 0) = true := by
    simp only [nameL, Bool.and_eq_true, decide_eq_true_eq] at hn; exact hn.2.2.1
  simp only [letC, Bool.or_eq_true, decide_eq_true_eq] at hc
  delta wordF.T wordF.q0
  simp only [show Int.toNat 0 = 0 from rfl, show Int.toNat 1 = 1 from rfl, ext1 h1]
  rw [gr_b h1, kindL]
  ((repeat' (first | exact trivial | apply And.intro)) <;> (intro hw; (try (simp only [true_and, and_true, decide_eq_true_eq, decide_eq_false_iff_not, beq_iff_eq, bne_iff_ne, beq_eq_false_iff_ne, bne_eq_false_iff_eq, ne_eq, Bool.not_eq_true, Bool.not_eq_false, not_true_eq_false, not_false_eq_true, Bool.not_eq_eq_eq_not, Bool.not_true, Bool.not_false, forall_const, imp_self, Bool.true_eq_false, Bool.false_eq_true, reduceCtorEq] at hw)); (try first | (exfalso; omega) | exact ⟨trivial, rfl⟩ | exact (hw hx).elim | exact (hw.2 hx).elim)))
  all_goals first
    | (exfalso; omega)
    | exact hw.2.elim
    | exact ⟨trivial, by rw [if_pos (by omega)]⟩
    | exact ⟨trivial, by rw [if_neg (by omega)]⟩
    | trace_state
theorem wordF.fn   : FnOk Tryd.prog wordF := fn_evalH (l := []) (lf := 1000) (fun _ => cfOf_ok (fns_cons hasA.fn (fns_nil _))) _ (lps_nil _ _) (by kernel_rfl) (fun s hx => Hid.of (wordF.eq  s) (wordF.ok  s hx))
def nextS (s : ByteArray) : Tok × Int × Bool :=
  if (bI s).headD 0 = 58 then ((3, ofB [58], 0, 0), 1, true)
  else if (bI s).headD 0 = 124 then ((4, ofB [124], 0, 0), 1, true)
  else if nameL ((bI s).takeWhile alnC) = true then ((kindL ((bI s).takeWhile alnC), ofB ((bI s).takeWhile alnC), 0, 0), (((bI s).takeWhile alnC).length : Int), true)
  else ((0, ofB [], 0, 0), 0, false)
theorem bt_bI {s : ByteArray} {i : Int} (h0 : 0 ≤ i) (h : i < (s.size : Int)) : XW.bt s i = (bI s).getD i.toNat 0 := by
  have hi : i.toNat < s.size := by omega
  have hl : i.toNat < s.data.toList.length := by rw [← size_list]; exact hi
  rw [XW.bt, dif_pos hi, List.getD_eq_getElem?_getD, bI, List.getElem?_map, List.getElem?_eq_getElem hl]
  rfl
theorem headD_getD (l : List Int) : l.getD 0 0 = l.headD 0 := by cases l <;> rfl
theorem take_tw {α : Type} (p : α → Bool) : ∀ l : List α, l.take (l.takeWhile p).length = l.takeWhile p
  | [] => rfl
  | a :: r => by
    rw [List.takeWhile]
    cases h : p a with
    | true => show a :: r.take _ = _; rw [take_tw p r]
    | false => rfl
theorem drop_tw {α : Type} (p : α → Bool) : ∀ l : List α, l.drop (l.takeWhile p).length = l.dropWhile p
  | [] => rfl
  | a :: r => by
    rw [List.takeWhile, List.dropWhile]
    cases h : p a with
    | true => show r.drop _ = _; rw [drop_tw p r]
    | false => rfl
theorem consT_2 (t : Tok) (p : List Tok × Int) : (consT t p).2 = p.2 := by
  unfold consT; split
  · rename_i h; exact h.symm
  · rfl
theorem consT_1 (t : Tok) {p : List Tok × Int} (h : p.2 = 0) : (consT t p).1 = t :: p.1 := by
  rw [consT, if_pos h]
theorem bI_tw (p : Int → Bool) (s : ByteArray) : bI (ofB ((bI s).takeWhile p)) = (bI s).takeWhile p := by
  rw [bI_ofB_take, bI_toB, bI, List.takeWhile_map]; rfl
theorem ofB_size (l : List Int) : (ofB l).size = l.length := by
  rw [size_list, ofB]; simp
noncomputable def nextF  : Face := ⟨26, [.v .str], fun s => some (s.size ≤ 4000000 ∧ 1 ≤ s.size),
  [⟨false, [.v TK, .v (.int .i64), .v .bool], fun s => nextS s, fun s => none⟩]⟩
noncomputable def nextF.g  (s : ByteArray) : Prop := GoodFA Tryd.prog (cfOf [rowF, nameF, wordF]) [] 1000 nextF s
noncomputable def nextF.q2 (s : ByteArray) : Prop := (True ∧ (0 : Int) ≤ (0 : Int) ∧ (0 : Int) < (↑s.size : Int)) ∧ (XW.bt s (0 : Int) == (58 : Int)) = false
noncomputable def nextF.q0 (s : ByteArray) : Prop := (((nextF.q2 s) ∧ (XW.bt s (0 : Int) == (124 : Int)) = false) ∧ s.size ≤ (4000000 : Nat)) ∧ (0 : Int) ≤ (0 : Int) ∧ (0 : Int) ≤ (↑(List.takeWhile alnC (bI s)).length : Int) ∧ (↑(List.takeWhile alnC (bI s)).length : Int) ≤ (↑s.size : Int)
noncomputable def nextF.q5 (s : ByteArray) : Prop := (nextF.q0 s) ∧ (s.extract (Int.toNat (0 : Int)) (↑(List.takeWhile alnC (bI s)).length : Int).toNat).size ≤ (4000000 : Nat)
noncomputable def nextF.q1 (s : ByteArray) : Prop := (nextF.q5 s) ∧ (!nameL (bI (s.extract (Int.toNat (0 : Int)) (↑(List.takeWhile alnC (bI s)).length : Int).toNat))) = false
noncomputable def nextF.q3 (s : ByteArray) : Prop := (nextF.q1 s) ∧ (0 : Int) ≤ (0 : Int) ∧ (0 : Int) ≤ (↑(List.takeWhile alnC (bI s)).length : Int) ∧ (↑(List.takeWhile alnC (bI s)).length : Int) ≤ (↑s.size : Int)
noncomputable def nextF.q4 (s : ByteArray) : Prop := (0 : Int) ≤ (0 : Int) ∧ (0 : Int) ≤ (↑(List.takeWhile alnC (bI s)).length : Int) ∧ (↑(List.takeWhile alnC (bI s)).length : Int) ≤ (↑s.size : Int)
noncomputable def nextF.T (s : ByteArray) : Prop := ((True ∧ (0 : Int) ≤ (0 : Int) ∧ (0 : Int) < (↑s.size : Int)) ∧ (XW.bt s (0 : Int) == (58 : Int)) = true → True ∧ (((3 : Int), ByteArray.mk #[(58 : UInt8)], (0 : Int), (0 : Int)), (1 : Int), true) = nextS s) ∧ ((nextF.q2 s) ∧ (XW.bt s (0 : Int) == (124 : Int)) = true → True ∧ (((4 : Int), ByteArray.mk #[(124 : UInt8)], (0 : Int), (0 : Int)), (1 : Int), true) = nextS s) ∧ (((nextF.q2 s) ∧ (XW.bt s (0 : Int) == (124 : Int)) = false) ∧ ¬s.size ≤ (4000000 : Nat) → False) ∧ ((nextF.q0 s) ∧ ¬(s.extract (Int.toNat (0 : Int)) (↑(List.takeWhile alnC (bI s)).length : Int).toNat).size ≤ (4000000 : Nat) → False) ∧ ((nextF.q5 s) ∧ (!nameL (bI (s.extract (Int.toNat (0 : Int)) (↑(List.takeWhile alnC (bI s)).length : Int).toNat))) = true → True ∧ (((0 : Int), ByteArray.mk #[], (0 : Int), (0 : Int)), (0 : Int), false) = nextS s) ∧ ((nextF.q3 s) ∧ ¬((s.extract (Int.toNat (0 : Int)) (↑(List.takeWhile alnC (bI s)).length : Int).toNat).size ≤ (4000000 : Nat) ∧ nameL (bI (s.extract (Int.toNat (0 : Int)) (↑(List.takeWhile alnC (bI s)).length : Int).toNat)) = true) → False) ∧ ((nextF.q3 s) ∧ (s.extract (Int.toNat (0 : Int)) (↑(List.takeWhile alnC (bI s)).length : Int).toNat).size ≤ (4000000 : Nat) ∧ nameL (bI (s.extract (Int.toNat (0 : Int)) (↑(List.takeWhile alnC (bI s)).length : Int).toNat)) = true → True ∧ ((kindL (bI (s.extract (Int.toNat (0 : Int)) (↑(List.takeWhile alnC (bI s)).length : Int).toNat)), s.extract (Int.toNat (0 : Int)) (↑(List.takeWhile alnC (bI s)).length : Int).toNat, (0 : Int), (0 : Int)), (↑(List.takeWhile alnC (bI s)).length : Int), true) = nextS s) ∧ ((nextF.q1 s) ∧ ¬(nextF.q4 s) → False) ∧ ((((nextF.q2 s) ∧ (XW.bt s (0 : Int) == (124 : Int)) = false) ∧ s.size ≤ (4000000 : Nat)) ∧ ¬(nextF.q4 s) → False) ∧ (True ∧ ¬((0 : Int) ≤ (0 : Int) ∧ (0 : Int) < (↑s.size : Int)) → False) ∧ (True)
theorem nextF.eq  (s : ByteArray) : nextF.g  s = nextF.T  s := by kernel_rfl
theorem nextF.ok  (s : ByteArray) (hx : s.size ≤ 4000000 ∧ 1 ≤ s.size) : nextF.T  s := by
  obtain ⟨h0, h1⟩ := hx
  have hl := bI_len s
  have hd := drop_len (p := alnC) (bI s)
  have eb : XW.bt s 0 = (bI s).headD 0 := by rw [bt_bI (Int.le_refl 0) (by omega)]; exact headD_getD _
  have ee : s.extract 0 ((((bI s).takeWhile alnC).length : Nat) : Int).toNat = ofB ((bI s).takeWhile alnC) := by
    rw [ext_toB, bI_ofB_take]
    congr 1
    rw [Int.toNat_natCast, bI, List.takeWhile_map, List.length_map, List.drop_zero]
    exact take_tw _ _
  delta nextF.T nextF.q2 nextF.q0 nextF.q5 nextF.q1 nextF.q3 nextF.q4
  simp only [show Int.toNat 0 = 0 from rfl, ee, bI_tw, ofB_size, eb]
  unfold nextS
  ((repeat' (first | exact trivial | apply And.intro)) <;> (intro hw; (try (simp only [true_and, and_true, decide_eq_true_eq, decide_eq_false_iff_not, beq_iff_eq, bne_iff_ne, beq_eq_false_iff_ne, bne_eq_false_iff_eq, ne_eq, Bool.not_eq_true, Bool.not_eq_false, not_true_eq_false, not_false_eq_true, Bool.not_eq_eq_eq_not, Bool.not_true, Bool.not_false, forall_const, imp_self, Bool.true_eq_false, Bool.false_eq_true, reduceCtorEq] at hw)); (try first | (exfalso; omega) | exact ⟨trivial, rfl⟩ | exact (hw hx).elim | exact (hw.2 hx).elim)))
  all_goals first
    | (exfalso; omega)
    | exact ⟨trivial, by rw [if_pos hw.2]; rfl⟩
    | exact ⟨trivial, by rw [if_neg hw.1.2, if_pos hw.2]; rfl⟩
    | exact hw.2 ⟨by omega, hw.1.1.2⟩
    | (refine ⟨trivial, ?_⟩
       have g1 : ¬ (bI s).headD 0 = 58 := by omega
       have g2 : ¬ (bI s).headD 0 = 124 := by omega
       rw [if_neg g1, if_neg g2]
       first
         | rw [if_pos hw.2.2]
         | (rw [if_neg (by rw [hw.2]; exact Bool.false_ne_true)]; rfl))
    | trace_state
theorem nextF.fn   : FnOk Tryd.prog nextF := fn_evalH (l := []) (lf := 1000) (fun _ => cfOf_ok (fns_cons rowF.fn (fns_cons nameF.fn (fns_cons wordF.fn (fns_nil _))))) _ (lps_nil _ _) (by kernel_rfl) (fun s hx => Hid.of (nextF.eq  s) (nextF.ok  s hx))
def lineAt (s : ByteArray) (no at_ : Int) : List Tok × Int := lineL (s.size + 1) no at_ ((bI s).drop at_.toNat)
theorem bI_ext {s : ByteArray} (k : Nat) : bI (s.extract k s.size) = (bI s).drop k := by
  rw [ext_toB, bI_toB, size_list, List.take_length, bI, List.map_drop]
theorem lineAt_end {s : ByteArray} {no at_ : Int} (h : ¬ at_ < (s.size : Int)) : lineAt s no at_ = ([], 0) := by
  rw [lineAt, List.drop_eq_nil_of_le (by rw [bI_len]; omega), lineL]
theorem lineAt_sp {s : ByteArray} {no at_ : Int} (h0 : 0 ≤ at_) (h : at_ < (s.size : Int)) (hc : XW.bt s at_ = 32) : lineAt s no at_ = lineAt s no (at_ + 1) := by
  have hd : (bI s).drop at_.toNat = XW.bt s at_ :: (bI s).drop (at_ + 1).toNat := by
    rw [bt_bI h0 h]; exact drop_int 0 h0 (by rw [bI_len]; exact h)
  have hl := bI_len s
  rw [lineAt, hd, lineL, if_pos hc, lineAt]
  exact lineL_fuel _ _ _ _ _ (by rw [List.length_drop]; omega) (by rw [List.length_drop]; omega)
theorem lineAt_tok {s : ByteArray} {no at_ : Int} (h0 : 0 ≤ at_) (h : at_ < (s.size : Int)) (hc : ¬ XW.bt s at_ = 32) :
    ((nextS (s.extract at_.toNat s.size)).2.2 = true → 1 ≤ (nextS (s.extract at_.toNat s.size)).2.1 ∧ at_ + (nextS (s.extract at_.toNat s.size)).2.1 ≤ (s.size : Int) ∧ lineAt s no at_ = consT ((nextS (s.extract at_.toNat s.size)).1.1, (nextS (s.extract at_.toNat s.size)).1.2.1, no, at_ + 1) (lineAt s no (at_ + (nextS (s.extract at_.toNat s.size)).2.1)))
    ∧ ((nextS (s.extract at_.toNat s.size)).2.2 = false → lineAt s no at_ = ([], at_ + 1)) := by
  have hd : (bI s).drop at_.toNat = XW.bt s at_ :: (bI s).drop (at_ + 1).toNat := by
    rw [bt_bI h0 h]; exact drop_int 0 h0 (by rw [bI_len]; exact h)
  have hl := bI_len s
  have hL : ((bI s).drop at_.toNat).length = s.size - at_.toNat := by rw [List.length_drop, hl]
  have hf : ∀ k : Int, 1 ≤ k → lineL s.size no (at_ + k) ((bI s).drop (at_ + k).toNat) = lineAt s no (at_ + k) := fun k hk => by
    rw [lineAt]
    exact lineL_fuel _ _ _ _ _ (by rw [List.length_drop]; omega) (by rw [List.length_drop]; omega)
  have hw : ∀ p : Int → Bool, (bI s).drop (at_ + ((((bI s).drop at_.toNat).takeWhile p).length : Int)).toNat = ((bI s).drop at_.toNat).dropWhile p := fun p => by
    rw [show (at_ + ((((bI s).drop at_.toNat).takeWhile p).length : Int)).toNat = at_.toNat + (((bI s).drop at_.toNat).takeWhile p).length by omega, ← List.drop_drop, drop_tw]
  have htl := drop_len (p := alnC) ((bI s).drop at_.toNat)
  rw [nextS, bI_ext]
  rw [show lineAt s no at_ = lineL (s.size + 1) no at_ (XW.bt s at_ :: (bI s).drop (at_ + 1).toNat) by rw [lineAt, hd]]
  rw [lineL, if_neg hc]
  rw [← hd, show ((bI s).drop at_.toNat).headD 0 = XW.bt s at_ by rw [hd]; rfl]
  by_cases g1 : XW.bt s at_ = 58
  · simp only [if_pos g1]
    exact ⟨fun _ => ⟨(by decide : (1 : Int) ≤ 1), (by omega : at_ + 1 ≤ (s.size : Int)), congrArg _ (hf 1 (by omega))⟩, fun h => by cases h⟩
  · simp only [if_neg g1]
    by_cases g2 : XW.bt s at_ = 124
    · simp only [if_pos g2]
      exact ⟨fun _ => ⟨(by decide : (1 : Int) ≤ 1), (by omega : at_ + 1 ≤ (s.size : Int)), congrArg _ (hf 1 (by omega))⟩, fun h => by cases h⟩
    · simp only [if_neg g2]
      by_cases g3 : nameL (((bI s).drop at_.toNat).takeWhile alnC) = true
      · have h7 : 1 ≤ (((bI s).drop at_.toNat).takeWhile alnC).length := by
          simp only [nameL, Bool.and_eq_true, decide_eq_true_eq] at g3; exact g3.1
        rw [if_pos g3, if_pos g3]
        exact ⟨fun _ => ⟨(by omega : (1 : Int) ≤ ((((bI s).drop at_.toNat).takeWhile alnC).length : Int)), (by omega : at_ + ((((bI s).drop at_.toNat).takeWhile alnC).length : Int) ≤ (s.size : Int)), congrArg _ (by rw [← hw]; exact hf _ (by omega))⟩, fun h => by cases h⟩
      · simp only [if_neg g3]
        exact ⟨fun h => (by cases h), fun _ => by first | rfl | trivial⟩
noncomputable def lineLp  : LFace := ⟨[0, 1, 4, 6], [.v .str, .v (.int .i64), .row TK 27, .v (.int .i64)], fun (s, no, l, i) => some (0 ≤ i ∧ i ≤ s.size ∧ s.size ≤ 4000000 ∧ (l.length : Int) ≤ i),
  [⟨.normal, [4], [.row TK 27], fun (s, no, l, i) => l ++ (lineAt s no i).1, fun (s, no, l, i) => some ((lineAt s no i).2 = 0)⟩,
   ⟨.ret, [4, 5], [.v (.sl TK), .v (.int .i64)], fun (s, no, l, i) => ([], (lineAt s no i).2), fun (s, no, l, i) => some ((lineAt s no i).2 ≠ 0)⟩]⟩
noncomputable def lineLp.mu  : dens lineLp.sh → Nat := fun (s, no, l, i) => ((s.size : Int) - i).toNat
noncomputable def lineLp.g  (s : ByteArray) (no : Int) (l : List (Int × ByteArray × Int × Int)) (i : Int) : Prop := GoodLA Tryd.prog (cfOf [nextF]) [] 1000 18 0 lineLp lineLp.mu (s, no, l, i)
noncomputable def lineLp.q1 (s : ByteArray) (i : Int) : Prop := ((True ∧ decide (i < (↑s.size : Int)) = true) ∧ (0 : Int) ≤ i ∧ i < (↑s.size : Int)) ∧ (XW.bt s i == (32 : Int)) = false
noncomputable def lineLp.q0 (s : ByteArray) (i : Int) : Prop := ((lineLp.q1 s i) ∧ (0 : Int) ≤ i ∧ i ≤ (↑s.size : Int) ∧ (↑s.size : Int) ≤ (↑s.size : Int)) ∧ (s.extract i.toNat (↑s.size : Int).toNat).size ≤ (4000000 : Nat) ∧ (1 : Nat) ≤ (s.extract i.toNat (↑s.size : Int).toNat).size
noncomputable def lineLp.T (s : ByteArray) (no : Int) (l : List (Int × ByteArray × Int × Int)) (i : Int) : Prop := (((True ∧ decide (i < (↑s.size : Int)) = true) ∧ (0 : Int) ≤ i ∧ i < (↑s.size : Int)) ∧ (XW.bt s i == (32 : Int)) = true → ((0 : Int) ≤ IntKind.i64.wrap (i + (1 : Int)) ∧ IntKind.i64.wrap (i + (1 : Int)) ≤ (↑s.size : Int) ∧ s.size ≤ (4000000 : Nat) ∧ (↑l.length : Int) ≤ IntKind.i64.wrap (i + (1 : Int))) ∧ lineLp.mu (s, no, l, IntKind.i64.wrap (i + (1 : Int))) < lineLp.mu (s, no, l, i) ∧ ((lineAt s no (IntKind.i64.wrap (i + (1 : Int)))).2 = (0 : Int) → (lineAt s no i).2 = (0 : Int) ∧ l ++ (lineAt s no (IntKind.i64.wrap (i + (1 : Int)))).1 = l ++ (lineAt s no i).1) ∧ ((lineAt s no (IntKind.i64.wrap (i + (1 : Int)))).2 ≠ (0 : Int) → (lineAt s no i).2 ≠ (0 : Int) ∧ (([] : List (Int × ByteArray × Int × Int)), (lineAt s no (IntKind.i64.wrap (i + (1 : Int)))).2) = (([] : List (Int × ByteArray × Int × Int)), (lineAt s no i).2)) ∧ True) ∧ (((lineLp.q1 s i) ∧ (0 : Int) ≤ i ∧ i ≤ (↑s.size : Int) ∧ (↑s.size : Int) ≤ (↑s.size : Int)) ∧ ¬((s.extract i.toNat (↑s.size : Int).toNat).size ≤ (4000000 : Nat) ∧ (1 : Nat) ≤ (s.extract i.toNat (↑s.size : Int).toNat).size) → False) ∧ ((lineLp.q0 s i) ∧ (!(nextS (s.extract i.toNat (↑s.size : Int).toNat)).2.2) = true → (lineAt s no i).2 ≠ (0 : Int) ∧ (([] : List (Int × ByteArray × Int × Int)), IntKind.i64.wrap (i + (1 : Int))) = (([] : List (Int × ByteArray × Int × Int)), (lineAt s no i).2)) ∧ (((lineLp.q0 s i) ∧ (!(nextS (s.extract i.toNat (↑s.size : Int).toNat)).2.2) = false) ∧ (l.length + (1 : Nat)) * (40 : Nat) ≤ (140737488355328 : Nat) → ((0 : Int) ≤ IntKind.i64.wrap (i + (nextS (s.extract i.toNat (↑s.size : Int).toNat)).2.1) ∧ IntKind.i64.wrap (i + (nextS (s.extract i.toNat (↑s.size : Int).toNat)).2.1) ≤ (↑s.size : Int) ∧ s.size ≤ (4000000 : Nat) ∧ (↑(l ++ [((nextS (s.extract i.toNat (↑s.size : Int).toNat)).1.1, (nextS (s.extract i.toNat (↑s.size : Int).toNat)).1.2.1, no, IntKind.i64.wrap (i + (1 : Int)))]).length : Int) ≤ IntKind.i64.wrap (i + (nextS (s.extract i.toNat (↑s.size : Int).toNat)).2.1)) ∧ lineLp.mu (s, no, l ++ [((nextS (s.extract i.toNat (↑s.size : Int).toNat)).1.1, (nextS (s.extract i.toNat (↑s.size : Int).toNat)).1.2.1, no, IntKind.i64.wrap (i + (1 : Int)))], IntKind.i64.wrap (i + (nextS (s.extract i.toNat (↑s.size : Int).toNat)).2.1)) < lineLp.mu (s, no, l, i) ∧ ((lineAt s no (IntKind.i64.wrap (i + (nextS (s.extract i.toNat (↑s.size : Int).toNat)).2.1))).2 = (0 : Int) → (lineAt s no i).2 = (0 : Int) ∧ l ++ [((nextS (s.extract i.toNat (↑s.size : Int).toNat)).1.1, (nextS (s.extract i.toNat (↑s.size : Int).toNat)).1.2.1, no, IntKind.i64.wrap (i + (1 : Int)))] ++ (lineAt s no (IntKind.i64.wrap (i + (nextS (s.extract i.toNat (↑s.size : Int).toNat)).2.1))).1 = l ++ (lineAt s no i).1) ∧ ((lineAt s no (IntKind.i64.wrap (i + (nextS (s.extract i.toNat (↑s.size : Int).toNat)).2.1))).2 ≠ (0 : Int) → (lineAt s no i).2 ≠ (0 : Int) ∧ (([] : List (Int × ByteArray × Int × Int)), (lineAt s no (IntKind.i64.wrap (i + (nextS (s.extract i.toNat (↑s.size : Int).toNat)).2.1))).2) = (([] : List (Int × ByteArray × Int × Int)), (lineAt s no i).2)) ∧ True) ∧ (((lineLp.q0 s i) ∧ (!(nextS (s.extract i.toNat (↑s.size : Int).toNat)).2.2) = false) ∧ ¬(l.length + (1 : Nat)) * (40 : Nat) ≤ (140737488355328 : Nat) → False) ∧ ((lineLp.q1 s i) ∧ ¬((0 : Int) ≤ i ∧ i ≤ (↑s.size : Int) ∧ (↑s.size : Int) ≤ (↑s.size : Int)) → False) ∧ ((True ∧ decide (i < (↑s.size : Int)) = true) ∧ ¬((0 : Int) ≤ i ∧ i < (↑s.size : Int)) → False) ∧ (True ∧ decide (i < (↑s.size : Int)) = false → (lineAt s no i).2 = (0 : Int) ∧ l = l ++ (lineAt s no i).1) ∧ (True)
theorem lineLp.eq  (s : ByteArray) (no : Int) (l : List (Int × ByteArray × Int × Int)) (i : Int) : lineLp.g  s no l i = lineLp.T  s no l i := by kernel_rfl
theorem lineLp.ok  (s : ByteArray) (no : Int) (l : List (Int × ByteArray × Int × Int)) (i : Int) (hx : 0 ≤ i ∧ i ≤ s.size ∧ s.size ≤ 4000000 ∧ (l.length : Int) ≤ i) : lineLp.T  s no l i := by
  obtain ⟨h0, h1, h2, h3⟩ := hx
  delta lineLp.T lineLp.q1 lineLp.q0
  simp only [Int.toNat_natCast]
  rw [wrapI64 (x := i + 1) (by omega) (by omega)]
  by_cases hi : i < (s.size : Int)
  · by_cases hc : XW.bt s i = 32
    · rw [lineAt_sp h0 hi hc]
      ((repeat' (first | exact trivial | apply And.intro)) <;> (intro hw; (try (simp only [true_and, and_true, decide_eq_true_eq, decide_eq_false_iff_not, beq_iff_eq, bne_iff_ne, beq_eq_false_iff_ne, bne_eq_false_iff_eq, ne_eq, Bool.not_eq_true, Bool.not_eq_false, not_true_eq_false, not_false_eq_true, Bool.not_eq_eq_eq_not, Bool.not_true, Bool.not_false, forall_const, imp_self, Bool.true_eq_false, Bool.false_eq_true, reduceCtorEq] at hw)); (try first | (exfalso; omega) | exact ⟨trivial, rfl⟩ | exact (hw hx).elim | exact (hw.2 hx).elim)))
      all_goals first
        | (exfalso; omega)
        | exact ⟨⟨by omega, by omega, h2, by omega⟩, by simp only [lineLp.mu]; omega, fun h => ⟨h, rfl⟩, fun h => ⟨h, rfl⟩, trivial⟩
        | trace_state
    · obtain ⟨q1, q2⟩ := lineAt_tok (no := no) h0 hi hc
      have hes : (s.extract i.toNat s.size).size = s.size - i.toNat := by rw [ByteArray.size_extract]; omega
      rw [hes]
      cases hq : (nextS (s.extract i.toNat s.size)).2.2 with
      | true =>
        obtain ⟨r1, r2, r3⟩ := q1 hq
        rw [wrapI64 (x := i + (nextS (s.extract i.toNat s.size)).2.1) (by omega) (by omega), r3]
        have c2 := consT_2 ((nextS (s.extract i.toNat s.size)).1.1, (nextS (s.extract i.toNat s.size)).1.2.1, no, i + 1) (lineAt s no (i + (nextS (s.extract i.toNat s.size)).2.1))
        ((repeat' (first | exact trivial | apply And.intro)) <;> (intro hw; (try (simp only [true_and, and_true, decide_eq_true_eq, decide_eq_false_iff_not, beq_iff_eq, bne_iff_ne, beq_eq_false_iff_ne, bne_eq_false_iff_eq, ne_eq, Bool.not_eq_true, Bool.not_eq_false, not_true_eq_false, not_false_eq_true, Bool.not_eq_eq_eq_not, Bool.not_true, Bool.not_false, forall_const, imp_self, Bool.true_eq_false, Bool.false_eq_true, reduceCtorEq] at hw)); (try first | (exfalso; omega) | exact ⟨trivial, rfl⟩ | exact (hw hx).elim | exact (hw.2 hx).elim)))
        all_goals first
          | (exfalso; omega)
          | exact hw.2.elim
          | exact hw.1.2.elim
          | exact ⟨⟨by omega, by omega, h2, by rw [List.length_append]; simp; omega⟩, by simp only [lineLp.mu]; omega, fun h => ⟨by rw [c2]; exact h, by rw [consT_1 _ h, List.append_assoc]; rfl⟩, fun h => ⟨by rw [c2]; exact h, by rw [c2]⟩, trivial⟩
          | trace_state
      | false =>
        rw [q2 hq]
        ((repeat' (first | exact trivial | apply And.intro)) <;> (intro hw; (try (simp only [true_and, and_true, decide_eq_true_eq, decide_eq_false_iff_not, beq_iff_eq, bne_iff_ne, beq_eq_false_iff_ne, bne_eq_false_iff_eq, ne_eq, Bool.not_eq_true, Bool.not_eq_false, not_true_eq_false, not_false_eq_true, Bool.not_eq_eq_eq_not, Bool.not_true, Bool.not_false, forall_const, imp_self, Bool.true_eq_false, Bool.false_eq_true, reduceCtorEq] at hw)); (try first | (exfalso; omega) | exact ⟨trivial, rfl⟩ | exact (hw hx).elim | exact (hw.2 hx).elim)))
        all_goals first
          | (exfalso; omega)
          | exact hw.2.elim
          | exact hw.1.2.elim
          | exact ⟨by show i + 1 ≠ 0; omega, rfl⟩
          | trace_state
  · rw [lineAt_end hi]
    ((repeat' (first | exact trivial | apply And.intro)) <;> (intro hw; (try (simp only [true_and, and_true, decide_eq_true_eq, decide_eq_false_iff_not, beq_iff_eq, bne_iff_ne, beq_eq_false_iff_ne, bne_eq_false_iff_eq, ne_eq, Bool.not_eq_true, Bool.not_eq_false, not_true_eq_false, not_false_eq_true, Bool.not_eq_eq_eq_not, Bool.not_true, Bool.not_false, forall_const, imp_self, Bool.true_eq_false, Bool.false_eq_true, reduceCtorEq] at hw)); (try first | (exfalso; omega) | exact ⟨trivial, rfl⟩ | exact (hw hx).elim | exact (hw.2 hx).elim)))
    all_goals first
      | (exfalso; omega)
      | exact ⟨rfl, (List.append_nil _).symm⟩
      | trace_state
theorem lineLp.lp   : LpAt Tryd.prog 18 0 lineLp := lp_evalH (l := []) (lf := 1000) (fun _ => cfOf_ok (fns_cons nextF.fn (fns_nil _))) (lps_nil _ _) (by kernel_rfl) _ (lineLp.mu ) (fun ⟨s, no, l, i⟩ hx => Hid.of (lineLp.eq  s no l i) (lineLp.ok  s no l i hx))
def lineS (s : ByteArray) (no : Int) : List Tok × Int := lineL (s.size + 1) no 0 ((bI s).takeWhile noMk)
theorem lineL_bad : ∀ (n : Nat) (no at_ : Int) (L : List Int), (lineL n no at_ L).2 ≠ 0 → (lineL n no at_ L).1 = []
  | 0, _, _, _, h => absurd rfl h
  | n + 1, _, _, [], h => absurd rfl h
  | n + 1, no, at_, c :: r, h => by
    have hT : ∀ (t : Tok) (p : List Tok × Int), (consT t p).2 ≠ 0 → (consT t p).1 = [] := fun t p h => by
      rw [consT_2] at h; rw [consT, if_neg h]
    rw [lineL] at h ⊢
    split at h
    · rename_i g; rw [if_pos g]; exact lineL_bad n no _ r h
    · rename_i g; rw [if_neg g]
      split at h
      · rename_i g; rw [if_pos g]; exact hT _ _ h
      · rename_i g; rw [if_neg g]
        split at h
        · rename_i g; rw [if_pos g]; exact hT _ _ h
        · rename_i g; rw [if_neg g]
          split at h
          · rename_i g; rw [if_pos g]; exact hT _ _ h
          · rename_i g; rw [if_neg g]
theorem lineL_len : ∀ (n : Nat) (no at_ : Int) (L : List Int), (lineL n no at_ L).1.length ≤ L.length
  | 0, _, _, _ => Nat.zero_le _
  | n + 1, _, _, [] => Nat.zero_le _
  | n + 1, no, at_, c :: r => by
    have hT : ∀ (t : Tok) (p : List Tok × Int) (k : Nat), p.1.length + 1 ≤ k → (consT t p).1.length ≤ k := fun t p k h => by
      unfold consT; split
      · exact h
      · exact Nat.zero_le _
    have ih := lineL_len n no (at_ + 1) r
    rw [lineL]
    split
    · simp only [List.length_cons]; omega
    · split
      · exact hT _ _ _ (by simp only [List.length_cons]; omega)
      · split
        · exact hT _ _ _ (by simp only [List.length_cons]; omega)
        · split
          · rename_i g
            have ih2 := lineL_len n no (at_ + (((c :: r).takeWhile alnC).length : Int)) ((c :: r).dropWhile alnC)
            have h1 := drop_len (p := alnC) (c :: r)
            have h7 : 1 ≤ ((c :: r).takeWhile alnC).length := by
              simp only [nameL, Bool.and_eq_true, decide_eq_true_eq] at g; exact g.1
            exact hT _ _ _ (by omega)
          · exact Nat.zero_le _
theorem lineL_nn : ∀ (n : Nat) (no at_ : Int) (L : List Int), 0 ≤ at_ → 0 ≤ (lineL n no at_ L).2
  | 0, _, _, _, _ => Int.le_refl _
  | n + 1, _, _, [], _ => Int.le_refl _
  | n + 1, no, at_, c :: r, h => by
    have ih := lineL_nn n no (at_ + 1) r (by omega)
    rw [lineL]
    split
    · exact ih
    · split
      · rw [consT_2]; exact ih
      · split
        · rw [consT_2]; exact ih
        · split
          · rw [consT_2]; exact lineL_nn n no _ _ (by omega)
          · show 0 ≤ at_ + 1; omega
theorem lineS_nn (s : ByteArray) (no : Int) : 0 ≤ (lineS s no).2 := lineL_nn _ _ _ _ (Int.le_refl _)
theorem lineS_bad {s : ByteArray} {no : Int} (h : ¬ (lineS s no).2 = 0) : (lineS s no).1 = [] := lineL_bad _ _ _ _ h
theorem lineS_len (s : ByteArray) (no : Int) : (lineS s no).1.length ≤ s.size := by
  have h1 := lineL_len (s.size + 1) no 0 ((bI s).takeWhile noMk)
  have h2 := drop_len (p := noMk) (bI s)
  rw [bI_len] at h2
  rw [lineS]; omega
noncomputable def lineF  : Face := ⟨18, [.v .str, .v (.int .i64)], fun (s, no) => some (s.size ≤ 4000000),
  [⟨false, [.v (.sl TK), .v (.int .i64)], fun (s, no) => lineS s no, fun (s, no) => none⟩]⟩
noncomputable def lineF.g  (s : ByteArray) (no : Int) : Prop := GoodFA Tryd.prog (cfOf [cutF2]) [(0, lineLp)] 1000 lineF (s, no)
noncomputable def lineF.q0 (s : ByteArray) : Prop := True ∧ (ByteArray.mk #[(35 : UInt8)]).size = (1 : Nat) ∧ s.size ≤ (4000000 : Nat)
noncomputable def lineF.q1 (s : ByteArray) : Prop := ((lineF.q0 s) ∧ (0 : Int) ≤ idxB s (ByteArray.mk #[(35 : UInt8)])) ∧ (0 : Int) ≤ (0 : Int) ∧ (0 : Int) ≤ (↑(cutS s (ByteArray.mk #[(35 : UInt8)])).size : Int) ∧ (cutS s (ByteArray.mk #[(35 : UInt8)])).size ≤ (4000000 : Nat) ∧ (↑(0 : Nat) : Int) ≤ (0 : Int)
noncomputable def lineF.q2 (s : ByteArray) : Prop := ((lineF.q0 s) ∧ idxB s (ByteArray.mk #[(35 : UInt8)]) < (0 : Int)) ∧ (0 : Int) ≤ (0 : Int) ∧ (0 : Int) ≤ (↑(cutS s (ByteArray.mk #[(35 : UInt8)])).size : Int) ∧ (cutS s (ByteArray.mk #[(35 : UInt8)])).size ≤ (4000000 : Nat) ∧ (↑(0 : Nat) : Int) ≤ (0 : Int)
noncomputable def lineF.q3 (s : ByteArray) : Prop := (0 : Int) ≤ (0 : Int) ∧ (0 : Int) ≤ (↑(cutS s (ByteArray.mk #[(35 : UInt8)])).size : Int) ∧ (cutS s (ByteArray.mk #[(35 : UInt8)])).size ≤ (4000000 : Nat) ∧ (↑(0 : Nat) : Int) ≤ (0 : Int)
noncomputable def lineF.T (s : ByteArray) (no : Int) : Prop := (True ∧ ¬((ByteArray.mk #[(35 : UInt8)]).size = (1 : Nat) ∧ s.size ≤ (4000000 : Nat)) → False) ∧ (((lineF.q0 s) ∧ (0 : Int) ≤ idxB s (ByteArray.mk #[(35 : UInt8)])) ∧ ¬(lineF.q3 s) → False) ∧ ((lineF.q1 s) ∧ (lineAt (cutS s (ByteArray.mk #[(35 : UInt8)])) no (0 : Int)).2 = (0 : Int) → True ∧ ([] ++ (lineAt (cutS s (ByteArray.mk #[(35 : UInt8)])) no (0 : Int)).1, (0 : Int)) = lineS s no) ∧ ((lineF.q1 s) ∧ (lineAt (cutS s (ByteArray.mk #[(35 : UInt8)])) no (0 : Int)).2 ≠ (0 : Int) → True ∧ (([] : List (Int × ByteArray × Int × Int)), (lineAt (cutS s (ByteArray.mk #[(35 : UInt8)])) no (0 : Int)).2) = lineS s no) ∧ (((lineF.q0 s) ∧ idxB s (ByteArray.mk #[(35 : UInt8)]) < (0 : Int)) ∧ ¬(lineF.q3 s) → False) ∧ ((lineF.q2 s) ∧ (lineAt (cutS s (ByteArray.mk #[(35 : UInt8)])) no (0 : Int)).2 = (0 : Int) → True ∧ ([] ++ (lineAt (cutS s (ByteArray.mk #[(35 : UInt8)])) no (0 : Int)).1, (0 : Int)) = lineS s no) ∧ ((lineF.q2 s) ∧ (lineAt (cutS s (ByteArray.mk #[(35 : UInt8)])) no (0 : Int)).2 ≠ (0 : Int) → True ∧ (([] : List (Int × ByteArray × Int × Int)), (lineAt (cutS s (ByteArray.mk #[(35 : UInt8)])) no (0 : Int)).2) = lineS s no) ∧ (True)
theorem lineF.eq  (s : ByteArray) (no : Int) : lineF.g  s no = lineF.T  s no := by kernel_rfl
theorem lineF.ok  (s : ByteArray) (no : Int) (hx : s.size ≤ 4000000) : lineF.T  s no := by
  have e35 : (cutS s (ByteArray.mk #[35])).size ≤ s.size := by
    rw [cutS, toB_size, size_list]; exact (List.takeWhile_sublist _).length_le
  have eL : lineAt (cutS s (ByteArray.mk #[35])) no 0 = lineS s no := by
    have hb : bI (cutS s (ByteArray.mk #[35])) = (bI s).takeWhile noMk := by
      rw [cutS, bI_toB, bI, List.takeWhile_map]
      congr 2
      funext b
      show (b != 35) = !(decide ((b.toNat : Int) = 35))
      rw [Bool.eq_iff_iff, bne_iff_ne, Bool.not_eq_true', decide_eq_false_iff_not]
      exact not_congr ⟨fun h => by rw [h]; rfl, fun h => UInt8.toNat_inj.1 (by have : (35 : UInt8).toNat = 35 := rfl; omega)⟩
    have hl := bI_len (cutS s (ByteArray.mk #[35]))
    rw [lineAt, lineS, ← hb]
    exact lineL_fuel _ _ _ _ _ (by rw [show Int.toNat 0 = 0 from rfl, List.drop_zero]; omega) (by rw [show Int.toNat 0 = 0 from rfl, List.drop_zero]; omega)
  delta lineF.T lineF.q0 lineF.q1 lineF.q2 lineF.q3
  rw [eL]
  have h1 : (ByteArray.mk #[(35 : UInt8)]).size = 1 := rfl
  rw [h1]
  ((repeat' (first | exact trivial | apply And.intro)) <;> (intro hw; (try (simp only [true_and, and_true, decide_eq_true_eq, decide_eq_false_iff_not, beq_iff_eq, bne_iff_ne, beq_eq_false_iff_ne, bne_eq_false_iff_eq, ne_eq, Bool.not_eq_true, Bool.not_eq_false, not_true_eq_false, not_false_eq_true, Bool.not_eq_eq_eq_not, Bool.not_true, Bool.not_false, forall_const, imp_self, Bool.true_eq_false, Bool.false_eq_true, reduceCtorEq] at hw)); (try first | (exfalso; omega) | exact ⟨trivial, rfl⟩ | exact (hw hx).elim | exact (hw.2 hx).elim)))
  all_goals first
    | (exfalso; omega)
    | exact ⟨trivial, rfl⟩
    | exact ⟨trivial, Prod.ext (lineS_bad hw.2).symm rfl⟩
    | (refine ⟨trivial, ?_⟩; rw [List.nil_append]; exact Prod.ext rfl hw.2.symm)
    | exact ⟨trivial, Prod.ext rfl rfl⟩
    | trace_state
theorem lineF.fn   : FnOk Tryd.prog lineF := fn_evalH (l := [(0, lineLp)]) (lf := 1000) (fun _ => cfOf_ok (fns_cons cutF2.fn (fns_nil _))) _ (lps_cons (lineLp.lp) (lps_nil _ _)) (by kernel_rfl) (fun ⟨s, no⟩ hx => Hid.of (lineF.eq  s no) (lineF.ok  s no hx))
def linesAt (ls : List ByteArray) (i : Int) : Scn := linesL (i + 1) ((ls.map bI).drop i.toNat)
def okP (ls : List ByteArray) : Prop := ls.length ≤ 1000 ∧ ∀ p ∈ ls, p.size ≤ 1000
theorem linesAt_end {ls : List ByteArray} {i : Int} (h : ¬ i < (ls.length : Int)) : linesAt ls i = ([], 0, 0) := by
  rw [linesAt, List.drop_eq_nil_of_le (by rw [List.length_map]; omega), linesL]
theorem linesAt_cons {ls : List ByteArray} {i : Int} (h0 : 0 ≤ i) (h : i < (ls.length : Int)) :
    ((lineS (ls.getD i.toNat ByteArray.empty) (i + 1)).2 = 0 → linesAt ls i = consS ((lineS (ls.getD i.toNat ByteArray.empty) (i + 1)).1 ++ [(5, ofB [], i + 1, ((ls.getD i.toNat ByteArray.empty).size : Int) + 1)]) (linesAt ls (i + 1)))
    ∧ (¬ (lineS (ls.getD i.toNat ByteArray.empty) (i + 1)).2 = 0 → linesAt ls i = ([], i + 1, (lineS (ls.getD i.toNat ByteArray.empty) (i + 1)).2)) := by
  have hd : (ls.map bI).drop i.toNat = bI (ls.getD i.toNat ByteArray.empty) :: (ls.map bI).drop (i + 1).toNat := by
    rw [← List.map_drop, ← List.map_drop, drop_int ByteArray.empty h0 h, List.map_cons]
  rw [linesAt, hd, linesL, bI_len]
  exact ⟨fun h => by rw [lineS] at h ⊢; rw [if_pos h, linesAt], fun h => by rw [lineS] at h ⊢; rw [if_neg h]⟩
theorem consS_2 (l : List Tok) (q : Scn) : (consS l q).2.1 = q.2.1 := by
  unfold consS; split
  · rename_i h; exact h.symm
  · rfl
theorem consS_22 (l : List Tok) {q : Scn} (h : ¬ q.2.1 = 0) : consS l q = ([], q.2) := by
  rw [consS, if_neg h]
theorem consS_1 (l : List Tok) {q : Scn} (h : q.2.1 = 0) : (consS l q).1 = l ++ q.1 := by
  rw [consS, if_pos h]
theorem linesL_fact : ∀ (ls : List (List Int)) (no : Int), 0 < no → ((linesL no ls).2.1 = 0 → (linesL no ls).2.2 = 0) ∧ (¬ (linesL no ls).2.1 = 0 → (linesL no ls).1 = [] ∧ 0 < (linesL no ls).2.1)
  | [], no, h => ⟨fun _ => rfl, fun h => absurd rfl h⟩
  | s :: r, no, h => by
    have ih := linesL_fact r (no + 1) (by omega)
    rw [linesL]
    split
    · rw [consS_2]
      unfold consS
      by_cases hq : (linesL (no + 1) r).2.1 = 0
      · rw [if_pos hq]; exact ⟨fun _ => rfl, fun h => absurd hq h⟩
      · rw [if_neg hq]; exact ⟨fun h => absurd h hq, fun _ => ⟨rfl, (ih.2 hq).2⟩⟩
    · exact ⟨fun h2 => absurd (show no = 0 from h2) (by omega), fun _ => ⟨rfl, h⟩⟩
noncomputable def tokL  : LFace := ⟨[2, 14, 15, 16], [.row TK 27, .v (.sl .str), .v (.int .i64), .v (.int .i64)], fun (l, ls, n, i) => some (n = ls.length ∧ okP ls ∧ 0 ≤ i ∧ i ≤ n ∧ (l.length : Int) ≤ 2000 * i),
  [⟨.normal, [2], [.row TK 27], fun (l, ls, n, i) => l ++ (linesAt ls i).1, fun (l, ls, n, i) => some ((linesAt ls i).2.1 = 0)⟩,
   ⟨.ret, [2, 3, 4, 5], [.v (.sl TK), .v (.int .i64), .v (.int .i64), .v (.int .i64)], fun (l, ls, n, i) => ([], (linesAt ls i).2.1, (linesAt ls i).2.2, 2), fun (l, ls, n, i) => some ((linesAt ls i).2.1 ≠ 0)⟩]⟩
noncomputable def tokL.mu  : dens tokL.sh → Nat := fun (l, ls, n, i) => (n - i).toNat
noncomputable def tokL.g  (l : List (Int × ByteArray × Int × Int)) (ls : List ByteArray) (n : Int) (i : Int) : Prop := GoodLA Tryd.prog (cfOf [lineF]) [] 1000 7 0 tokL tokL.mu (l, ls, n, i)
noncomputable def tokL.q0 (ls : List ByteArray) (n : Int) (i : Int) : Prop := (((True ∧ decide (i < n) = true) ∧ (0 : Int) ≤ i ∧ i < (↑ls.length : Int)) ∧ (ls.getD i.toNat ByteArray.empty).size ≤ (4000000 : Nat)) ∧ decide ((lineS (ls.getD i.toNat ByteArray.empty) (IntKind.i64.wrap (i + (1 : Int)))).2 > (0 : Int)) = false
noncomputable def tokL.T (l : List (Int × ByteArray × Int × Int)) (ls : List ByteArray) (n : Int) (i : Int) : Prop := (((True ∧ decide (i < n) = true) ∧ (0 : Int) ≤ i ∧ i < (↑ls.length : Int)) ∧ ¬(ls.getD i.toNat ByteArray.empty).size ≤ (4000000 : Nat) → False) ∧ ((((True ∧ decide (i < n) = true) ∧ (0 : Int) ≤ i ∧ i < (↑ls.length : Int)) ∧ (ls.getD i.toNat ByteArray.empty).size ≤ (4000000 : Nat)) ∧ decide ((lineS (ls.getD i.toNat ByteArray.empty) (IntKind.i64.wrap (i + (1 : Int)))).2 > (0 : Int)) = true → (linesAt ls i).2.1 ≠ (0 : Int) ∧ (([] : List (Int × ByteArray × Int × Int)), IntKind.i64.wrap (i + (1 : Int)), (lineS (ls.getD i.toNat ByteArray.empty) (IntKind.i64.wrap (i + (1 : Int)))).2, (2 : Int)) = (([] : List (Int × ByteArray × Int × Int)), (linesAt ls i).2.1, (linesAt ls i).2.2, (2 : Int))) ∧ (((tokL.q0 ls n i) ∧ (l.length + List.length (lineS (ls.getD i.toNat ByteArray.empty) (IntKind.i64.wrap (i + (1 : Int)))).1) * (40 : Nat) ≤ (140737488355328 : Nat)) ∧ ((l ++ (lineS (ls.getD i.toNat ByteArray.empty) (IntKind.i64.wrap (i + (1 : Int)))).1).length + (1 : Nat)) * (40 : Nat) ≤ (140737488355328 : Nat) → (n = (↑ls.length : Int) ∧ okP ls ∧ (0 : Int) ≤ IntKind.i64.wrap (i + (1 : Int)) ∧ IntKind.i64.wrap (i + (1 : Int)) ≤ n ∧ (↑(l ++ (lineS (ls.getD i.toNat ByteArray.empty) (IntKind.i64.wrap (i + (1 : Int)))).1 ++ [((5 : Int), ByteArray.mk #[], IntKind.i64.wrap (i + (1 : Int)), IntKind.i64.wrap ((↑(ls.getD i.toNat ByteArray.empty).size : Int) + (1 : Int)))]).length : Int) ≤ (2000 : Int) * IntKind.i64.wrap (i + (1 : Int))) ∧ tokL.mu (l ++ (lineS (ls.getD i.toNat ByteArray.empty) (IntKind.i64.wrap (i + (1 : Int)))).1 ++ [((5 : Int), ByteArray.mk #[], IntKind.i64.wrap (i + (1 : Int)), IntKind.i64.wrap ((↑(ls.getD i.toNat ByteArray.empty).size : Int) + (1 : Int)))], ls, n, IntKind.i64.wrap (i + (1 : Int))) < tokL.mu (l, ls, n, i) ∧ ((linesAt ls (IntKind.i64.wrap (i + (1 : Int)))).2.1 = (0 : Int) → (linesAt ls i).2.1 = (0 : Int) ∧ l ++ (lineS (ls.getD i.toNat ByteArray.empty) (IntKind.i64.wrap (i + (1 : Int)))).1 ++ [((5 : Int), ByteArray.mk #[], IntKind.i64.wrap (i + (1 : Int)), IntKind.i64.wrap ((↑(ls.getD i.toNat ByteArray.empty).size : Int) + (1 : Int)))] ++ (linesAt ls (IntKind.i64.wrap (i + (1 : Int)))).1 = l ++ (linesAt ls i).1) ∧ ((linesAt ls (IntKind.i64.wrap (i + (1 : Int)))).2.1 ≠ (0 : Int) → (linesAt ls i).2.1 ≠ (0 : Int) ∧ (([] : List (Int × ByteArray × Int × Int)), (linesAt ls (IntKind.i64.wrap (i + (1 : Int)))).2.1, (linesAt ls (IntKind.i64.wrap (i + (1 : Int)))).2.2, (2 : Int)) = (([] : List (Int × ByteArray × Int × Int)), (linesAt ls i).2.1, (linesAt ls i).2.2, (2 : Int))) ∧ True) ∧ (((tokL.q0 ls n i) ∧ (l.length + List.length (lineS (ls.getD i.toNat ByteArray.empty) (IntKind.i64.wrap (i + (1 : Int)))).1) * (40 : Nat) ≤ (140737488355328 : Nat)) ∧ ¬((l ++ (lineS (ls.getD i.toNat ByteArray.empty) (IntKind.i64.wrap (i + (1 : Int)))).1).length + (1 : Nat)) * (40 : Nat) ≤ (140737488355328 : Nat) → False) ∧ ((tokL.q0 ls n i) ∧ ¬(l.length + List.length (lineS (ls.getD i.toNat ByteArray.empty) (IntKind.i64.wrap (i + (1 : Int)))).1) * (40 : Nat) ≤ (140737488355328 : Nat) → False) ∧ ((True ∧ decide (i < n) = true) ∧ ¬((0 : Int) ≤ i ∧ i < (↑ls.length : Int)) → False) ∧ (True ∧ decide (i < n) = false → (linesAt ls i).2.1 = (0 : Int) ∧ l = l ++ (linesAt ls i).1) ∧ (True)
theorem tokL.eq  (l : List (Int × ByteArray × Int × Int)) (ls : List ByteArray) (n : Int) (i : Int) : tokL.g  l ls n i = tokL.T  l ls n i := by kernel_rfl
theorem tokL.ok  (l : List (Int × ByteArray × Int × Int)) (ls : List ByteArray) (n : Int) (i : Int) (hx : n = ls.length ∧ okP ls ∧ 0 ≤ i ∧ i ≤ n ∧ (l.length : Int) ≤ 2000 * i) : tokL.T  l ls n i := by
  obtain ⟨rfl, ⟨h1, h2⟩, h3, h4, h5⟩ := hx
  delta tokL.T tokL.q0
  rw [wrapI64 (x := i + 1) (by omega) (by omega)]
  by_cases hi : i < (ls.length : Int)
  · have hlt : i.toNat < ls.length := by omega
    have hp : (ls.getD i.toNat ByteArray.empty).size ≤ 1000 := by
      rw [List.getD_eq_getElem?_getD, List.getElem?_eq_getElem hlt]; exact h2 _ (List.getElem_mem hlt)
    obtain ⟨q1, q2⟩ := linesAt_cons h3 hi
    generalize ls.getD i.toNat ByteArray.empty = p at *
    have hn := lineS_nn p (i + 1)
    have hl := lineS_len p (i + 1)
    rw [wrapI64 (x := (p.size : Int) + 1) (by omega) (by omega)]
    simp only [List.length_append, List.length_cons, List.length_nil]
    by_cases hz : (lineS p (i + 1)).2 = 0
    · rw [q1 hz]
      ((repeat' (first | exact trivial | apply And.intro)) <;> (intro hw; (try (simp only [true_and, and_true, decide_eq_true_eq, decide_eq_false_iff_not, beq_iff_eq, bne_iff_ne, beq_eq_false_iff_ne, bne_eq_false_iff_eq, ne_eq, Bool.not_eq_true, Bool.not_eq_false, not_true_eq_false, not_false_eq_true, Bool.not_eq_eq_eq_not, Bool.not_true, Bool.not_false, forall_const, imp_self, Bool.true_eq_false, Bool.false_eq_true, reduceCtorEq] at hw)); (try first | (exfalso; omega) | exact ⟨trivial, rfl⟩ | exact (hw hx).elim | exact (hw.2 hx).elim)))
      all_goals first
        | (exfalso; omega)
        | exact ⟨⟨trivial, ⟨h1, h2⟩, by omega, by omega, by omega⟩, by simp only [tokL.mu]; omega, fun h => ⟨by rw [consS_2]; exact h, by rw [consS_1 _ h]; simp only [List.append_assoc]; rfl⟩, fun h => ⟨by rw [consS_2]; exact h, by rw [consS_22 _ h]⟩, trivial⟩
        | trace_state
    · rw [q2 hz]
      ((repeat' (first | exact trivial | apply And.intro)) <;> (intro hw; (try (simp only [true_and, and_true, decide_eq_true_eq, decide_eq_false_iff_not, beq_iff_eq, bne_iff_ne, beq_eq_false_iff_ne, bne_eq_false_iff_eq, ne_eq, Bool.not_eq_true, Bool.not_eq_false, not_true_eq_false, not_false_eq_true, Bool.not_eq_eq_eq_not, Bool.not_true, Bool.not_false, forall_const, imp_self, Bool.true_eq_false, Bool.false_eq_true, reduceCtorEq] at hw)); (try first | (exfalso; omega) | exact ⟨trivial, rfl⟩ | exact (hw hx).elim | exact (hw.2 hx).elim)))
      all_goals first
        | (exfalso; omega)
        | exact ⟨by show i + 1 ≠ 0; omega, rfl⟩
        | trace_state
  · rw [linesAt_end hi]
    ((repeat' (first | exact trivial | apply And.intro)) <;> (intro hw; (try (simp only [true_and, and_true, decide_eq_true_eq, decide_eq_false_iff_not, beq_iff_eq, bne_iff_ne, beq_eq_false_iff_ne, bne_eq_false_iff_eq, ne_eq, Bool.not_eq_true, Bool.not_eq_false, not_true_eq_false, not_false_eq_true, Bool.not_eq_eq_eq_not, Bool.not_true, Bool.not_false, forall_const, imp_self, Bool.true_eq_false, Bool.false_eq_true, reduceCtorEq] at hw)); (try first | (exfalso; omega) | exact ⟨trivial, rfl⟩ | exact (hw hx).elim | exact (hw.2 hx).elim)))
    all_goals first
      | (exfalso; omega)
      | exact ⟨rfl, (List.append_nil _).symm⟩
      | trace_state
theorem tokL.lp   : LpAt Tryd.prog 7 0 tokL := lp_evalH (l := []) (lf := 1000) (fun _ => cfOf_ok (fns_cons lineF.fn (fns_nil _))) (lps_nil _ _) (by kernel_rfl) _ (tokL.mu ) (fun ⟨l, ls, n, i⟩ hx => Hid.of (tokL.eq  l ls n i) (tokL.ok  l ls n i hx))
def tsufS (s p : ByteArray) : ByteArray := if sufS s p = true then s.extract 0 (s.size - p.size) else s
def nlB : ByteArray := ⟨#[10]⟩
theorem spU_len (b : UInt8) : ∀ l, (∀ p ∈ (spU b l).1, p.length ≤ l.length) ∧ (spU b l).2.length ≤ l.length ∧ (spU b l).1.length ≤ l.length
  | [] => ⟨fun p h => (by cases h), Nat.le_refl _, Nat.le_refl _⟩
  | c :: r => by
    obtain ⟨h1, h2, h3⟩ := spU_len b r
    rw [spU]
    split
    · refine ⟨fun p h => ?_, by simp only [List.length_cons]; omega, by simp only [List.length_cons]; omega⟩
      rcases List.mem_cons.1 h with rfl | h
      · exact Nat.zero_le _
      · have := h1 p h; simp only [List.length_cons]; omega
    · split
      · rename_i e
        exact ⟨fun p h => (by cases h), by simp only [List.length_cons]; omega, Nat.zero_le _⟩
      · rename_i q t e
        rw [e] at h1 h3
        refine ⟨fun p h => ?_, by simp only [List.length_cons]; omega, by simp only [List.length_cons] at *; omega⟩
        rcases List.mem_cons.1 h with rfl | h
        · have := h1 q (by simp); simp only [List.length_cons]; omega
        · have := h1 p (List.mem_cons_of_mem _ h); simp only [List.length_cons]; omega
theorem pieces_ok {s c : ByteArray} (h : s.size ≤ 900) : okP (piecesP s c) := by
  obtain ⟨h1, h2, h3⟩ := spU_len (c.get! 0) s.data.toList
  rw [size_list] at h
  refine ⟨by rw [piecesP, List.length_append, initP, List.length_map]; simp only [List.length_cons, List.length_nil]; omega, fun p hp => ?_⟩
  rw [piecesP] at hp
  rcases List.mem_append.1 hp with hp | hp
  · rw [initP, List.mem_map] at hp
    obtain ⟨q, hq, rfl⟩ := hp
    have := h1 q hq
    rw [toB_size]; omega
  · rw [List.mem_singleton.1 hp, lastP, toB_size]; omega
theorem tsufS_le (s p : ByteArray) : (tsufS s p).size ≤ s.size := by
  rw [tsufS]; split
  · rw [ByteArray.size_extract]; omega
  · exact Nat.le_refl _
def tokS (s : ByteArray) : List Tok × Int × Int × Int := if s.size = 0 then ([], 0, 0, 0) else ((linesAt (piecesP (tsufS s nlB) nlB) 0).1, (linesAt (piecesP (tsufS s nlB) nlB) 0).2.1, (linesAt (piecesP (tsufS s nlB) nlB) 0).2.2, if (linesAt (piecesP (tsufS s nlB) nlB) 0).2.1 = 0 then 0 else 2)
noncomputable def tokF  : Face := ⟨7, [.v .str], fun s => some (s.size ≤ 900),
  [⟨false, [.v (.sl TK), .v (.int .i64), .v (.int .i64), .v (.int .i64)], fun s => tokS s, fun s => none⟩]⟩
noncomputable def tokF.g  (s : ByteArray) : Prop := GoodFA Tryd.prog (cfOf [tsuf2, splitF]) [(0, tokL)] 1000 tokF s
noncomputable def tokF.q2 (s : ByteArray) : Prop := (True ∧ (s.toList == (ByteArray.mk #[]).toList) = false) ∧ s.size ≤ (4000000 : Nat) ∧ (nlB).size ≤ (4000000 : Nat)
noncomputable def tokF.q1 (s : ByteArray) : Prop := ((tokF.q2 s) ∧ (nlB).size = (1 : Nat) ∧ (if sufS s (nlB) = true then s.extract (0 : Nat) (s.size - (nlB).size) else s).size ≤ (4000000 : Nat)) ∧ (piecesP (if sufS s (nlB) = true then s.extract (0 : Nat) (s.size - (nlB).size) else s) (nlB)).length ≤ (9223372036854775807 : Nat)
noncomputable def tokF.q0 (s : ByteArray) : Prop := (tokF.q1 s) ∧ (↑(piecesP (if sufS s (nlB) = true then s.extract (0 : Nat) (s.size - (nlB).size) else s) (nlB)).length : Int) = (↑(piecesP (if sufS s (nlB) = true then s.extract (0 : Nat) (s.size - (nlB).size) else s) (nlB)).length : Int) ∧ okP (piecesP (if sufS s (nlB) = true then s.extract (0 : Nat) (s.size - (nlB).size) else s) (nlB)) ∧ (0 : Int) ≤ (0 : Int) ∧ (0 : Int) ≤ (↑(piecesP (if sufS s (nlB) = true then s.extract (0 : Nat) (s.size - (nlB).size) else s) (nlB)).length : Int) ∧ (↑(0 : Nat) : Int) ≤ (2000 : Int) * (0 : Int)
noncomputable def tokF.T (s : ByteArray) : Prop := (True ∧ (s.toList == (ByteArray.mk #[]).toList) = true → True ∧ (([] : List (Int × ByteArray × Int × Int)), (0 : Int), (0 : Int), (0 : Int)) = tokS s) ∧ ((True ∧ (s.toList == (ByteArray.mk #[]).toList) = false) ∧ ¬(s.size ≤ (4000000 : Nat) ∧ (nlB).size ≤ (4000000 : Nat)) → False) ∧ ((tokF.q2 s) ∧ ¬((nlB).size = (1 : Nat) ∧ (if sufS s (nlB) = true then s.extract (0 : Nat) (s.size - (nlB).size) else s).size ≤ (4000000 : Nat)) → False) ∧ ((tokF.q1 s) ∧ ¬((↑(piecesP (if sufS s (nlB) = true then s.extract (0 : Nat) (s.size - (nlB).size) else s) (nlB)).length : Int) = (↑(piecesP (if sufS s (nlB) = true then s.extract (0 : Nat) (s.size - (nlB).size) else s) (nlB)).length : Int) ∧ okP (piecesP (if sufS s (nlB) = true then s.extract (0 : Nat) (s.size - (nlB).size) else s) (nlB)) ∧ (0 : Int) ≤ (0 : Int) ∧ (0 : Int) ≤ (↑(piecesP (if sufS s (nlB) = true then s.extract (0 : Nat) (s.size - (nlB).size) else s) (nlB)).length : Int) ∧ (↑(0 : Nat) : Int) ≤ (2000 : Int) * (0 : Int)) → False) ∧ ((tokF.q0 s) ∧ (linesAt (piecesP (if sufS s (nlB) = true then s.extract (0 : Nat) (s.size - (nlB).size) else s) (nlB)) (0 : Int)).2.1 = (0 : Int) → True ∧ ([] ++ (linesAt (piecesP (if sufS s (nlB) = true then s.extract (0 : Nat) (s.size - (nlB).size) else s) (nlB)) (0 : Int)).1, (0 : Int), (0 : Int), (0 : Int)) = tokS s) ∧ ((tokF.q0 s) ∧ (linesAt (piecesP (if sufS s (nlB) = true then s.extract (0 : Nat) (s.size - (nlB).size) else s) (nlB)) (0 : Int)).2.1 ≠ (0 : Int) → True ∧ (([] : List (Int × ByteArray × Int × Int)), (linesAt (piecesP (if sufS s (nlB) = true then s.extract (0 : Nat) (s.size - (nlB).size) else s) (nlB)) (0 : Int)).2.1, (linesAt (piecesP (if sufS s (nlB) = true then s.extract (0 : Nat) (s.size - (nlB).size) else s) (nlB)) (0 : Int)).2.2, (2 : Int)) = tokS s) ∧ (True)
theorem tokF.eq  (s : ByteArray) : tokF.g  s = tokF.T  s := by kernel_rfl
theorem tokF.ok  (s : ByteArray) (hx : s.size ≤ 900) : tokF.T  s := by
  have h1 := tsufS_le s nlB
  have h2 : okP (piecesP (tsufS s nlB) nlB) := pieces_ok (by omega)
  have h3 : nlB.size = 1 := rfl
  have eT : (if sufS s nlB = true then s.extract 0 (s.size - nlB.size) else s) = tsufS s nlB := rfl
  delta tokF.T tokF.q2 tokF.q1 tokF.q0
  rw [eT]
  simp only [emp_eq]
  unfold tokS
  generalize piecesP (tsufS s nlB) nlB = ls at *
  ((repeat' (first | exact trivial | apply And.intro)) <;> (intro hw; (try (simp only [true_and, and_true, decide_eq_true_eq, decide_eq_false_iff_not, beq_iff_eq, bne_iff_ne, beq_eq_false_iff_ne, bne_eq_false_iff_eq, ne_eq, Bool.not_eq_true, Bool.not_eq_false, not_true_eq_false, not_false_eq_true, Bool.not_eq_eq_eq_not, Bool.not_true, Bool.not_false, forall_const, imp_self, Bool.true_eq_false, Bool.false_eq_true, reduceCtorEq] at hw)); (try first | (exfalso; omega) | exact ⟨trivial, rfl⟩ | exact (hw hx).elim | exact (hw.2 hx).elim)))
  all_goals first
    | (exfalso; omega)
    | exact hw.2 ⟨h2, by omega, by omega, by decide⟩
    | exact ⟨trivial, by rw [if_pos hw]⟩
    | (refine ⟨trivial, ?_⟩; rw [if_neg hw.1.1.1.1, if_pos hw.2]; exact Prod.ext rfl (Prod.ext hw.2.symm rfl))
    | (refine ⟨trivial, ?_⟩
       rw [if_neg hw.1.1.1.1.1]
       have hf := linesL_fact ((ls.map bI).drop (Int.toNat 0)) (0 + 1) (by decide)
       first
         | (rw [if_pos hw.2]; exact Prod.ext rfl (Prod.ext hw.2.symm (Prod.ext (hf.1 hw.2).symm rfl)))
         | (rw [if_neg hw.2]; exact Prod.ext (hf.2 hw.2).1.symm rfl))
    | trace_state
theorem tokF.fn   : FnOk Tryd.prog tokF := fn_evalH (l := [(0, tokL)]) (lf := 1000) (fun _ => cfOf_ok (fns_cons tsuf2.fn (fns_cons splitF.fn (fns_nil _)))) _ (lps_cons (tokL.lp) (lps_nil _ _)) (by kernel_rfl) (fun s hx => Hid.of (tokF.eq  s) (tokF.ok  s hx))
end Go.Proofs.YtcmffeaoailoiaaDoor.D

namespace Go.Proofs.YtcmffeaoailoiaaDoor.D
open Go Go.EV Go.Proofs
set_option linter.unusedVariables false
set_option linter.unusedSimpArgs false
set_option maxRecDepth 100000
noncomputable def letF  : Face := ⟨21, [.v (.int .u8)], fun c => none,
  [⟨false, [.v .bool], fun c => letC c, fun c => none⟩]⟩
noncomputable def letF.T (c : Int) : Prop := ((True ∧ decide (c ≥ (97 : Int)) = true) ∧ decide (c ≤ (122 : Int)) = true → True ∧ true = letC c) ∧ (((True ∧ decide (c ≥ (97 : Int)) = true) ∧ decide (c ≤ (122 : Int)) = false) ∧ decide (c ≥ (65 : Int)) = true → True ∧ decide (c ≤ (90 : Int)) = letC c) ∧ (((True ∧ decide (c ≥ (97 : Int)) = true) ∧ decide (c ≤ (122 : Int)) = false) ∧ decide (c ≥ (65 : Int)) = false → True ∧ false = letC c) ∧ ((True ∧ decide (c ≥ (97 : Int)) = false) ∧ decide (c ≥ (65 : Int)) = true → True ∧ decide (c ≤ (90 : Int)) = letC c) ∧ ((True ∧ decide (c ≥ (97 : Int)) = false) ∧ decide (c ≥ (65 : Int)) = false → True ∧ false = letC c) ∧ (True)
theorem letF.ok  (c : Int) : letF.T  c := by
  rw [letF.T, letC]
  ((repeat' (first | exact trivial | apply And.intro)) <;> (intro hw; (try (simp only [true_and, and_true, decide_eq_true_eq, decide_eq_false_iff_not, beq_iff_eq, bne_iff_ne, beq_eq_false_iff_ne, bne_eq_false_iff_eq, ne_eq, Bool.not_eq_true, Bool.not_eq_false, not_true_eq_false, not_false_eq_true, Bool.not_eq_eq_eq_not, Bool.not_true, Bool.not_false, forall_const, imp_self, Bool.true_eq_false, Bool.false_eq_true, reduceCtorEq] at hw)); (try first | (exfalso; omega) | exact ⟨trivial, rfl⟩ | exact (hw hx).elim | exact (hw.2 hx).elim)))
  all_goals first
    | (refine ⟨trivial, ?_⟩; rw [Bool.eq_iff_iff]; simp only [Bool.or_eq_true, decide_eq_true_eq, true_iff, false_iff, Bool.false_eq_true]; omega)
    | trace_state
noncomputable def rnL  : LFace := ⟨[0, 3], [.v .str, .v (.int .i64)], fun (s, i) => some (0 ≤ i ∧ i ≤ s.size ∧ s.size ≤ 4000000),
  [⟨.normal, [], [], fun (s, i) => (), fun (s, i) => some (((bI s).drop i.toNat).all alnC = true)⟩,
   ⟨.ret, [2], [.v .bool], fun (s, i) => false, fun (s, i) => some (((bI s).drop i.toNat).all alnC = false)⟩]⟩
def refAt (t : ByteArray) (no col i : Int) : Scn := refL (t.size + 1) no col ((bI t).drop i.toNat)
theorem refAt_end {t : ByteArray} {no col i : Int} (h : ¬ i < (t.size : Int)) : refAt t no col i = ([], 0, 0) := by
  rw [refAt, List.drop_eq_nil_of_le (by rw [bI_len]; omega), refL]
def addNl (t : ByteArray) : ByteArray := if 0 < t.size ∧ ¬ XW.bt t ((t.size : Int) - 1) = 10 then t ++ nlB else t
def refS (t : ByteArray) : Scn := refAt (addNl t) 1 1 0
theorem bI_inj {a b : ByteArray} (h : bI a = bI b) : a = b := by
  have := (List.map_inj_right (fun x y e => by
    have e2 : (x.toNat : Int) = (y.toNat : Int) := e
    exact UInt8.toNat_inj.1 (by omega))).1 h
  exact ByteArray.ext (Array.ext' this)
theorem toList_bI (a b : ByteArray) : (a.toList == b.toList) = decide (bI a = bI b) := by
  rw [Bool.eq_iff_iff, beq_iff_eq, decide_eq_true_eq, toList_data, toList_data]
  constructor
  · intro h; rw [bI, bI, h]
  · intro h; rw [bI_inj h]
theorem bI_app (a b : ByteArray) : bI (a ++ b) = bI a ++ bI b := by unfold bI; rw [ByteArray.toList_data_append, List.map_append]
theorem bI_nl : bI nlB = [10] := by decide
theorem last_bI {t : ByteArray} (h : 0 < t.size) : (bI t).drop (t.size - 1) = [XW.bt t ((t.size : Int) - 1)] ∧ bI t = (bI t).take (t.size - 1) ++ [XW.bt t ((t.size : Int) - 1)] := by
  have hl := bI_len t
  have e : (bI t).drop (t.size - 1) = [XW.bt t ((t.size : Int) - 1)] := by
    have h1 := drop_int (l := bI t) 0 (i := (t.size : Int) - 1) (by omega) (by omega)
    rw [← bt_bI (by omega) (by omega), show ((t.size : Int) - 1).toNat = t.size - 1 by omega] at h1
    rw [h1, List.drop_eq_nil_of_le (by omega)]
  exact ⟨e, by rw [← e, List.take_append_drop]⟩
theorem sufS_nl {t : ByteArray} (h : 0 < t.size) : sufS t nlB = decide (XW.bt t ((t.size : Int) - 1) = 10) := by
  have h1 : nlB.size = 1 := rfl
  rw [sufS, h1, decide_eq_true (show 1 ≤ t.size by omega), Bool.true_and, toList_bI, bI_ext, (last_bI h).1, bI_nl, decide_eq_decide]
  simp
theorem add_bI {t : ByteArray} (h : 0 < t.size) : bI (addNl t) = bI (tsufS t nlB) ++ [10] := by
  have h1 : nlB.size = 1 := rfl
  rw [addNl, tsufS, sufS_nl h, h1]
  by_cases hc : XW.bt t ((t.size : Int) - 1) = 10
  · rw [if_neg (fun h => h.2 hc), if_pos (decide_eq_true hc), ext_toB, bI_toB, List.drop_zero, List.map_take]
    have := (last_bI h).2
    rw [hc] at this
    exact this
  · rw [if_pos ⟨h, hc⟩, if_neg (by simpa using hc), bI_app, bI_nl]
theorem sp_split : ∀ l : List UInt8, ((spU 10 l).1 ++ [(spU 10 l).2]).map (fun q => q.map fun b => (b.toNat : Int)) = splitL (l.map fun b => (b.toNat : Int))
  | [] => rfl
  | c :: r => by
    have ih := sp_split r
    have hc : (c = 10) = ((c.toNat : Int) = 10) := by
      apply propext
      exact ⟨fun h => by rw [h]; rfl, fun h => UInt8.toNat_inj.1 (by have : (10 : UInt8).toNat = 10 := rfl; omega)⟩
    rw [spU, List.map_cons, splitL]
    by_cases h : c = 10
    · rw [if_pos h, if_pos (hc ▸ h), ← ih]; rfl
    · rw [if_neg h, if_neg (hc ▸ h), ← ih]
      cases hq : (spU 10 r).1 with
      | nil => rfl
      | cons p t => rfl
theorem pieces_split (s : ByteArray) : (piecesP s nlB).map bI = splitL (bI s) := by
  have h10 : nlB.get! 0 = 10 := rfl
  rw [piecesP, initP, lastP, h10, bI, ← sp_split, List.map_append, List.map_append, List.map_map]
  congr 1
theorem ref_is {t : ByteArray} (h : 0 < t.size) : refS t = linesAt (piecesP (tsufS t nlB) nlB) 0 := by
  have hj : joinL (splitL (bI (tsufS t nlB))) = bI (addNl t) := by rw [join_split, add_bI h]
  have hl := bI_len (addNl t)
  rw [refS, refAt, linesAt, pieces_split, show Int.toNat 0 = 0 from rfl, List.drop_zero, List.drop_zero, ← hj, refL_fuel _ ((joinL (splitL (bI (tsufS t nlB)))).length + 2) _ _ _ (by rw [hj]; omega) (by omega)]
  exact ref_lines _ (split_no _) _ 1 (by decide) (Nat.le_refl _)
theorem ref_nil {t : ByteArray} (h : t.size = 0) : refS t = ([], 0, 0) := by
  have : addNl t = t := by rw [addNl, if_neg (by omega)]
  rw [refS, this]; exact refAt_end (by omega)
theorem tok_ref (t : ByteArray) : tokS t = ((refS t).1, (refS t).2.1, (refS t).2.2, if (refS t).2.1 = 0 then 0 else 2) := by
  rcases Nat.eq_zero_or_pos t.size with h | h
  · rw [ref_nil h, tokS, if_pos h]; rfl
  · rw [ref_is h, tokS, if_neg (by omega)]
noncomputable def keepF  : Face := ⟨15, [.v .str, .v (.int .i64)], fun (s, n) => some (0 ≤ n ∧ n ≤ 1000),
  [⟨false, [.v .str], fun (s, n) => s.extract 0 (min s.size n.toNat), fun (s, n) => none⟩]⟩
noncomputable def keepF.g  (s : ByteArray) (n : Int) : Prop := GoodFA Tryd.prog (cfOf []) [] 1000 keepF (s, n)
noncomputable def keepF.T (s : ByteArray) (n : Int) : Prop := (True ∧ (0 : Int) ≤ (0 : Int) ∧ ((0 : Int) ≤ if n < (↑s.size : Int) then n else (↑s.size : Int)) ∧ (if n < (↑s.size : Int) then n else (↑s.size : Int)) ≤ (↑s.size : Int) →
  True ∧ s.extract (Int.toNat (0 : Int)) (if n < (↑s.size : Int) then n else (↑s.size : Int)).toNat = s.extract (0 : Nat) (min s.size n.toNat)) ∧ (True ∧ ¬((0 : Int) ≤ (0 : Int) ∧ ((0 : Int) ≤ if n < (↑s.size : Int) then n else (↑s.size : Int)) ∧ (if n < (↑s.size : Int) then n else (↑s.size : Int)) ≤ (↑s.size : Int)) → False) ∧ (True)
theorem keepF.eq  (s : ByteArray) (n : Int) : keepF.g  s n = keepF.T  s n := by kernel_rfl
theorem keepF.ok  (s : ByteArray) (n : Int) (hx : 0 ≤ n ∧ n ≤ 1000) : keepF.T  s n := by
  obtain ⟨h1, h2⟩ := hx
  have e : (if n < (s.size : Int) then n else (s.size : Int)) = ((min s.size n.toNat : Nat) : Int) := by
    by_cases h : n < (s.size : Int)
    · rw [if_pos h]; omega
    · rw [if_neg h]; omega
  rw [keepF.T, e]
  ((repeat' (first | exact trivial | apply And.intro)) <;> (intro hw; (try (simp only [true_and, and_true, decide_eq_true_eq, decide_eq_false_iff_not, beq_iff_eq, bne_iff_ne, beq_eq_false_iff_ne, bne_eq_false_iff_eq, ne_eq, Bool.not_eq_true, Bool.not_eq_false, not_true_eq_false, not_false_eq_true, Bool.not_eq_eq_eq_not, Bool.not_true, Bool.not_false, forall_const, imp_self, Bool.true_eq_false, Bool.false_eq_true, reduceCtorEq] at hw)); (try first | (exfalso; omega) | exact ⟨trivial, rfl⟩ | exact (hw hx).elim | exact (hw.2 hx).elim)))
  all_goals first
    | (exfalso; omega)
    | exact ⟨trivial, rfl⟩
    | trace_state
theorem keepF.fn   : FnOk Tryd.prog keepF := fn_evalH (l := []) (lf := 1000) (fun _ => cfOf_ok (fns_nil _)) _ (lps_nil _ _) (by kernel_rfl) (fun ⟨s, n⟩ hx => Hid.of (keepF.eq  s n) (keepF.ok  s n hx))
noncomputable def within  : Face := ⟨10, [.v (.int .i64), .v (.int .i64)], fun (v, n) => some (0 < n ∧ n ≤ 9223372036854775807),
  [⟨false, [.v (.int .i64)], fun (v, n) => v % n, fun (v, n) => none⟩]⟩
noncomputable def within.g  (v : Int) (n : Int) : Prop := GoodFA Tryd.prog (cfOf []) [] 1000 within (v, n)
noncomputable def within.T (v : Int) (n : Int) : Prop := (True ∧ decide (n < (1 : Int)) = true → True ∧ (0 : Int) = v % n) ∧ (((True ∧ decide (n < (1 : Int)) = false) ∧ n ≠ (0 : Int)) ∧ decide (v.tmod n < (0 : Int)) = true → True ∧ IntKind.i64.wrap (v.tmod n + n) = v % n) ∧ (((True ∧ decide (n < (1 : Int)) = false) ∧ n ≠ (0 : Int)) ∧ decide (v.tmod n < (0 : Int)) = false → True ∧ v.tmod n = v % n) ∧ ((True ∧ decide (n < (1 : Int)) = false) ∧ ¬n ≠ (0 : Int) → False) ∧ (True)
theorem within.eq  (v : Int) (n : Int) : within.g  v n = within.T  v n := by kernel_rfl
theorem within.ok  (v : Int) (n : Int) (hx : 0 < n ∧ n ≤ 9223372036854775807) : within.T  v n := by
  obtain ⟨h1, h2⟩ := hx
  have hr := Int.emod_nonneg v (show n ≠ 0 by omega)
  have hl := Int.emod_lt_of_pos v h1
  have ht : v.tmod n = v % n - ((if 0 ≤ v ∨ n ∣ v then 0 else n.natAbs : Nat) : Int) := Int.tmod_eq_emod
  ((repeat' (first | exact trivial | apply And.intro)) <;> (intro hw; (try (simp only [true_and, and_true, decide_eq_true_eq, decide_eq_false_iff_not, beq_iff_eq, bne_iff_ne, beq_eq_false_iff_ne, bne_eq_false_iff_eq, ne_eq, Bool.not_eq_true, Bool.not_eq_false, not_true_eq_false, not_false_eq_true, Bool.not_eq_eq_eq_not, Bool.not_true, Bool.not_false, forall_const, imp_self, Bool.true_eq_false, Bool.false_eq_true, reduceCtorEq] at hw)); (try first | (exfalso; omega) | exact ⟨trivial, rfl⟩ | exact (hw hx).elim | exact (hw.2 hx).elim)))
  · refine ⟨trivial, ?_⟩
    by_cases hc : 0 ≤ v ∨ n ∣ v
    · rw [if_pos hc] at ht; omega
    · rw [if_neg hc] at ht
      rw [wrapI64 (by omega) (by omega)]; omega
  · refine ⟨trivial, ?_⟩
    by_cases hc : 0 ≤ v ∨ n ∣ v
    · rw [if_pos hc] at ht; omega
    · rw [if_neg hc] at ht; omega
theorem within.fn   : FnOk Tryd.prog within := fn_evalH (l := []) (lf := 1000) (fun _ => cfOf_ok (fns_nil _)) _ (lps_nil _ _) (by kernel_rfl) (fun ⟨v, n⟩ hx => Hid.of (within.eq  v n) (within.ok  v n hx))
def pickT (ls : List ByteArray) : List Int → ByteArray → ByteArray
  | [], t => t
  | p :: r, t => pickT ls r (t ++ ls.getD (p % (ls.length : Int)).toNat ByteArray.empty)
def okW (ls : List ByteArray) : Prop := ls.length = 22 ∧ ∀ p ∈ ls, p.size ≤ 11
theorem pickT_size {ls : List ByteArray} (h : okW ls) : ∀ (l : List Int) (t : ByteArray), (pickT ls l t).size ≤ t.size + 11 * l.length
  | [], t => Nat.le_add_right _ _
  | p :: r, t => by
    have ih := pickT_size h r (t ++ ls.getD (p % (ls.length : Int)).toNat ByteArray.empty)
    have hl := Int.emod_lt_of_pos p (show (0 : Int) < (ls.length : Int) by rw [h.1]; decide)
    have hr := Int.emod_nonneg p (show (ls.length : Int) ≠ 0 by rw [h.1]; decide)
    have hi : (p % (ls.length : Int)).toNat < ls.length := by omega
    have := h.2 _ (List.getElem_mem hi)
    rw [ByteArray.size_append, List.getD_eq_getElem?_getD, List.getElem?_eq_getElem hi, Option.getD_some] at ih
    rw [pickT, List.length_cons, List.getD_eq_getElem?_getD, List.getElem?_eq_getElem hi, Option.getD_some]
    omega
noncomputable def txL  : LFace := ⟨[1, 7, 8, 9], [.v (.sl (.int .i64)), .v (.sl .str), .v .str, .v (.int .i64)], fun (l, ls, t, i) => some (okW ls ∧ 0 ≤ i ∧ i ≤ 16 ∧ (t.size : Int) ≤ 11 * i),
  [⟨.normal, [8], [.v .str], fun (l, ls, t, i) => pickT ls ((l.take 16).drop i.toNat) t, fun (l, ls, t, i) => none⟩]⟩
noncomputable def txL.mu  : dens txL.sh → Nat := fun (l, ls, t, i) => (16 - i).toNat
noncomputable def txL.g  (l : List Int) (ls : List ByteArray) (t : ByteArray) (i : Int) : Prop := GoodLA Tryd.prog (cfOf [within]) [] 1000 12 0 txL txL.mu (l, ls, t, i)
noncomputable def txL.q2 (l : List Int) (i : Int) : Prop := (True ∧ l.length ≤ (9223372036854775807 : Nat)) ∧ decide (i < (↑l.length : Int)) = true
noncomputable def txL.q0 (l : List Int) (ls : List ByteArray) (i : Int) : Prop := (((txL.q2 l i) ∧ decide (i < (16 : Int)) = true) ∧ (0 : Int) ≤ i ∧ i < (↑l.length : Int)) ∧ ls.length ≤ (9223372036854775807 : Nat)
noncomputable def txL.q1 (l : List Int) (ls : List ByteArray) (i : Int) : Prop := ((txL.q0 l ls i) ∧ (0 : Int) < (↑ls.length : Int) ∧ (↑ls.length : Int) ≤ (9223372036854775807 : Int)) ∧ (0 : Int) ≤ l.getD i.toNat (0 : Int) % (↑ls.length : Int) ∧ l.getD i.toNat (0 : Int) % (↑ls.length : Int) < (↑ls.length : Int)
noncomputable def txL.T (l : List Int) (ls : List ByteArray) (t : ByteArray) (i : Int) : Prop := ((txL.q0 l ls i) ∧ ¬((0 : Int) < (↑ls.length : Int) ∧ (↑ls.length : Int) ≤ (9223372036854775807 : Int)) → False) ∧ ((txL.q1 l ls i) ∧ t.size + (ls.getD (l.getD i.toNat (0 : Int) % (↑ls.length : Int)).toNat ByteArray.empty).size ≤ (9223372036854775807 : Nat) → (okW ls ∧ (0 : Int) ≤ IntKind.i64.wrap (i + (1 : Int)) ∧ IntKind.i64.wrap (i + (1 : Int)) ≤ (16 : Int) ∧ (↑(t ++ ls.getD (l.getD i.toNat (0 : Int) % (↑ls.length : Int)).toNat ByteArray.empty).size : Int) ≤ (11 : Int) * IntKind.i64.wrap (i + (1 : Int))) ∧ txL.mu (l, ls, t ++ ls.getD (l.getD i.toNat (0 : Int) % (↑ls.length : Int)).toNat ByteArray.empty, IntKind.i64.wrap (i + (1 : Int))) < txL.mu (l, ls, t, i) ∧ (True → True ∧ pickT ls (List.drop (IntKind.i64.wrap (i + (1 : Int))).toNat (List.take (16 : Nat) l)) (t ++ ls.getD (l.getD i.toNat (0 : Int) % (↑ls.length : Int)).toNat ByteArray.empty) = pickT ls (List.drop i.toNat (List.take (16 : Nat) l)) t) ∧ True) ∧ ((txL.q1 l ls i) ∧ ¬t.size + (ls.getD (l.getD i.toNat (0 : Int) % (↑ls.length : Int)).toNat ByteArray.empty).size ≤ (9223372036854775807 : Nat) → False) ∧ (((txL.q0 l ls i) ∧ (0 : Int) < (↑ls.length : Int) ∧ (↑ls.length : Int) ≤ (9223372036854775807 : Int)) ∧ ¬((0 : Int) ≤ l.getD i.toNat (0 : Int) % (↑ls.length : Int) ∧ l.getD i.toNat (0 : Int) % (↑ls.length : Int) < (↑ls.length : Int)) → False) ∧ (((txL.q2 l i) ∧ decide (i < (16 : Int)) = true) ∧ ¬((0 : Int) ≤ i ∧ i < (↑l.length : Int)) → False) ∧ ((txL.q2 l i) ∧ decide (i < (16 : Int)) = false → True ∧ t = pickT ls (List.drop i.toNat (List.take (16 : Nat) l)) t) ∧ ((True ∧ l.length ≤ (9223372036854775807 : Nat)) ∧ decide (i < (↑l.length : Int)) = false → True ∧ t = pickT ls (List.drop i.toNat (List.take (16 : Nat) l)) t) ∧ (True)
theorem txL.eq  (l : List Int) (ls : List ByteArray) (t : ByteArray) (i : Int) : txL.g  l ls t i = txL.T  l ls t i := by kernel_rfl
theorem txL.ok  (l : List Int) (ls : List ByteArray) (t : ByteArray) (i : Int) (hx : okW ls ∧ 0 ≤ i ∧ i ≤ 16 ∧ (t.size : Int) ≤ 11 * i) : txL.T  l ls t i := by
  obtain ⟨⟨h0, h1⟩, h2, h3, h4⟩ := hx
  delta txL.T txL.q2 txL.q0 txL.q1
  rw [wrapI64 (x := i + 1) (by omega) (by omega)]
  by_cases hi : i < (l.length : Int) ∧ i < 16
  · have hl := Int.emod_lt_of_pos (l.getD i.toNat 0) (show (0 : Int) < (ls.length : Int) by rw [h0]; decide)
    have hr := Int.emod_nonneg (l.getD i.toNat 0) (show (ls.length : Int) ≠ 0 by rw [h0]; decide)
    have hk : (l.getD i.toNat 0 % (ls.length : Int)).toNat < ls.length := by omega
    have hs : (ls.getD (l.getD i.toNat 0 % (ls.length : Int)).toNat ByteArray.empty).size ≤ 11 := by
      rw [List.getD_eq_getElem?_getD, List.getElem?_eq_getElem hk]; exact h1 _ (List.getElem_mem hk)
    have hd : (l.take 16).drop i.toNat = l.getD i.toNat 0 :: (l.take 16).drop (i + 1).toNat := by
      have e := drop_int (l := l.take 16) 0 h2 (by rw [List.length_take]; omega)
      rw [List.getD_eq_getElem?_getD, List.getElem?_take_of_lt (by omega), ← List.getD_eq_getElem?_getD] at e
      exact e
    rw [hd, pickT, ByteArray.size_append]
    generalize ls.getD (l.getD i.toNat 0 % (ls.length : Int)).toNat ByteArray.empty = q at *
    generalize l.getD i.toNat 0 % (ls.length : Int) = k at *
    ((repeat' (first | exact trivial | apply And.intro)) <;> (intro hw; (try (simp only [true_and, and_true, decide_eq_true_eq, decide_eq_false_iff_not, beq_iff_eq, bne_iff_ne, beq_eq_false_iff_ne, bne_eq_false_iff_eq, ne_eq, Bool.not_eq_true, Bool.not_eq_false, not_true_eq_false, not_false_eq_true, Bool.not_eq_eq_eq_not, Bool.not_true, Bool.not_false, forall_const, imp_self, Bool.true_eq_false, Bool.false_eq_true, reduceCtorEq] at hw)); (try first | (exfalso; omega) | exact ⟨trivial, rfl⟩ | exact (hw hx).elim | exact (hw.2 hx).elim)))
    all_goals first
      | (exfalso; omega)
      | exact ⟨⟨⟨h0, h1⟩, by omega, by omega, by omega⟩, by simp only [txL.mu]; omega, fun _ => ⟨trivial, rfl⟩, trivial⟩
      | trace_state
  · rw [show (l.take 16).drop i.toNat = [] from List.drop_eq_nil_of_le (by rw [List.length_take]; omega), pickT]
    ((repeat' (first | exact trivial | apply And.intro)) <;> (intro hw; (try (simp only [true_and, and_true, decide_eq_true_eq, decide_eq_false_iff_not, beq_iff_eq, bne_iff_ne, beq_eq_false_iff_ne, bne_eq_false_iff_eq, ne_eq, Bool.not_eq_true, Bool.not_eq_false, not_true_eq_false, not_false_eq_true, Bool.not_eq_eq_eq_not, Bool.not_true, Bool.not_false, forall_const, imp_self, Bool.true_eq_false, Bool.false_eq_true, reduceCtorEq] at hw)); (try first | (exfalso; omega) | exact ⟨trivial, rfl⟩ | exact (hw hx).elim | exact (hw.2 hx).elim)))
    all_goals first
      | (exfalso; omega)
      | exact ⟨trivial, trivial⟩
      | trace_state
theorem txL.lp   : LpAt Tryd.prog 12 0 txL := lp_evalH (l := []) (lf := 1000) (fun _ => cfOf_ok (fns_cons within.fn (fns_nil _))) (lps_nil _ _) (by kernel_rfl) _ (txL.mu ) (fun ⟨l, ls, t, i⟩ hx => Hid.of (txL.eq  l ls t i) (txL.ok  l ls t i hx))
def wordsW : List ByteArray := [⟨#[83]⟩, ⟨#[97]⟩, ⟨#[65, 98, 99]⟩, ⟨#[98, 49]⟩, ⟨#[58]⟩, ⟨#[124]⟩, ⟨#[32]⟩, ⟨#[32, 32]⟩, ⟨#[10]⟩, ⟨#[35, 32, 110, 111, 32, 58, 32, 124, 32, 65, 10]⟩, ⟨#[83, 58, 32, 97, 32, 83, 32, 124, 32, 98, 10]⟩, ⟨#[65, 58]⟩, ⟨#[84]⟩, ⟨#[97, 98, 99, 100, 101, 102, 103, 104]⟩, ⟨#[97, 98, 99, 100, 101, 102, 103, 104, 105]⟩, ⟨#[49, 97]⟩, ⟨#[120, 57, 90]⟩, ⟨#[35]⟩, ⟨#[59]⟩, ⟨#[195, 169]⟩, ⟨#[9]⟩, ⟨#[65, 98, 95]⟩]
theorem wordsW_ok : okW wordsW := ⟨rfl, by decide⟩
def textS (s : ByteArray) (l : List Int) (r : Bool) : ByteArray := if r = true then s.extract 0 (min s.size 90) else pickT wordsW (l.take 16) ⟨#[]⟩
theorem textS_size (s : ByteArray) (l : List Int) (r : Bool) : (textS s l r).size ≤ 200 := by
  rw [textS]; split
  · rw [ByteArray.size_extract]; omega
  · have := pickT_size wordsW_ok (l.take 16) ⟨#[]⟩
    have h2 : (l.take 16).length ≤ 16 := List.length_take_le _ _
    have h3 : (ByteArray.mk #[]).size = 0 := rfl
    omega
noncomputable def textF  : Face := ⟨12, [.v .str, .v (.sl (.int .i64)), .v .bool], fun (s, l, r) => none,
  [⟨false, [.v .str], fun (s, l, r) => textS s l r, fun (s, l, r) => none⟩]⟩
noncomputable def textF.g  (s : ByteArray) (l : List Int) (r : Bool) : Prop := GoodFA Tryd.prog (cfOf [keepF]) [(0, txL)] 1000 textF (s, l, r)
noncomputable def textF.T (s : ByteArray) (l : List Int) (r : Bool) : Prop := ((True ∧ r = true) ∧ ¬((0 : Int) ≤ (90 : Int) ∧ (90 : Int) ≤ (1000 : Int)) → False) ∧ ((True ∧ r = true) ∧ (0 : Int) ≤ (90 : Int) ∧ (90 : Int) ≤ (1000 : Int) → True ∧ s.extract (0 : Nat) (min s.size (Int.toNat (90 : Int))) = textS s l r) ∧ ((True ∧ r = false) ∧ ¬(okW [ByteArray.mk #[(83 : UInt8)], ByteArray.mk #[(97 : UInt8)], ByteArray.mk #[(65 : UInt8), (98 : UInt8), (99 : UInt8)], ByteArray.mk #[(98 : UInt8), (49 : UInt8)], ByteArray.mk #[(58 : UInt8)], ByteArray.mk #[(124 : UInt8)], ByteArray.mk #[(32 : UInt8)], ByteArray.mk #[(32 : UInt8), (32 : UInt8)], nlB, ByteArray.mk #[(35 : UInt8), (32 : UInt8), (110 : UInt8), (111 : UInt8), (32 : UInt8), (58 : UInt8), (32 : UInt8), (124 : UInt8), (32 : UInt8), (65 : UInt8), (10 : UInt8)], ByteArray.mk #[(83 : UInt8), (58 : UInt8), (32 : UInt8), (97 : UInt8), (32 : UInt8), (83 : UInt8), (32 : UInt8), (124 : UInt8), (32 : UInt8), (98 : UInt8), (10 : UInt8)], ByteArray.mk #[(65 : UInt8), (58 : UInt8)], ByteArray.mk #[(84 : UInt8)], ByteArray.mk #[(97 : UInt8), (98 : UInt8), (99 : UInt8), (100 : UInt8), (101 : UInt8), (102 : UInt8), (103 : UInt8), (104 : UInt8)], ByteArray.mk #[(97 : UInt8), (98 : UInt8), (99 : UInt8), (100 : UInt8), (101 : UInt8), (102 : UInt8), (103 : UInt8), (104 : UInt8), (105 : UInt8)], ByteArray.mk #[(49 : UInt8), (97 : UInt8)], ByteArray.mk #[(120 : UInt8), (57 : UInt8), (90 : UInt8)], ByteArray.mk #[(35 : UInt8)], ByteArray.mk #[(59 : UInt8)], ByteArray.mk #[(195 : UInt8), (169 : UInt8)], ByteArray.mk #[(9 : UInt8)], ByteArray.mk #[(65 : UInt8), (98 : UInt8), (95 : UInt8)]] ∧ (0 : Int) ≤ (0 : Int) ∧ (0 : Int) ≤ (16 : Int) ∧ (↑(ByteArray.mk #[]).size : Int) ≤ (11 : Int) * (0 : Int)) →
  False) ∧ ((True ∧ r = false) ∧ okW [ByteArray.mk #[(83 : UInt8)], ByteArray.mk #[(97 : UInt8)], ByteArray.mk #[(65 : UInt8), (98 : UInt8), (99 : UInt8)], ByteArray.mk #[(98 : UInt8), (49 : UInt8)], ByteArray.mk #[(58 : UInt8)], ByteArray.mk #[(124 : UInt8)], ByteArray.mk #[(32 : UInt8)], ByteArray.mk #[(32 : UInt8), (32 : UInt8)], nlB, ByteArray.mk #[(35 : UInt8), (32 : UInt8), (110 : UInt8), (111 : UInt8), (32 : UInt8), (58 : UInt8), (32 : UInt8), (124 : UInt8), (32 : UInt8), (65 : UInt8), (10 : UInt8)], ByteArray.mk #[(83 : UInt8), (58 : UInt8), (32 : UInt8), (97 : UInt8), (32 : UInt8), (83 : UInt8), (32 : UInt8), (124 : UInt8), (32 : UInt8), (98 : UInt8), (10 : UInt8)], ByteArray.mk #[(65 : UInt8), (58 : UInt8)], ByteArray.mk #[(84 : UInt8)], ByteArray.mk #[(97 : UInt8), (98 : UInt8), (99 : UInt8), (100 : UInt8), (101 : UInt8), (102 : UInt8), (103 : UInt8), (104 : UInt8)], ByteArray.mk #[(97 : UInt8), (98 : UInt8), (99 : UInt8), (100 : UInt8), (101 : UInt8), (102 : UInt8), (103 : UInt8), (104 : UInt8), (105 : UInt8)], ByteArray.mk #[(49 : UInt8), (97 : UInt8)], ByteArray.mk #[(120 : UInt8), (57 : UInt8), (90 : UInt8)], ByteArray.mk #[(35 : UInt8)], ByteArray.mk #[(59 : UInt8)], ByteArray.mk #[(195 : UInt8), (169 : UInt8)], ByteArray.mk #[(9 : UInt8)], ByteArray.mk #[(65 : UInt8), (98 : UInt8), (95 : UInt8)]] ∧ (0 : Int) ≤ (0 : Int) ∧ (0 : Int) ≤ (16 : Int) ∧ (↑(ByteArray.mk #[]).size : Int) ≤ (11 : Int) * (0 : Int) →
  True ∧ pickT [ByteArray.mk #[(83 : UInt8)], ByteArray.mk #[(97 : UInt8)], ByteArray.mk #[(65 : UInt8), (98 : UInt8), (99 : UInt8)], ByteArray.mk #[(98 : UInt8), (49 : UInt8)], ByteArray.mk #[(58 : UInt8)], ByteArray.mk #[(124 : UInt8)], ByteArray.mk #[(32 : UInt8)], ByteArray.mk #[(32 : UInt8), (32 : UInt8)], nlB, ByteArray.mk #[(35 : UInt8), (32 : UInt8), (110 : UInt8), (111 : UInt8), (32 : UInt8), (58 : UInt8), (32 : UInt8), (124 : UInt8), (32 : UInt8), (65 : UInt8), (10 : UInt8)], ByteArray.mk #[(83 : UInt8), (58 : UInt8), (32 : UInt8), (97 : UInt8), (32 : UInt8), (83 : UInt8), (32 : UInt8), (124 : UInt8), (32 : UInt8), (98 : UInt8), (10 : UInt8)], ByteArray.mk #[(65 : UInt8), (58 : UInt8)], ByteArray.mk #[(84 : UInt8)], ByteArray.mk #[(97 : UInt8), (98 : UInt8), (99 : UInt8), (100 : UInt8), (101 : UInt8), (102 : UInt8), (103 : UInt8), (104 : UInt8)], ByteArray.mk #[(97 : UInt8), (98 : UInt8), (99 : UInt8), (100 : UInt8), (101 : UInt8), (102 : UInt8), (103 : UInt8), (104 : UInt8), (105 : UInt8)], ByteArray.mk #[(49 : UInt8), (97 : UInt8)], ByteArray.mk #[(120 : UInt8), (57 : UInt8), (90 : UInt8)], ByteArray.mk #[(35 : UInt8)], ByteArray.mk #[(59 : UInt8)], ByteArray.mk #[(195 : UInt8), (169 : UInt8)], ByteArray.mk #[(9 : UInt8)], ByteArray.mk #[(65 : UInt8), (98 : UInt8), (95 : UInt8)]] (List.drop (Int.toNat (0 : Int)) (List.take (16 : Nat) l)) (ByteArray.mk #[]) = textS s l r) ∧ (True)
theorem textF.eq  (s : ByteArray) (l : List Int) (r : Bool) : textF.g  s l r = textF.T  s l r := by kernel_rfl
theorem textF.ok  (s : ByteArray) (l : List Int) (r : Bool) : textF.T  s l r := by
  have hk := wordsW_ok
  have h0 : ((ByteArray.mk #[]).size : Int) ≤ 11 * 0 := by decide
  rw [textF.T]
  ((repeat' (first | exact trivial | apply And.intro)) <;> (intro hw; (try (simp only [true_and, and_true, decide_eq_true_eq, decide_eq_false_iff_not, beq_iff_eq, bne_iff_ne, beq_eq_false_iff_ne, bne_eq_false_iff_eq, ne_eq, Bool.not_eq_true, Bool.not_eq_false, not_true_eq_false, not_false_eq_true, Bool.not_eq_eq_eq_not, Bool.not_true, Bool.not_false, forall_const, imp_self, Bool.true_eq_false, Bool.false_eq_true, reduceCtorEq] at hw)); (try first | (exfalso; omega) | exact ⟨trivial, rfl⟩ | exact (hw hx).elim | exact (hw.2 hx).elim)))
  all_goals first
    | (exfalso; omega)
    | exact hw.2 ⟨hk, by omega, by omega, h0⟩
    | exact ⟨trivial, by rw [textS, if_pos hw.1]; rfl⟩
    | exact ⟨trivial, by rw [textS, if_neg (by rw [hw.1]; exact Bool.false_ne_true)]; rfl⟩
    | trace_state
theorem textF.fn   : FnOk Tryd.prog textF := fn_evalH (l := [(0, txL)]) (lf := 1000) (fun _ => cfOf_ok (fns_cons keepF.fn (fns_nil _))) _ (lps_cons (txL.lp) (lps_nil _ _)) (by kernel_rfl) (fun ⟨s, l, r⟩ hx => Hid.of (textF.eq  s l r) (textF.ok  s l r))
end Go.Proofs.YtcmffeaoailoiaaDoor.D
