/- Calls that GramChecks makes, each carried out once over the memory that it is given. -/
import Derived.Test.YthofgbkmmedjnaaGreatDoorEWithin
import Derived.Test.YthofgbkmmedjnaaGreatDoorESplit
import Derived.Test.YthofgbkmmedjnaaGreatDoorProg
import Derived.KernelRfl
namespace Go.Proofs.YthofgbkmmedjnaaGreatDoor.E
open Go Go.EV Go.RowKit Go.Proofs
set_option linter.unusedVariables false
set_option maxRecDepth 100000
abbrev eI (n : Nat) : AV := .lit (.int .i64 (Int.ofNat n))
abbrev eU (n : Nat) : AV := .lit (.int .u8 (Int.ofNat n))
abbrev eS (l : List Nat) : AV := .lit (.string (sb l))
abbrev eT (l : List Nat) : AV := .lit (.string (sb l))
abbrev eB1 : AV := .lit (.bool true)
abbrev eB0 : AV := .lit (.bool false)
def mmGramChecks : Memo := [(6, [.any .i64, .lit (.int .i64 (Int.ofNat 17))], upto 17)]
theorem mmGramChecks_ok : ∀ x ∈ mmGramChecks, Contract Tryz.prog x := memo_cons (within_c 17 (by omega)) (memo_nil _)
theorem folGramChecks : Tryz.prog.follows .mixedOrders = true := by kernel_rfl
def hmGramChecks0 : List HE := []
theorem hmGramChecks0_ok : ∀ x ∈ hmGramChecks0, HOk Tryz.prog x := hmemo_nil _
def hGramChecks0 : HE := ⟨63, [(eU 83)], [], [((.val eB1), [])]⟩
theorem hGramChecks0_ok : HOk Tryz.prog hGramChecks0 := hok_eq mmGramChecks_ok hmGramChecks0_ok folGramChecks (lf := 100000) (k := 1000) (by kernel_rfl)
def hmGramChecks1 : List HE := hGramChecks0 :: hmGramChecks0
theorem hmGramChecks1_ok : ∀ x ∈ hmGramChecks1, HOk Tryz.prog x := hmemo_cons hGramChecks0_ok hmGramChecks0_ok
def hGramChecks1 : HE := ⟨63, [(eU 58)], [], [((.val eB0), [])]⟩
theorem hGramChecks1_ok : HOk Tryz.prog hGramChecks1 := hok_eq mmGramChecks_ok hmGramChecks1_ok folGramChecks (lf := 100000) (k := 1000) (by kernel_rfl)
def hmGramChecks2 : List HE := hGramChecks1 :: hmGramChecks1
theorem hmGramChecks2_ok : ∀ x ∈ hmGramChecks2, HOk Tryz.prog x := hmemo_cons hGramChecks1_ok hmGramChecks1_ok
def hGramChecks2 : HE := ⟨64, [(eU 58)], [], [((.val eB0), [])]⟩
theorem hGramChecks2_ok : HOk Tryz.prog hGramChecks2 := hok_eq mmGramChecks_ok hmGramChecks2_ok folGramChecks (lf := 100000) (k := 1000) (by kernel_rfl)
def hmGramChecks3 : List HE := hGramChecks2 :: hmGramChecks2
theorem hmGramChecks3_ok : ∀ x ∈ hmGramChecks3, HOk Tryz.prog x := hmemo_cons hGramChecks2_ok hmGramChecks2_ok
def hGramChecks3 : HE := ⟨31, [(eS [83])], [], [((.val eB1), [])]⟩
theorem hGramChecks3_ok : HOk Tryz.prog hGramChecks3 := hok_eq mmGramChecks_ok hmGramChecks3_ok folGramChecks (lf := 100000) (k := 1000) (by kernel_rfl)
def hmGramChecks4 : List HE := hGramChecks3 :: hmGramChecks3
theorem hmGramChecks4_ok : ∀ x ∈ hmGramChecks4, HOk Tryz.prog x := hmemo_cons hGramChecks3_ok hmGramChecks3_ok
def hGramChecks4 : HE := ⟨63, [(eU 97)], [], [((.val eB1), [])]⟩
theorem hGramChecks4_ok : HOk Tryz.prog hGramChecks4 := hok_eq mmGramChecks_ok hmGramChecks4_ok folGramChecks (lf := 100000) (k := 1000) (by kernel_rfl)
def hmGramChecks5 : List HE := hGramChecks4 :: hmGramChecks4
theorem hmGramChecks5_ok : ∀ x ∈ hmGramChecks5, HOk Tryz.prog x := hmemo_cons hGramChecks4_ok hmGramChecks4_ok
def hGramChecks5 : HE := ⟨63, [(eU 10)], [], [((.val eB0), [])]⟩
theorem hGramChecks5_ok : HOk Tryz.prog hGramChecks5 := hok_eq mmGramChecks_ok hmGramChecks5_ok folGramChecks (lf := 100000) (k := 1000) (by kernel_rfl)
def hmGramChecks6 : List HE := hGramChecks5 :: hmGramChecks5
theorem hmGramChecks6_ok : ∀ x ∈ hmGramChecks6, HOk Tryz.prog x := hmemo_cons hGramChecks5_ok hmGramChecks5_ok
def hGramChecks6 : HE := ⟨64, [(eU 10)], [], [((.val eB0), [])]⟩
theorem hGramChecks6_ok : HOk Tryz.prog hGramChecks6 := hok_eq mmGramChecks_ok hmGramChecks6_ok folGramChecks (lf := 100000) (k := 1000) (by kernel_rfl)
def hmGramChecks7 : List HE := hGramChecks6 :: hmGramChecks6
theorem hmGramChecks7_ok : ∀ x ∈ hmGramChecks7, HOk Tryz.prog x := hmemo_cons hGramChecks6_ok hmGramChecks6_ok
def hGramChecks7 : HE := ⟨31, [(eS [97])], [], [((.val eB1), [])]⟩
theorem hGramChecks7_ok : HOk Tryz.prog hGramChecks7 := hok_eq mmGramChecks_ok hmGramChecks7_ok folGramChecks (lf := 100000) (k := 1000) (by kernel_rfl)
def hmGramChecks8 : List HE := hGramChecks7 :: hmGramChecks7
theorem hmGramChecks8_ok : ∀ x ∈ hmGramChecks8, HOk Tryz.prog x := hmemo_cons hGramChecks7_ok hmGramChecks7_ok
def bgramChecks1 : Blk := ⟨[(eI 1),(eS [83]),(eI 1),(eI 1),(eI 3),(eS [58]),(eI 1),(eI 2),(eI 2),(eS [97]),(eI 1),(eI 4),(eI 5),(eS []),(eI 1),(eI 5)],79,[(3,16),(2,12),(1,8),(0,4)],4,0,false,3,none⟩
def hGramChecks8 : HE := ⟨51, [(eS [83,58,32,97,10])], [], [((.val (.tup [(.sl 0 3 0 4 none 4),(eI 0),(eI 0)])), [bgramChecks1])]⟩
theorem hGramChecks8_ok : HOk Tryz.prog hGramChecks8 := hok_eq mmGramChecks_ok hmGramChecks8_ok folGramChecks (lf := 100000) (k := 1000) (by kernel_rfl)
def hmGramChecks9 : List HE := hGramChecks8 :: hmGramChecks8
theorem hmGramChecks9_ok : ∀ x ∈ hmGramChecks9, HOk Tryz.prog x := hmemo_cons hGramChecks8_ok hmGramChecks8_ok
def bgramChecks2 : Blk := ⟨[(eI 1),(eS [83]),(eI 1),(eI 1),(.sl 2 1 0 2 none 4)],83,[(0,5)],1,0,false,0,none⟩
def bgramChecks3 : Blk := ⟨[(eI 2),(eS [97]),(eI 1),(eI 4),(eI 5),(eS []),(eI 1),(eI 5)],79,[(1,8),(0,4)],2,0,false,1,none⟩
def hGramChecks9 : HE := ⟨52, [(.sl 0 3 0 4 none 4)], [bgramChecks1], [((.val (.tup [(.sl 1 0 0 1 none 5),(.agg [(eI 0),(eS []),(eI 0),(eI 0)]),eB1])), [bgramChecks2, bgramChecks3])]⟩
theorem hGramChecks9_ok : HOk Tryz.prog hGramChecks9 := hok_eq mmGramChecks_ok hmGramChecks9_ok folGramChecks (lf := 100000) (k := 1000) (by kernel_rfl)
def hmGramChecks10 : List HE := hGramChecks9 :: hmGramChecks9
theorem hmGramChecks10_ok : ∀ x ∈ hmGramChecks10, HOk Tryz.prog x := hmemo_cons hGramChecks9_ok hmGramChecks9_ok
def bgramChecks4 : Blk := ⟨[(eS [97])],9,[(0,1)],1,0,false,0,none⟩
def bgramChecks5 : Blk := ⟨[(eS [83])],9,[(0,1)],1,0,false,0,none⟩
def bgramChecks6 : Blk := ⟨[(eI 100),(.sl 3 0 0 1 none 1)],32,[(0,2)],1,0,false,0,none⟩
def bgramChecks7 : Blk := ⟨[(eI 1)],3,[(0,1)],1,0,false,0,none⟩
def hGramChecks10 : HE := ⟨23, [(eS [83,58,32,97,10])], [], [((.val (.tup [(.agg [(.sl 0 0 0 1 none 1),(.sl 1 0 0 1 none 1),(.sl 2 0 0 1 none 2)]),(eI 0),(eI 0),(eI 0)])), [bgramChecks4, bgramChecks5, bgramChecks6, bgramChecks7])]⟩
theorem hGramChecks10_ok : HOk Tryz.prog hGramChecks10 := hok_eq mmGramChecks_ok hmGramChecks10_ok folGramChecks (lf := 100000) (k := 1000) (by kernel_rfl)
def hmGramChecks11 : List HE := hGramChecks10 :: hmGramChecks10
theorem hmGramChecks11_ok : ∀ x ∈ hmGramChecks11, HOk Tryz.prog x := hmemo_cons hGramChecks10_ok hmGramChecks10_ok
def hGramChecks11 : HE := ⟨7, [(eI 0)], [], [((.val (.agg [(.sl 0 0 0 1 none 1),(.sl 1 0 0 1 none 1),(.sl 2 0 0 1 none 2)])), [bgramChecks4, bgramChecks5, bgramChecks6, bgramChecks7])]⟩
theorem hGramChecks11_ok : HOk Tryz.prog hGramChecks11 := hok_eq mmGramChecks_ok hmGramChecks11_ok folGramChecks (lf := 100000) (k := 1000) (by kernel_rfl)
def hmGramChecks12 : List HE := hGramChecks11 :: hmGramChecks11
theorem hmGramChecks12_ok : ∀ x ∈ hmGramChecks12, HOk Tryz.prog x := hmemo_cons hGramChecks11_ok hmGramChecks11_ok
def tgramChecks1 : List Nat := [65,66,67,68,69,70,71,72,73,74,75,76,77,78,79,80,81,82,83,84,85,86,87,88,89,90,97,98,99,100,101,102,103,104,105,106,107,108,109,110,111,112,113,114,115,116,117,118,119,120,121,122,48,49,50,51,52,53,54,55,56,57]
def hGramChecks12 : HE := ⟨85, [(eT tgramChecks1)], [], [((.val (.tup [(.agg [eB0,eB0,eB0,eB0,eB0,eB0,eB0,eB0,eB0,eB0,eB0,eB0,eB0,eB0,eB0,eB0,eB0,eB0,eB0,eB0,eB0,eB0,eB0,eB0,eB0,eB0,eB0,eB0,eB0,eB0,eB0,eB0,eB0,eB0,eB0,eB0,eB0,eB0,eB0,eB0,eB0,eB0,eB0,eB0,eB0,eB0,eB0,eB0,eB1,eB1,eB1,eB1,eB1,eB1,eB1,eB1,eB1,eB1,eB0,eB0,eB0,eB0,eB0,eB0,eB0,eB1,eB1,eB1,eB1,eB1,eB1,eB1,eB1,eB1,eB1,eB1,eB1,eB1,eB1,eB1,eB1,eB1,eB1,eB1,eB1,eB1,eB1,eB1,eB1,eB1,eB1,eB0,eB0,eB0,eB0,eB0,eB0,eB1,eB1,eB1,eB1,eB1,eB1,eB1,eB1,eB1,eB1,eB1,eB1,eB1,eB1,eB1,eB1,eB1,eB1,eB1,eB1,eB1,eB1,eB1,eB1,eB1,eB1,eB0,eB0,eB0,eB0,eB0,eB0,eB0,eB0,eB0,eB0,eB0,eB0,eB0,eB0,eB0,eB0,eB0,eB0,eB0,eB0,eB0,eB0,eB0,eB0,eB0,eB0,eB0,eB0,eB0,eB0,eB0,eB0,eB0,eB0,eB0,eB0,eB0,eB0,eB0,eB0,eB0,eB0,eB0,eB0,eB0,eB0,eB0,eB0,eB0,eB0,eB0,eB0,eB0,eB0,eB0,eB0,eB0,eB0,eB0,eB0,eB0,eB0,eB0,eB0,eB0,eB0,eB0,eB0,eB0,eB0,eB0,eB0,eB0,eB0,eB0,eB0,eB0,eB0,eB0,eB0,eB0,eB0,eB0,eB0,eB0,eB0,eB0,eB0,eB0,eB0,eB0,eB0,eB0,eB0,eB0,eB0,eB0,eB0,eB0,eB0,eB0,eB0,eB0,eB0,eB0,eB0,eB0,eB0,eB0,eB0,eB0,eB0,eB0,eB0,eB0,eB0,eB0,eB0,eB0,eB0,eB0,eB0,eB0,eB0,eB0,eB0,eB0,eB0,eB0,eB0,eB0,eB0,eB0]),eB1])), [])]⟩
theorem hGramChecks12_ok : HOk Tryz.prog hGramChecks12 := hok_eq mmGramChecks_ok hmGramChecks12_ok folGramChecks (lf := 100000) (k := 1000) (by kernel_rfl)
def hmGramChecks13 : List HE := hGramChecks12 :: hmGramChecks12
theorem hmGramChecks13_ok : ∀ x ∈ hmGramChecks13, HOk Tryz.prog x := hmemo_cons hGramChecks12_ok hmGramChecks12_ok
def hGramChecks13 : HE := ⟨54, [(eS [97])], [], [((.val eB1), [])]⟩
theorem hGramChecks13_ok : HOk Tryz.prog hGramChecks13 := hok_eq mmGramChecks_ok hmGramChecks13_ok folGramChecks (lf := 100000) (k := 1000) (by kernel_rfl)
def hmGramChecks14 : List HE := hGramChecks13 :: hmGramChecks13
theorem hmGramChecks14_ok : ∀ x ∈ hmGramChecks14, HOk Tryz.prog x := hmemo_cons hGramChecks13_ok hmGramChecks13_ok
def hGramChecks14 : HE := ⟨54, [(eS [83])], [], [((.val eB1), [])]⟩
theorem hGramChecks14_ok : HOk Tryz.prog hGramChecks14 := hok_eq mmGramChecks_ok hmGramChecks14_ok folGramChecks (lf := 100000) (k := 1000) (by kernel_rfl)
def hmGramChecks15 : List HE := hGramChecks14 :: hmGramChecks14
theorem hmGramChecks15_ok : ∀ x ∈ hmGramChecks15, HOk Tryz.prog x := hmemo_cons hGramChecks14_ok hmGramChecks14_ok
def hGramChecks15 : HE := ⟨26, [(.agg [(.sl 0 0 0 1 none 1),(.sl 1 0 0 1 none 1),(.sl 2 0 0 1 none 2)])], [bgramChecks4, bgramChecks5, bgramChecks6, bgramChecks7], [((.val eB1), [])]⟩
theorem hGramChecks15_ok : HOk Tryz.prog hGramChecks15 := hok_eq mmGramChecks_ok hmGramChecks15_ok folGramChecks (lf := 100000) (k := 1000) (by kernel_rfl)
def hmGramChecks16 : List HE := hGramChecks15 :: hmGramChecks15
theorem hmGramChecks16_ok : ∀ x ∈ hmGramChecks16, HOk Tryz.prog x := hmemo_cons hGramChecks15_ok hmGramChecks15_ok
def bgramChecks8 : Blk := ⟨[(eI 100),(.sl 1 0 0 1 none 1)],32,[(0,2)],1,0,false,0,none⟩
def hGramChecks16 : HE := ⟨59, [(.sl 0 0 0 0 none 2),(.agg [(eI 100),(.sl 1 0 0 1 none 1)])], [bgramChecks8, bgramChecks7], [((.val eB0), [])]⟩
theorem hGramChecks16_ok : HOk Tryz.prog hGramChecks16 := hok_eq mmGramChecks_ok hmGramChecks16_ok folGramChecks (lf := 100000) (k := 1000) (by kernel_rfl)
def hmGramChecks17 : List HE := hGramChecks16 :: hmGramChecks16
theorem hmGramChecks17_ok : ∀ x ∈ hmGramChecks17, HOk Tryz.prog x := hmemo_cons hGramChecks16_ok hmGramChecks16_ok
def hGramChecks17 : HE := ⟨27, [(.agg [(.sl 0 0 0 1 none 1),(.sl 1 0 0 1 none 1),(.sl 2 0 0 1 none 2)])], [bgramChecks4, bgramChecks5, bgramChecks6, bgramChecks7], [((.val eB1), [])]⟩
theorem hGramChecks17_ok : HOk Tryz.prog hGramChecks17 := hok_eq mmGramChecks_ok hmGramChecks17_ok folGramChecks (lf := 100000) (k := 1000) (by kernel_rfl)
def hmGramChecks18 : List HE := hGramChecks17 :: hmGramChecks17
theorem hmGramChecks18_ok : ∀ x ∈ hmGramChecks18, HOk Tryz.prog x := hmemo_cons hGramChecks17_ok hmGramChecks17_ok
def hGramChecks18 : HE := ⟨8, [(.agg [(.sl 0 0 0 1 none 1),(.sl 1 0 0 1 none 1),(.sl 2 0 0 1 none 2)])], [bgramChecks4, bgramChecks5, bgramChecks6, bgramChecks7], [((.val (eI 0)), [])]⟩
theorem hGramChecks18_ok : HOk Tryz.prog hGramChecks18 := hok_eq mmGramChecks_ok hmGramChecks18_ok folGramChecks (lf := 100000) (k := 1000) (by kernel_rfl)
def hmGramChecks19 : List HE := hGramChecks18 :: hmGramChecks18
theorem hmGramChecks19_ok : ∀ x ∈ hmGramChecks19, HOk Tryz.prog x := hmemo_cons hGramChecks18_ok hmGramChecks18_ok
def hGramChecks19 : HE := ⟨63, [(eU 69)], [], [((.val eB1), [])]⟩
theorem hGramChecks19_ok : HOk Tryz.prog hGramChecks19 := hok_eq mmGramChecks_ok hmGramChecks19_ok folGramChecks (lf := 100000) (k := 1000) (by kernel_rfl)
def hmGramChecks20 : List HE := hGramChecks19 :: hmGramChecks19
theorem hmGramChecks20_ok : ∀ x ∈ hmGramChecks20, HOk Tryz.prog x := hmemo_cons hGramChecks19_ok hmGramChecks19_ok
def hGramChecks20 : HE := ⟨31, [(eS [69])], [], [((.val eB1), [])]⟩
theorem hGramChecks20_ok : HOk Tryz.prog hGramChecks20 := hok_eq mmGramChecks_ok hmGramChecks20_ok folGramChecks (lf := 100000) (k := 1000) (by kernel_rfl)
def hmGramChecks21 : List HE := hGramChecks20 :: hmGramChecks20
theorem hmGramChecks21_ok : ∀ x ∈ hmGramChecks21, HOk Tryz.prog x := hmemo_cons hGramChecks20_ok hmGramChecks20_ok
def hGramChecks21 : HE := ⟨63, [(eU 32)], [], [((.val eB0), [])]⟩
theorem hGramChecks21_ok : HOk Tryz.prog hGramChecks21 := hok_eq mmGramChecks_ok hmGramChecks21_ok folGramChecks (lf := 100000) (k := 1000) (by kernel_rfl)
def hmGramChecks22 : List HE := hGramChecks21 :: hmGramChecks21
theorem hmGramChecks22_ok : ∀ x ∈ hmGramChecks22, HOk Tryz.prog x := hmemo_cons hGramChecks21_ok hmGramChecks21_ok
def hGramChecks22 : HE := ⟨64, [(eU 32)], [], [((.val eB0), [])]⟩
theorem hGramChecks22_ok : HOk Tryz.prog hGramChecks22 := hok_eq mmGramChecks_ok hmGramChecks22_ok folGramChecks (lf := 100000) (k := 1000) (by kernel_rfl)
def hmGramChecks23 : List HE := hGramChecks22 :: hmGramChecks22
theorem hmGramChecks23_ok : ∀ x ∈ hmGramChecks23, HOk Tryz.prog x := hmemo_cons hGramChecks22_ok hmGramChecks22_ok
def hGramChecks23 : HE := ⟨63, [(eU 112)], [], [((.val eB1), [])]⟩
theorem hGramChecks23_ok : HOk Tryz.prog hGramChecks23 := hok_eq mmGramChecks_ok hmGramChecks23_ok folGramChecks (lf := 100000) (k := 1000) (by kernel_rfl)
def hmGramChecks24 : List HE := hGramChecks23 :: hmGramChecks23
theorem hmGramChecks24_ok : ∀ x ∈ hmGramChecks24, HOk Tryz.prog x := hmemo_cons hGramChecks23_ok hmGramChecks23_ok
def hGramChecks24 : HE := ⟨31, [(eS [112])], [], [((.val eB1), [])]⟩
theorem hGramChecks24_ok : HOk Tryz.prog hGramChecks24 := hok_eq mmGramChecks_ok hmGramChecks24_ok folGramChecks (lf := 100000) (k := 1000) (by kernel_rfl)
def hmGramChecks25 : List HE := hGramChecks24 :: hmGramChecks24
theorem hmGramChecks25_ok : ∀ x ∈ hmGramChecks25, HOk Tryz.prog x := hmemo_cons hGramChecks24_ok hmGramChecks24_ok
def hGramChecks25 : HE := ⟨63, [(eU 84)], [], [((.val eB1), [])]⟩
theorem hGramChecks25_ok : HOk Tryz.prog hGramChecks25 := hok_eq mmGramChecks_ok hmGramChecks25_ok folGramChecks (lf := 100000) (k := 1000) (by kernel_rfl)
def hmGramChecks26 : List HE := hGramChecks25 :: hmGramChecks25
theorem hmGramChecks26_ok : ∀ x ∈ hmGramChecks26, HOk Tryz.prog x := hmemo_cons hGramChecks25_ok hmGramChecks25_ok
def hGramChecks26 : HE := ⟨31, [(eS [84])], [], [((.val eB1), [])]⟩
theorem hGramChecks26_ok : HOk Tryz.prog hGramChecks26 := hok_eq mmGramChecks_ok hmGramChecks26_ok folGramChecks (lf := 100000) (k := 1000) (by kernel_rfl)
def hmGramChecks27 : List HE := hGramChecks26 :: hmGramChecks26
theorem hmGramChecks27_ok : ∀ x ∈ hmGramChecks27, HOk Tryz.prog x := hmemo_cons hGramChecks26_ok hmGramChecks26_ok
def hGramChecks27 : HE := ⟨63, [(eU 109)], [], [((.val eB1), [])]⟩
theorem hGramChecks27_ok : HOk Tryz.prog hGramChecks27 := hok_eq mmGramChecks_ok hmGramChecks27_ok folGramChecks (lf := 100000) (k := 1000) (by kernel_rfl)
def hmGramChecks28 : List HE := hGramChecks27 :: hmGramChecks27
theorem hmGramChecks28_ok : ∀ x ∈ hmGramChecks28, HOk Tryz.prog x := hmemo_cons hGramChecks27_ok hmGramChecks27_ok
def hGramChecks28 : HE := ⟨31, [(eS [109])], [], [((.val eB1), [])]⟩
theorem hGramChecks28_ok : HOk Tryz.prog hGramChecks28 := hok_eq mmGramChecks_ok hmGramChecks28_ok folGramChecks (lf := 100000) (k := 1000) (by kernel_rfl)
def hmGramChecks29 : List HE := hGramChecks28 :: hmGramChecks28
theorem hmGramChecks29_ok : ∀ x ∈ hmGramChecks29, HOk Tryz.prog x := hmemo_cons hGramChecks28_ok hmGramChecks28_ok
def hGramChecks29 : HE := ⟨63, [(eU 70)], [], [((.val eB1), [])]⟩
theorem hGramChecks29_ok : HOk Tryz.prog hGramChecks29 := hok_eq mmGramChecks_ok hmGramChecks29_ok folGramChecks (lf := 100000) (k := 1000) (by kernel_rfl)
def hmGramChecks30 : List HE := hGramChecks29 :: hmGramChecks29
theorem hmGramChecks30_ok : ∀ x ∈ hmGramChecks30, HOk Tryz.prog x := hmemo_cons hGramChecks29_ok hmGramChecks29_ok
def hGramChecks30 : HE := ⟨31, [(eS [70])], [], [((.val eB1), [])]⟩
theorem hGramChecks30_ok : HOk Tryz.prog hGramChecks30 := hok_eq mmGramChecks_ok hmGramChecks30_ok folGramChecks (lf := 100000) (k := 1000) (by kernel_rfl)
def hmGramChecks31 : List HE := hGramChecks30 :: hmGramChecks30
theorem hmGramChecks31_ok : ∀ x ∈ hmGramChecks31, HOk Tryz.prog x := hmemo_cons hGramChecks30_ok hmGramChecks30_ok
def hGramChecks31 : HE := ⟨63, [(eU 105)], [], [((.val eB1), [])]⟩
theorem hGramChecks31_ok : HOk Tryz.prog hGramChecks31 := hok_eq mmGramChecks_ok hmGramChecks31_ok folGramChecks (lf := 100000) (k := 1000) (by kernel_rfl)
def hmGramChecks32 : List HE := hGramChecks31 :: hmGramChecks31
theorem hmGramChecks32_ok : ∀ x ∈ hmGramChecks32, HOk Tryz.prog x := hmemo_cons hGramChecks31_ok hmGramChecks31_ok
def hGramChecks32 : HE := ⟨31, [(eS [105])], [], [((.val eB1), [])]⟩
theorem hGramChecks32_ok : HOk Tryz.prog hGramChecks32 := hok_eq mmGramChecks_ok hmGramChecks32_ok folGramChecks (lf := 100000) (k := 1000) (by kernel_rfl)
def hmGramChecks33 : List HE := hGramChecks32 :: hmGramChecks32
theorem hmGramChecks33_ok : ∀ x ∈ hmGramChecks33, HOk Tryz.prog x := hmemo_cons hGramChecks32_ok hmGramChecks32_ok
def hGramChecks33 : HE := ⟨63, [(eU 108)], [], [((.val eB1), [])]⟩
theorem hGramChecks33_ok : HOk Tryz.prog hGramChecks33 := hok_eq mmGramChecks_ok hmGramChecks33_ok folGramChecks (lf := 100000) (k := 1000) (by kernel_rfl)
def hmGramChecks34 : List HE := hGramChecks33 :: hmGramChecks33
theorem hmGramChecks34_ok : ∀ x ∈ hmGramChecks34, HOk Tryz.prog x := hmemo_cons hGramChecks33_ok hmGramChecks33_ok
def hGramChecks34 : HE := ⟨31, [(eS [108])], [], [((.val eB1), [])]⟩
theorem hGramChecks34_ok : HOk Tryz.prog hGramChecks34 := hok_eq mmGramChecks_ok hmGramChecks34_ok folGramChecks (lf := 100000) (k := 1000) (by kernel_rfl)
def hmGramChecks35 : List HE := hGramChecks34 :: hmGramChecks34
theorem hmGramChecks35_ok : ∀ x ∈ hmGramChecks35, HOk Tryz.prog x := hmemo_cons hGramChecks34_ok hmGramChecks34_ok
def hGramChecks35 : HE := ⟨63, [(eU 114)], [], [((.val eB1), [])]⟩
theorem hGramChecks35_ok : HOk Tryz.prog hGramChecks35 := hok_eq mmGramChecks_ok hmGramChecks35_ok folGramChecks (lf := 100000) (k := 1000) (by kernel_rfl)
def hmGramChecks36 : List HE := hGramChecks35 :: hmGramChecks35
theorem hmGramChecks36_ok : ∀ x ∈ hmGramChecks36, HOk Tryz.prog x := hmemo_cons hGramChecks35_ok hmGramChecks35_ok
def hGramChecks36 : HE := ⟨31, [(eS [114])], [], [((.val eB1), [])]⟩
theorem hGramChecks36_ok : HOk Tryz.prog hGramChecks36 := hok_eq mmGramChecks_ok hmGramChecks36_ok folGramChecks (lf := 100000) (k := 1000) (by kernel_rfl)
def hmGramChecks37 : List HE := hGramChecks36 :: hmGramChecks36
theorem hmGramChecks37_ok : ∀ x ∈ hmGramChecks37, HOk Tryz.prog x := hmemo_cons hGramChecks36_ok hmGramChecks36_ok
def bgramChecks9 : Blk := ⟨[(eI 1),(eS [69]),(eI 1),(eI 1),(eI 3),(eS [58]),(eI 1),(eI 2),(eI 1),(eS [69]),(eI 1),(eI 4),(eI 2),(eS [112]),(eI 1),(eI 6),(eI 1),(eS [84]),(eI 1),(eI 8),(eI 4),(eS [124]),(eI 1),(eI 10),(eI 1),(eS [84]),(eI 1),(eI 12),(eI 5),(eS []),(eI 1),(eI 13),(eI 1),(eS [84]),(eI 2),(eI 1),(eI 3),(eS [58]),(eI 2),(eI 2),(eI 1),(eS [84]),(eI 2),(eI 4),(eI 2),(eS [109]),(eI 2),(eI 6),(eI 1),(eS [70]),(eI 2),(eI 8),(eI 4),(eS [124]),(eI 2),(eI 10),(eI 1),(eS [70]),(eI 2),(eI 12),(eI 5),(eS []),(eI 2),(eI 13),(eI 1),(eS [70]),(eI 3),(eI 1),(eI 3),(eS [58]),(eI 3),(eI 2),(eI 2),(eS [105]),(eI 3),(eI 4),(eI 4),(eS [124]),(eI 3),(eI 6),(eI 2),(eS [108]),(eI 3),(eI 8),(eI 1),(eS [69]),(eI 3),(eI 10),(eI 2),(eS [114]),(eI 3),(eI 12),(eI 5),(eS []),(eI 3),(eI 13)],79,[(23,96),(22,92),(21,88),(20,84),(19,80),(18,76),(17,72),(16,68),(15,64),(14,60),(13,56),(12,52),(11,48),(10,44),(9,40),(8,36),(7,32),(6,28),(5,24),(4,20),(3,16),(2,12),(1,8),(0,4)],24,0,false,23,none⟩
def tgramChecks2 : List Nat := [69,58,32,69,32,112,32,84,32,124,32,84,10,84,58,32,84,32,109,32,70,32,124,32,70,10,70,58,32,105,32,124,32,108,32,69,32,114,10]
def hGramChecks37 : HE := ⟨51, [(eT tgramChecks2)], [], [((.val (.tup [(.sl 0 23 0 24 none 4),(eI 0),(eI 0)])), [bgramChecks9])]⟩
theorem hGramChecks37_ok : HOk Tryz.prog hGramChecks37 := hok_eq mmGramChecks_ok hmGramChecks37_ok folGramChecks (lf := 100000) (k := 1000) (by kernel_rfl)
def hmGramChecks38 : List HE := hGramChecks37 :: hmGramChecks37
theorem hmGramChecks38_ok : ∀ x ∈ hmGramChecks38, HOk Tryz.prog x := hmemo_cons hGramChecks37_ok hmGramChecks37_ok
def bgramChecks10 : Blk := ⟨[(eI 1),(eS [69]),(eI 1),(eI 1),(.sl 2 5 0 6 none 4),(eI 1),(eS [84]),(eI 2),(eI 1),(.sl 3 5 0 6 none 4),(eI 1),(eS [70]),(eI 3),(eI 1),(.sl 4 5 0 6 none 4)],83,[(2,15),(1,10),(0,5)],3,0,false,2,none⟩
def bgramChecks11 : Blk := ⟨[(eI 1),(eS [69]),(eI 1),(eI 4),(eI 2),(eS [112]),(eI 1),(eI 6),(eI 1),(eS [84]),(eI 1),(eI 8),(eI 4),(eS [124]),(eI 1),(eI 10),(eI 1),(eS [84]),(eI 1),(eI 12),(eI 5),(eS []),(eI 1),(eI 13)],79,[(5,24),(4,20),(3,16),(2,12),(1,8),(0,4)],6,0,false,5,none⟩
def bgramChecks12 : Blk := ⟨[(eI 1),(eS [84]),(eI 2),(eI 4),(eI 2),(eS [109]),(eI 2),(eI 6),(eI 1),(eS [70]),(eI 2),(eI 8),(eI 4),(eS [124]),(eI 2),(eI 10),(eI 1),(eS [70]),(eI 2),(eI 12),(eI 5),(eS []),(eI 2),(eI 13)],79,[(5,24),(4,20),(3,16),(2,12),(1,8),(0,4)],6,0,false,5,none⟩
def bgramChecks13 : Blk := ⟨[(eI 2),(eS [105]),(eI 3),(eI 4),(eI 4),(eS [124]),(eI 3),(eI 6),(eI 2),(eS [108]),(eI 3),(eI 8),(eI 1),(eS [69]),(eI 3),(eI 10),(eI 2),(eS [114]),(eI 3),(eI 12),(eI 5),(eS []),(eI 3),(eI 13)],79,[(5,24),(4,20),(3,16),(2,12),(1,8),(0,4)],6,0,false,5,none⟩
def hGramChecks38 : HE := ⟨52, [(.sl 0 23 0 24 none 4)], [bgramChecks9], [((.val (.tup [(.sl 1 2 0 3 none 5),(.agg [(eI 0),(eS []),(eI 0),(eI 0)]),eB1])), [bgramChecks10, bgramChecks11, bgramChecks12, bgramChecks13])]⟩
theorem hGramChecks38_ok : HOk Tryz.prog hGramChecks38 := hok_eq mmGramChecks_ok hmGramChecks38_ok folGramChecks (lf := 100000) (k := 1000) (by kernel_rfl)
def hmGramChecks39 : List HE := hGramChecks38 :: hmGramChecks38
theorem hmGramChecks39_ok : ∀ x ∈ hmGramChecks39, HOk Tryz.prog x := hmemo_cons hGramChecks38_ok hmGramChecks38_ok
def bgramChecks14 : Blk := ⟨[(eS [112]),(eS [109]),(eS [105]),(eS [108]),(eS [114])],9,[(4,5),(3,4),(2,3),(1,2),(0,1)],5,0,false,4,none⟩
def bgramChecks15 : Blk := ⟨[(eS [69]),(eS [84]),(eS [70])],9,[(2,3),(1,2),(0,1)],3,0,false,2,none⟩
def bgramChecks16 : Blk := ⟨[(eI 100),(.sl 3 2 0 3 none 1),(eI 100),(.sl 4 0 0 1 none 1),(eI 101),(.sl 5 2 0 3 none 1),(eI 101),(.sl 6 0 0 1 none 1),(eI 102),(.sl 7 0 0 1 none 1),(eI 102),(.sl 8 2 0 3 none 1)],32,[(5,12),(4,10),(3,8),(2,6),(1,4),(0,2)],6,0,false,5,none⟩
def bgramChecks17 : Blk := ⟨[(eI 100),(eI 1),(eI 101)],3,[(2,3),(1,2),(0,1)],3,0,false,2,none⟩
def bgramChecks18 : Blk := ⟨[(eI 101)],3,[(0,1)],1,0,false,0,none⟩
def bgramChecks19 : Blk := ⟨[(eI 101),(eI 2),(eI 102)],3,[(2,3),(1,2),(0,1)],3,0,false,2,none⟩
def bgramChecks20 : Blk := ⟨[(eI 102)],3,[(0,1)],1,0,false,0,none⟩
def bgramChecks21 : Blk := ⟨[(eI 3)],3,[(0,1)],1,0,false,0,none⟩
def bgramChecks22 : Blk := ⟨[(eI 4),(eI 100),(eI 5)],3,[(2,3),(1,2),(0,1)],3,0,false,2,none⟩
def hGramChecks39 : HE := ⟨23, [(eT tgramChecks2)], [], [((.val (.tup [(.agg [(.sl 0 4 0 5 none 1),(.sl 1 2 0 3 none 1),(.sl 2 5 0 6 none 2)]),(eI 0),(eI 0),(eI 0)])), [bgramChecks14, bgramChecks15, bgramChecks16, bgramChecks17, bgramChecks18, bgramChecks19, bgramChecks20, bgramChecks21, bgramChecks22])]⟩
theorem hGramChecks39_ok : HOk Tryz.prog hGramChecks39 := hok_eq mmGramChecks_ok hmGramChecks39_ok folGramChecks (lf := 100000) (k := 1000) (by kernel_rfl)
def hmGramChecks40 : List HE := hGramChecks39 :: hmGramChecks39
theorem hmGramChecks40_ok : ∀ x ∈ hmGramChecks40, HOk Tryz.prog x := hmemo_cons hGramChecks39_ok hmGramChecks39_ok
def hGramChecks40 : HE := ⟨7, [(eI 5)], [], [((.val (.agg [(.sl 0 4 0 5 none 1),(.sl 1 2 0 3 none 1),(.sl 2 5 0 6 none 2)])), [bgramChecks14, bgramChecks15, bgramChecks16, bgramChecks17, bgramChecks18, bgramChecks19, bgramChecks20, bgramChecks21, bgramChecks22])]⟩
theorem hGramChecks40_ok : HOk Tryz.prog hGramChecks40 := hok_eq mmGramChecks_ok hmGramChecks40_ok folGramChecks (lf := 100000) (k := 1000) (by kernel_rfl)
def hmGramChecks41 : List HE := hGramChecks40 :: hmGramChecks40
theorem hmGramChecks41_ok : ∀ x ∈ hmGramChecks41, HOk Tryz.prog x := hmemo_cons hGramChecks40_ok hmGramChecks40_ok
def bgramChecks23 : Blk := ⟨[(eI 100),(.sl 2 2 0 3 none 1),(eI 100),(.sl 3 0 0 1 none 1),(eI 101),(.sl 4 2 0 3 none 1),(eI 101),(.sl 5 0 0 1 none 1),(eI 102),(.sl 6 0 0 1 none 1),(eI 102),(.sl 7 2 0 3 none 1)],32,[(5,12),(4,10),(3,8),(2,6),(1,4),(0,2)],6,0,false,5,none⟩
def hGramChecks41 : HE := ⟨8, [(.agg [(.lit (.slice none 0 0)),(.sl 0 2 0 3 none 1),(.sl 1 5 0 6 none 2)])], [bgramChecks15, bgramChecks23, bgramChecks17, bgramChecks18, bgramChecks19, bgramChecks20, bgramChecks21, bgramChecks22], [((.val (eI 1)), [])]⟩
theorem hGramChecks41_ok : HOk Tryz.prog hGramChecks41 := hok_eq mmGramChecks_ok hmGramChecks41_ok folGramChecks (lf := 100000) (k := 1000) (by kernel_rfl)
def hmGramChecks42 : List HE := hGramChecks41 :: hmGramChecks41
theorem hmGramChecks42_ok : ∀ x ∈ hmGramChecks42, HOk Tryz.prog x := hmemo_cons hGramChecks41_ok hmGramChecks41_ok
def hGramChecks42 : HE := ⟨9, [(.agg [(.lit (.slice none 0 0)),(.sl 0 2 0 3 none 1),(.sl 1 5 0 6 none 2)])], [bgramChecks15, bgramChecks23, bgramChecks17, bgramChecks18, bgramChecks19, bgramChecks20, bgramChecks21, bgramChecks22], [((.val (.tup [(eS []),(eI 1)])), [])]⟩
theorem hGramChecks42_ok : HOk Tryz.prog hGramChecks42 := hok_eq mmGramChecks_ok hmGramChecks42_ok folGramChecks (lf := 100000) (k := 1000) (by kernel_rfl)
def hmGramChecks43 : List HE := hGramChecks42 :: hmGramChecks42
theorem hmGramChecks43_ok : ∀ x ∈ hmGramChecks43, HOk Tryz.prog x := hmemo_cons hGramChecks42_ok hmGramChecks42_ok
def hGramChecks43 : HE := ⟨10, [(.agg [(.lit (.slice none 0 0)),(.sl 0 2 0 3 none 1),(.sl 1 5 0 6 none 2)])], [bgramChecks15, bgramChecks23, bgramChecks17, bgramChecks18, bgramChecks19, bgramChecks20, bgramChecks21, bgramChecks22], [((.val eB0), [])]⟩
theorem hGramChecks43_ok : HOk Tryz.prog hGramChecks43 := hok_eq mmGramChecks_ok hmGramChecks43_ok folGramChecks (lf := 100000) (k := 1000) (by kernel_rfl)
def hmGramChecks44 : List HE := hGramChecks43 :: hmGramChecks43
theorem hmGramChecks44_ok : ∀ x ∈ hmGramChecks44, HOk Tryz.prog x := hmemo_cons hGramChecks43_ok hmGramChecks43_ok
def hGramChecks44 : HE := ⟨8, [(.agg [(.sl 0 4 0 5 none 1),(.lit (.slice none 0 0)),(.sl 1 5 0 6 none 2)])], [bgramChecks14, bgramChecks23, bgramChecks17, bgramChecks18, bgramChecks19, bgramChecks20, bgramChecks21, bgramChecks22], [((.val (eI 1)), [])]⟩
theorem hGramChecks44_ok : HOk Tryz.prog hGramChecks44 := hok_eq mmGramChecks_ok hmGramChecks44_ok folGramChecks (lf := 100000) (k := 1000) (by kernel_rfl)
def hmGramChecks45 : List HE := hGramChecks44 :: hmGramChecks44
theorem hmGramChecks45_ok : ∀ x ∈ hmGramChecks45, HOk Tryz.prog x := hmemo_cons hGramChecks44_ok hmGramChecks44_ok
def hGramChecks45 : HE := ⟨9, [(.agg [(.sl 0 4 0 5 none 1),(.lit (.slice none 0 0)),(.sl 1 5 0 6 none 2)])], [bgramChecks14, bgramChecks23, bgramChecks17, bgramChecks18, bgramChecks19, bgramChecks20, bgramChecks21, bgramChecks22], [((.val (.tup [(eS []),(eI 1)])), [])]⟩
theorem hGramChecks45_ok : HOk Tryz.prog hGramChecks45 := hok_eq mmGramChecks_ok hmGramChecks45_ok folGramChecks (lf := 100000) (k := 1000) (by kernel_rfl)
def hmGramChecks46 : List HE := hGramChecks45 :: hmGramChecks45
theorem hmGramChecks46_ok : ∀ x ∈ hmGramChecks46, HOk Tryz.prog x := hmemo_cons hGramChecks45_ok hmGramChecks45_ok
def hGramChecks46 : HE := ⟨10, [(.agg [(.sl 0 4 0 5 none 1),(.lit (.slice none 0 0)),(.sl 1 5 0 6 none 2)])], [bgramChecks14, bgramChecks23, bgramChecks17, bgramChecks18, bgramChecks19, bgramChecks20, bgramChecks21, bgramChecks22], [((.val eB0), [])]⟩
theorem hGramChecks46_ok : HOk Tryz.prog hGramChecks46 := hok_eq mmGramChecks_ok hmGramChecks46_ok folGramChecks (lf := 100000) (k := 1000) (by kernel_rfl)
def hmGramChecks47 : List HE := hGramChecks46 :: hmGramChecks46
theorem hmGramChecks47_ok : ∀ x ∈ hmGramChecks47, HOk Tryz.prog x := hmemo_cons hGramChecks46_ok hmGramChecks46_ok
def hGramChecks47 : HE := ⟨8, [(.agg [(.sl 0 4 0 5 none 1),(.sl 1 2 0 3 none 1),(.lit (.slice none 0 0))])], [bgramChecks14, bgramChecks15], [((.val (eI 1)), [])]⟩
theorem hGramChecks47_ok : HOk Tryz.prog hGramChecks47 := hok_eq mmGramChecks_ok hmGramChecks47_ok folGramChecks (lf := 100000) (k := 1000) (by kernel_rfl)
def hmGramChecks48 : List HE := hGramChecks47 :: hmGramChecks47
theorem hmGramChecks48_ok : ∀ x ∈ hmGramChecks48, HOk Tryz.prog x := hmemo_cons hGramChecks47_ok hmGramChecks47_ok
def hGramChecks48 : HE := ⟨9, [(.agg [(.sl 0 4 0 5 none 1),(.sl 1 2 0 3 none 1),(.lit (.slice none 0 0))])], [bgramChecks14, bgramChecks15], [((.val (.tup [(eS []),(eI 1)])), [])]⟩
theorem hGramChecks48_ok : HOk Tryz.prog hGramChecks48 := hok_eq mmGramChecks_ok hmGramChecks48_ok folGramChecks (lf := 100000) (k := 1000) (by kernel_rfl)
def hmGramChecks49 : List HE := hGramChecks48 :: hmGramChecks48
theorem hmGramChecks49_ok : ∀ x ∈ hmGramChecks49, HOk Tryz.prog x := hmemo_cons hGramChecks48_ok hmGramChecks48_ok
def hGramChecks49 : HE := ⟨10, [(.agg [(.sl 0 4 0 5 none 1),(.sl 1 2 0 3 none 1),(.lit (.slice none 0 0))])], [bgramChecks14, bgramChecks15], [((.val eB0), [])]⟩
theorem hGramChecks49_ok : HOk Tryz.prog hGramChecks49 := hok_eq mmGramChecks_ok hmGramChecks49_ok folGramChecks (lf := 100000) (k := 1000) (by kernel_rfl)
def hmGramChecks50 : List HE := hGramChecks49 :: hmGramChecks49
theorem hmGramChecks50_ok : ∀ x ∈ hmGramChecks50, HOk Tryz.prog x := hmemo_cons hGramChecks49_ok hmGramChecks49_ok
def hGramChecks50 : HE := ⟨54, [(eS [112])], [], [((.val eB1), [])]⟩
theorem hGramChecks50_ok : HOk Tryz.prog hGramChecks50 := hok_eq mmGramChecks_ok hmGramChecks50_ok folGramChecks (lf := 100000) (k := 1000) (by kernel_rfl)
def hmGramChecks51 : List HE := hGramChecks50 :: hmGramChecks50
theorem hmGramChecks51_ok : ∀ x ∈ hmGramChecks51, HOk Tryz.prog x := hmemo_cons hGramChecks50_ok hmGramChecks50_ok
def hGramChecks51 : HE := ⟨54, [(eS [65])], [], [((.val eB1), [])]⟩
theorem hGramChecks51_ok : HOk Tryz.prog hGramChecks51 := hok_eq mmGramChecks_ok hmGramChecks51_ok folGramChecks (lf := 100000) (k := 1000) (by kernel_rfl)
def hmGramChecks52 : List HE := hGramChecks51 :: hmGramChecks51
theorem hmGramChecks52_ok : ∀ x ∈ hmGramChecks52, HOk Tryz.prog x := hmemo_cons hGramChecks51_ok hmGramChecks51_ok
def bgramChecks24 : Blk := ⟨[(eS [112]),(eS [65]),(eS [105]),(eS [108]),(eS [114])],9,[(4,5),(0,1)],5,0,false,5,none⟩
def hGramChecks52 : HE := ⟨26, [(.agg [(.sl 0 4 0 5 none 1),(.sl 1 2 0 3 none 1),(.sl 2 5 0 6 none 2)])], [bgramChecks24, bgramChecks15, bgramChecks16, bgramChecks17, bgramChecks18, bgramChecks19, bgramChecks20, bgramChecks21, bgramChecks22], [((.val eB0), [])]⟩
theorem hGramChecks52_ok : HOk Tryz.prog hGramChecks52 := hok_eq mmGramChecks_ok hmGramChecks52_ok folGramChecks (lf := 100000) (k := 1000) (by kernel_rfl)
def hmGramChecks53 : List HE := hGramChecks52 :: hmGramChecks52
theorem hmGramChecks53_ok : ∀ x ∈ hmGramChecks53, HOk Tryz.prog x := hmemo_cons hGramChecks52_ok hmGramChecks52_ok
def hGramChecks53 : HE := ⟨8, [(.agg [(.sl 0 4 0 5 none 1),(.sl 1 2 0 3 none 1),(.sl 2 5 0 6 none 2)])], [bgramChecks24, bgramChecks15, bgramChecks16, bgramChecks17, bgramChecks18, bgramChecks19, bgramChecks20, bgramChecks21, bgramChecks22], [((.val (eI 1)), [])]⟩
theorem hGramChecks53_ok : HOk Tryz.prog hGramChecks53 := hok_eq mmGramChecks_ok hmGramChecks53_ok folGramChecks (lf := 100000) (k := 1000) (by kernel_rfl)
def hmGramChecks54 : List HE := hGramChecks53 :: hmGramChecks53
theorem hmGramChecks54_ok : ∀ x ∈ hmGramChecks54, HOk Tryz.prog x := hmemo_cons hGramChecks53_ok hmGramChecks53_ok
def hGramChecks54 : HE := ⟨9, [(.agg [(.sl 0 4 0 5 none 1),(.sl 1 2 0 3 none 1),(.sl 2 5 0 6 none 2)])], [bgramChecks24, bgramChecks15, bgramChecks16, bgramChecks17, bgramChecks18, bgramChecks19, bgramChecks20, bgramChecks21, bgramChecks22], [((.val (.tup [(eS []),(eI 1)])), [])]⟩
theorem hGramChecks54_ok : HOk Tryz.prog hGramChecks54 := hok_eq mmGramChecks_ok hmGramChecks54_ok folGramChecks (lf := 100000) (k := 1000) (by kernel_rfl)
def hmGramChecks55 : List HE := hGramChecks54 :: hmGramChecks54
theorem hmGramChecks55_ok : ∀ x ∈ hmGramChecks55, HOk Tryz.prog x := hmemo_cons hGramChecks54_ok hmGramChecks54_ok
def hGramChecks55 : HE := ⟨63, [(eU 65)], [], [((.val eB1), [])]⟩
theorem hGramChecks55_ok : HOk Tryz.prog hGramChecks55 := hok_eq mmGramChecks_ok hmGramChecks55_ok folGramChecks (lf := 100000) (k := 1000) (by kernel_rfl)
def hmGramChecks56 : List HE := hGramChecks55 :: hmGramChecks55
theorem hmGramChecks56_ok : ∀ x ∈ hmGramChecks56, HOk Tryz.prog x := hmemo_cons hGramChecks55_ok hmGramChecks55_ok
def hGramChecks56 : HE := ⟨31, [(eS [65])], [], [((.val eB1), [])]⟩
theorem hGramChecks56_ok : HOk Tryz.prog hGramChecks56 := hok_eq mmGramChecks_ok hmGramChecks56_ok folGramChecks (lf := 100000) (k := 1000) (by kernel_rfl)
def hmGramChecks57 : List HE := hGramChecks56 :: hmGramChecks56
theorem hmGramChecks57_ok : ∀ x ∈ hmGramChecks57, HOk Tryz.prog x := hmemo_cons hGramChecks56_ok hmGramChecks56_ok
def hGramChecks57 : HE := ⟨10, [(.agg [(.sl 0 4 0 5 none 1),(.sl 1 2 0 3 none 1),(.sl 2 5 0 6 none 2)])], [bgramChecks24, bgramChecks15, bgramChecks16, bgramChecks17, bgramChecks18, bgramChecks19, bgramChecks20, bgramChecks21, bgramChecks22], [((.val eB0), [])]⟩
theorem hGramChecks57_ok : HOk Tryz.prog hGramChecks57 := hok_eq mmGramChecks_ok hmGramChecks57_ok folGramChecks (lf := 100000) (k := 1000) (by kernel_rfl)
def hmGramChecks58 : List HE := hGramChecks57 :: hmGramChecks57
theorem hmGramChecks58_ok : ∀ x ∈ hmGramChecks58, HOk Tryz.prog x := hmemo_cons hGramChecks57_ok hmGramChecks57_ok
def hGramChecks58 : HE := ⟨54, [(eS [109])], [], [((.val eB1), [])]⟩
theorem hGramChecks58_ok : HOk Tryz.prog hGramChecks58 := hok_eq mmGramChecks_ok hmGramChecks58_ok folGramChecks (lf := 100000) (k := 1000) (by kernel_rfl)
def hmGramChecks59 : List HE := hGramChecks58 :: hmGramChecks58
theorem hmGramChecks59_ok : ∀ x ∈ hmGramChecks59, HOk Tryz.prog x := hmemo_cons hGramChecks58_ok hmGramChecks58_ok
def hGramChecks59 : HE := ⟨54, [(eS [105])], [], [((.val eB1), [])]⟩
theorem hGramChecks59_ok : HOk Tryz.prog hGramChecks59 := hok_eq mmGramChecks_ok hmGramChecks59_ok folGramChecks (lf := 100000) (k := 1000) (by kernel_rfl)
def hmGramChecks60 : List HE := hGramChecks59 :: hmGramChecks59
theorem hmGramChecks60_ok : ∀ x ∈ hmGramChecks60, HOk Tryz.prog x := hmemo_cons hGramChecks59_ok hmGramChecks59_ok
def hGramChecks60 : HE := ⟨54, [(eS [108])], [], [((.val eB1), [])]⟩
theorem hGramChecks60_ok : HOk Tryz.prog hGramChecks60 := hok_eq mmGramChecks_ok hmGramChecks60_ok folGramChecks (lf := 100000) (k := 1000) (by kernel_rfl)
def hmGramChecks61 : List HE := hGramChecks60 :: hmGramChecks60
theorem hmGramChecks61_ok : ∀ x ∈ hmGramChecks61, HOk Tryz.prog x := hmemo_cons hGramChecks60_ok hmGramChecks60_ok
def hGramChecks61 : HE := ⟨54, [(eS [114])], [], [((.val eB1), [])]⟩
theorem hGramChecks61_ok : HOk Tryz.prog hGramChecks61 := hok_eq mmGramChecks_ok hmGramChecks61_ok folGramChecks (lf := 100000) (k := 1000) (by kernel_rfl)
def hmGramChecks62 : List HE := hGramChecks61 :: hmGramChecks61
theorem hmGramChecks62_ok : ∀ x ∈ hmGramChecks62, HOk Tryz.prog x := hmemo_cons hGramChecks61_ok hmGramChecks61_ok
def hGramChecks62 : HE := ⟨54, [(eS [69])], [], [((.val eB1), [])]⟩
theorem hGramChecks62_ok : HOk Tryz.prog hGramChecks62 := hok_eq mmGramChecks_ok hmGramChecks62_ok folGramChecks (lf := 100000) (k := 1000) (by kernel_rfl)
def hmGramChecks63 : List HE := hGramChecks62 :: hmGramChecks62
theorem hmGramChecks63_ok : ∀ x ∈ hmGramChecks63, HOk Tryz.prog x := hmemo_cons hGramChecks62_ok hmGramChecks62_ok
def bgramChecks25 : Blk := ⟨[(eS [69]),(eS [97]),(eS [70])],9,[(2,3),(0,1)],3,0,false,3,none⟩
def hGramChecks63 : HE := ⟨26, [(.agg [(.sl 0 4 0 5 none 1),(.sl 1 2 0 3 none 1),(.sl 2 5 0 6 none 2)])], [bgramChecks14, bgramChecks25, bgramChecks16, bgramChecks17, bgramChecks18, bgramChecks19, bgramChecks20, bgramChecks21, bgramChecks22], [((.val eB0), [])]⟩
theorem hGramChecks63_ok : HOk Tryz.prog hGramChecks63 := hok_eq mmGramChecks_ok hmGramChecks63_ok folGramChecks (lf := 100000) (k := 1000) (by kernel_rfl)
def hmGramChecks64 : List HE := hGramChecks63 :: hmGramChecks63
theorem hmGramChecks64_ok : ∀ x ∈ hmGramChecks64, HOk Tryz.prog x := hmemo_cons hGramChecks63_ok hmGramChecks63_ok
def hGramChecks64 : HE := ⟨8, [(.agg [(.sl 0 4 0 5 none 1),(.sl 1 2 0 3 none 1),(.sl 2 5 0 6 none 2)])], [bgramChecks14, bgramChecks25, bgramChecks16, bgramChecks17, bgramChecks18, bgramChecks19, bgramChecks20, bgramChecks21, bgramChecks22], [((.val (eI 1)), [])]⟩
theorem hGramChecks64_ok : HOk Tryz.prog hGramChecks64 := hok_eq mmGramChecks_ok hmGramChecks64_ok folGramChecks (lf := 100000) (k := 1000) (by kernel_rfl)
def hmGramChecks65 : List HE := hGramChecks64 :: hmGramChecks64
theorem hmGramChecks65_ok : ∀ x ∈ hmGramChecks65, HOk Tryz.prog x := hmemo_cons hGramChecks64_ok hmGramChecks64_ok
def hGramChecks65 : HE := ⟨9, [(.agg [(.sl 0 4 0 5 none 1),(.sl 1 2 0 3 none 1),(.sl 2 5 0 6 none 2)])], [bgramChecks14, bgramChecks25, bgramChecks16, bgramChecks17, bgramChecks18, bgramChecks19, bgramChecks20, bgramChecks21, bgramChecks22], [((.val (.tup [(eS []),(eI 1)])), [])]⟩
theorem hGramChecks65_ok : HOk Tryz.prog hGramChecks65 := hok_eq mmGramChecks_ok hmGramChecks65_ok folGramChecks (lf := 100000) (k := 1000) (by kernel_rfl)
def hmGramChecks66 : List HE := hGramChecks65 :: hmGramChecks65
theorem hmGramChecks66_ok : ∀ x ∈ hmGramChecks66, HOk Tryz.prog x := hmemo_cons hGramChecks65_ok hmGramChecks65_ok
def hGramChecks66 : HE := ⟨10, [(.agg [(.sl 0 4 0 5 none 1),(.sl 1 2 0 3 none 1),(.sl 2 5 0 6 none 2)])], [bgramChecks14, bgramChecks25, bgramChecks16, bgramChecks17, bgramChecks18, bgramChecks19, bgramChecks20, bgramChecks21, bgramChecks22], [((.val eB0), [])]⟩
theorem hGramChecks66_ok : HOk Tryz.prog hGramChecks66 := hok_eq mmGramChecks_ok hmGramChecks66_ok folGramChecks (lf := 100000) (k := 1000) (by kernel_rfl)
def hmGramChecks67 : List HE := hGramChecks66 :: hmGramChecks66
theorem hmGramChecks67_ok : ∀ x ∈ hmGramChecks67, HOk Tryz.prog x := hmemo_cons hGramChecks66_ok hmGramChecks66_ok
def bgramChecks26 : Blk := ⟨[(eS [109]),(eS [109]),(eS [105]),(eS [108]),(eS [114])],9,[(4,5)],5,0,false,5,none⟩
def hGramChecks67 : HE := ⟨26, [(.agg [(.sl 0 4 0 5 none 1),(.sl 1 2 0 3 none 1),(.sl 2 5 0 6 none 2)])], [bgramChecks26, bgramChecks15, bgramChecks16, bgramChecks17, bgramChecks18, bgramChecks19, bgramChecks20, bgramChecks21, bgramChecks22], [((.val eB0), [])]⟩
theorem hGramChecks67_ok : HOk Tryz.prog hGramChecks67 := hok_eq mmGramChecks_ok hmGramChecks67_ok folGramChecks (lf := 100000) (k := 1000) (by kernel_rfl)
def hmGramChecks68 : List HE := hGramChecks67 :: hmGramChecks67
theorem hmGramChecks68_ok : ∀ x ∈ hmGramChecks68, HOk Tryz.prog x := hmemo_cons hGramChecks67_ok hmGramChecks67_ok
def hGramChecks68 : HE := ⟨8, [(.agg [(.sl 0 4 0 5 none 1),(.sl 1 2 0 3 none 1),(.sl 2 5 0 6 none 2)])], [bgramChecks26, bgramChecks15, bgramChecks16, bgramChecks17, bgramChecks18, bgramChecks19, bgramChecks20, bgramChecks21, bgramChecks22], [((.val (eI 1)), [])]⟩
theorem hGramChecks68_ok : HOk Tryz.prog hGramChecks68 := hok_eq mmGramChecks_ok hmGramChecks68_ok folGramChecks (lf := 100000) (k := 1000) (by kernel_rfl)
def hmGramChecks69 : List HE := hGramChecks68 :: hmGramChecks68
theorem hmGramChecks69_ok : ∀ x ∈ hmGramChecks69, HOk Tryz.prog x := hmemo_cons hGramChecks68_ok hmGramChecks68_ok
def hGramChecks69 : HE := ⟨9, [(.agg [(.sl 0 4 0 5 none 1),(.sl 1 2 0 3 none 1),(.sl 2 5 0 6 none 2)])], [bgramChecks26, bgramChecks15, bgramChecks16, bgramChecks17, bgramChecks18, bgramChecks19, bgramChecks20, bgramChecks21, bgramChecks22], [((.val (.tup [(eS []),(eI 1)])), [])]⟩
theorem hGramChecks69_ok : HOk Tryz.prog hGramChecks69 := hok_eq mmGramChecks_ok hmGramChecks69_ok folGramChecks (lf := 100000) (k := 1000) (by kernel_rfl)
def hmGramChecks70 : List HE := hGramChecks69 :: hmGramChecks69
theorem hmGramChecks70_ok : ∀ x ∈ hmGramChecks70, HOk Tryz.prog x := hmemo_cons hGramChecks69_ok hmGramChecks69_ok
def hGramChecks70 : HE := ⟨10, [(.agg [(.sl 0 4 0 5 none 1),(.sl 1 2 0 3 none 1),(.sl 2 5 0 6 none 2)])], [bgramChecks26, bgramChecks15, bgramChecks16, bgramChecks17, bgramChecks18, bgramChecks19, bgramChecks20, bgramChecks21, bgramChecks22], [((.val eB0), [])]⟩
theorem hGramChecks70_ok : HOk Tryz.prog hGramChecks70 := hok_eq mmGramChecks_ok hmGramChecks70_ok folGramChecks (lf := 100000) (k := 1000) (by kernel_rfl)
def hmGramChecks71 : List HE := hGramChecks70 :: hmGramChecks70
theorem hmGramChecks71_ok : ∀ x ∈ hmGramChecks71, HOk Tryz.prog x := hmemo_cons hGramChecks70_ok hmGramChecks70_ok
def hGramChecks71 : HE := ⟨54, [(eS [84])], [], [((.val eB1), [])]⟩
theorem hGramChecks71_ok : HOk Tryz.prog hGramChecks71 := hok_eq mmGramChecks_ok hmGramChecks71_ok folGramChecks (lf := 100000) (k := 1000) (by kernel_rfl)
def hmGramChecks72 : List HE := hGramChecks71 :: hmGramChecks71
theorem hmGramChecks72_ok : ∀ x ∈ hmGramChecks72, HOk Tryz.prog x := hmemo_cons hGramChecks71_ok hmGramChecks71_ok
def bgramChecks27 : Blk := ⟨[(eS [69]),(eS [84]),(eS [69])],9,[(2,3),(1,2),(0,1)],3,0,false,3,none⟩
def hGramChecks72 : HE := ⟨26, [(.agg [(.sl 0 4 0 5 none 1),(.sl 1 2 0 3 none 1),(.sl 2 5 0 6 none 2)])], [bgramChecks14, bgramChecks27, bgramChecks16, bgramChecks17, bgramChecks18, bgramChecks19, bgramChecks20, bgramChecks21, bgramChecks22], [((.val eB0), [])]⟩
theorem hGramChecks72_ok : HOk Tryz.prog hGramChecks72 := hok_eq mmGramChecks_ok hmGramChecks72_ok folGramChecks (lf := 100000) (k := 1000) (by kernel_rfl)
def hmGramChecks73 : List HE := hGramChecks72 :: hmGramChecks72
theorem hmGramChecks73_ok : ∀ x ∈ hmGramChecks73, HOk Tryz.prog x := hmemo_cons hGramChecks72_ok hmGramChecks72_ok
def hGramChecks73 : HE := ⟨8, [(.agg [(.sl 0 4 0 5 none 1),(.sl 1 2 0 3 none 1),(.sl 2 5 0 6 none 2)])], [bgramChecks14, bgramChecks27, bgramChecks16, bgramChecks17, bgramChecks18, bgramChecks19, bgramChecks20, bgramChecks21, bgramChecks22], [((.val (eI 1)), [])]⟩
theorem hGramChecks73_ok : HOk Tryz.prog hGramChecks73 := hok_eq mmGramChecks_ok hmGramChecks73_ok folGramChecks (lf := 100000) (k := 1000) (by kernel_rfl)
def hmGramChecks74 : List HE := hGramChecks73 :: hmGramChecks73
theorem hmGramChecks74_ok : ∀ x ∈ hmGramChecks74, HOk Tryz.prog x := hmemo_cons hGramChecks73_ok hmGramChecks73_ok
def hGramChecks74 : HE := ⟨9, [(.agg [(.sl 0 4 0 5 none 1),(.sl 1 2 0 3 none 1),(.sl 2 5 0 6 none 2)])], [bgramChecks14, bgramChecks27, bgramChecks16, bgramChecks17, bgramChecks18, bgramChecks19, bgramChecks20, bgramChecks21, bgramChecks22], [((.val (.tup [(eS []),(eI 1)])), [])]⟩
theorem hGramChecks74_ok : HOk Tryz.prog hGramChecks74 := hok_eq mmGramChecks_ok hmGramChecks74_ok folGramChecks (lf := 100000) (k := 1000) (by kernel_rfl)
def hmGramChecks75 : List HE := hGramChecks74 :: hmGramChecks74
theorem hmGramChecks75_ok : ∀ x ∈ hmGramChecks75, HOk Tryz.prog x := hmemo_cons hGramChecks74_ok hmGramChecks74_ok
def hGramChecks75 : HE := ⟨10, [(.agg [(.sl 0 4 0 5 none 1),(.sl 1 2 0 3 none 1),(.sl 2 5 0 6 none 2)])], [bgramChecks14, bgramChecks27, bgramChecks16, bgramChecks17, bgramChecks18, bgramChecks19, bgramChecks20, bgramChecks21, bgramChecks22], [((.val eB0), [])]⟩
theorem hGramChecks75_ok : HOk Tryz.prog hGramChecks75 := hok_eq mmGramChecks_ok hmGramChecks75_ok folGramChecks (lf := 100000) (k := 1000) (by kernel_rfl)
def hmGramChecks76 : List HE := hGramChecks75 :: hmGramChecks75
theorem hmGramChecks76_ok : ∀ x ∈ hmGramChecks76, HOk Tryz.prog x := hmemo_cons hGramChecks75_ok hmGramChecks75_ok
def hGramChecks76 : HE := ⟨54, [(eS [97,98,99,100,101,102,103,104,105])], [], [((.val eB0), [])]⟩
theorem hGramChecks76_ok : HOk Tryz.prog hGramChecks76 := hok_eq mmGramChecks_ok hmGramChecks76_ok folGramChecks (lf := 100000) (k := 1000) (by kernel_rfl)
def hmGramChecks77 : List HE := hGramChecks76 :: hmGramChecks76
theorem hmGramChecks77_ok : ∀ x ∈ hmGramChecks77, HOk Tryz.prog x := hmemo_cons hGramChecks76_ok hmGramChecks76_ok
def bgramChecks28 : Blk := ⟨[(eS [112]),(eS [97,98,99,100,101,102,103,104,105]),(eS [105]),(eS [108]),(eS [114])],9,[(4,5),(0,1)],5,0,false,5,none⟩
def hGramChecks77 : HE := ⟨26, [(.agg [(.sl 0 4 0 5 none 1),(.sl 1 2 0 3 none 1),(.sl 2 5 0 6 none 2)])], [bgramChecks28, bgramChecks15, bgramChecks16, bgramChecks17, bgramChecks18, bgramChecks19, bgramChecks20, bgramChecks21, bgramChecks22], [((.val eB0), [])]⟩
theorem hGramChecks77_ok : HOk Tryz.prog hGramChecks77 := hok_eq mmGramChecks_ok hmGramChecks77_ok folGramChecks (lf := 100000) (k := 1000) (by kernel_rfl)
def hmGramChecks78 : List HE := hGramChecks77 :: hmGramChecks77
theorem hmGramChecks78_ok : ∀ x ∈ hmGramChecks78, HOk Tryz.prog x := hmemo_cons hGramChecks77_ok hmGramChecks77_ok
def hGramChecks78 : HE := ⟨8, [(.agg [(.sl 0 4 0 5 none 1),(.sl 1 2 0 3 none 1),(.sl 2 5 0 6 none 2)])], [bgramChecks28, bgramChecks15, bgramChecks16, bgramChecks17, bgramChecks18, bgramChecks19, bgramChecks20, bgramChecks21, bgramChecks22], [((.val (eI 1)), [])]⟩
theorem hGramChecks78_ok : HOk Tryz.prog hGramChecks78 := hok_eq mmGramChecks_ok hmGramChecks78_ok folGramChecks (lf := 100000) (k := 1000) (by kernel_rfl)
def hmGramChecks79 : List HE := hGramChecks78 :: hmGramChecks78
theorem hmGramChecks79_ok : ∀ x ∈ hmGramChecks79, HOk Tryz.prog x := hmemo_cons hGramChecks78_ok hmGramChecks78_ok
def hGramChecks79 : HE := ⟨9, [(.agg [(.sl 0 4 0 5 none 1),(.sl 1 2 0 3 none 1),(.sl 2 5 0 6 none 2)])], [bgramChecks28, bgramChecks15, bgramChecks16, bgramChecks17, bgramChecks18, bgramChecks19, bgramChecks20, bgramChecks21, bgramChecks22], [((.val (.tup [(eS []),(eI 1)])), [])]⟩
theorem hGramChecks79_ok : HOk Tryz.prog hGramChecks79 := hok_eq mmGramChecks_ok hmGramChecks79_ok folGramChecks (lf := 100000) (k := 1000) (by kernel_rfl)
def hmGramChecks80 : List HE := hGramChecks79 :: hmGramChecks79
theorem hmGramChecks80_ok : ∀ x ∈ hmGramChecks80, HOk Tryz.prog x := hmemo_cons hGramChecks79_ok hmGramChecks79_ok
def hGramChecks80 : HE := ⟨31, [(eS [97,98,99,100,101,102,103,104,105])], [], [((.val eB0), [])]⟩
theorem hGramChecks80_ok : HOk Tryz.prog hGramChecks80 := hok_eq mmGramChecks_ok hmGramChecks80_ok folGramChecks (lf := 100000) (k := 1000) (by kernel_rfl)
def hmGramChecks81 : List HE := hGramChecks80 :: hmGramChecks80
theorem hmGramChecks81_ok : ∀ x ∈ hmGramChecks81, HOk Tryz.prog x := hmemo_cons hGramChecks80_ok hmGramChecks80_ok
def hGramChecks81 : HE := ⟨10, [(.agg [(.sl 0 4 0 5 none 1),(.sl 1 2 0 3 none 1),(.sl 2 5 0 6 none 2)])], [bgramChecks28, bgramChecks15, bgramChecks16, bgramChecks17, bgramChecks18, bgramChecks19, bgramChecks20, bgramChecks21, bgramChecks22], [((.val eB0), [])]⟩
theorem hGramChecks81_ok : HOk Tryz.prog hGramChecks81 := hok_eq mmGramChecks_ok hmGramChecks81_ok folGramChecks (lf := 100000) (k := 1000) (by kernel_rfl)
def hmGramChecks82 : List HE := hGramChecks81 :: hmGramChecks81
theorem hmGramChecks82_ok : ∀ x ∈ hmGramChecks82, HOk Tryz.prog x := hmemo_cons hGramChecks81_ok hmGramChecks81_ok
def hGramChecks82 : HE := ⟨54, [(eS [70])], [], [((.val eB1), [])]⟩
theorem hGramChecks82_ok : HOk Tryz.prog hGramChecks82 := hok_eq mmGramChecks_ok hmGramChecks82_ok folGramChecks (lf := 100000) (k := 1000) (by kernel_rfl)
def hmGramChecks83 : List HE := hGramChecks82 :: hmGramChecks82
theorem hmGramChecks83_ok : ∀ x ∈ hmGramChecks83, HOk Tryz.prog x := hmemo_cons hGramChecks82_ok hmGramChecks82_ok
def bgramChecks29 : Blk := ⟨[(eI 100),(.sl 3 2 0 3 none 1),(eI 100),(.sl 4 0 0 1 none 1),(eI 101),(.sl 5 2 0 3 none 1),(eI 101),(.sl 6 0 0 1 none 1),(eI 1),(.sl 7 0 0 1 none 1),(eI 102),(.sl 8 2 0 3 none 1)],32,[(5,12),(3,8),(2,6),(1,4),(0,2)],6,0,false,6,none⟩
def hGramChecks83 : HE := ⟨26, [(.agg [(.sl 0 4 0 5 none 1),(.sl 1 2 0 3 none 1),(.sl 2 5 0 6 none 2)])], [bgramChecks14, bgramChecks15, bgramChecks29, bgramChecks17, bgramChecks18, bgramChecks19, bgramChecks20, bgramChecks21, bgramChecks22], [((.val eB1), [])]⟩
theorem hGramChecks83_ok : HOk Tryz.prog hGramChecks83 := hok_eq mmGramChecks_ok hmGramChecks83_ok folGramChecks (lf := 100000) (k := 1000) (by kernel_rfl)
def hmGramChecks84 : List HE := hGramChecks83 :: hmGramChecks83
theorem hmGramChecks84_ok : ∀ x ∈ hmGramChecks84, HOk Tryz.prog x := hmemo_cons hGramChecks83_ok hmGramChecks83_ok
def bgramChecks30 : Blk := ⟨[(eI 100),(.sl 1 2 0 3 none 1),(eI 100),(.sl 2 0 0 1 none 1),(eI 101),(.sl 3 2 0 3 none 1),(eI 101),(.sl 4 0 0 1 none 1),(eI 1),(.sl 5 0 0 1 none 1),(eI 102),(.sl 6 2 0 3 none 1)],32,[(5,12),(3,8),(2,6),(1,4),(0,2)],6,0,false,6,none⟩
def hGramChecks84 : HE := ⟨59, [(.sl 0 5 0 0 none 2),(.agg [(eI 100),(.sl 1 2 0 3 none 1)])], [bgramChecks30, bgramChecks17, bgramChecks18, bgramChecks19, bgramChecks20, bgramChecks21, bgramChecks22], [((.val eB0), [])]⟩
theorem hGramChecks84_ok : HOk Tryz.prog hGramChecks84 := hok_eq mmGramChecks_ok hmGramChecks84_ok folGramChecks (lf := 100000) (k := 1000) (by kernel_rfl)
def hmGramChecks85 : List HE := hGramChecks84 :: hmGramChecks84
theorem hmGramChecks85_ok : ∀ x ∈ hmGramChecks85, HOk Tryz.prog x := hmemo_cons hGramChecks84_ok hmGramChecks84_ok
def hGramChecks85 : HE := ⟨59, [(.sl 0 5 0 1 none 2),(.agg [(eI 100),(.sl 2 0 0 1 none 1)])], [bgramChecks30, bgramChecks17, bgramChecks18, bgramChecks19, bgramChecks20, bgramChecks21, bgramChecks22], [((.val eB0), [])]⟩
theorem hGramChecks85_ok : HOk Tryz.prog hGramChecks85 := hok_eq mmGramChecks_ok hmGramChecks85_ok folGramChecks (lf := 100000) (k := 1000) (by kernel_rfl)
def hmGramChecks86 : List HE := hGramChecks85 :: hmGramChecks85
theorem hmGramChecks86_ok : ∀ x ∈ hmGramChecks86, HOk Tryz.prog x := hmemo_cons hGramChecks85_ok hmGramChecks85_ok
def hGramChecks86 : HE := ⟨59, [(.sl 0 5 0 2 none 2),(.agg [(eI 101),(.sl 3 2 0 3 none 1)])], [bgramChecks30, bgramChecks17, bgramChecks18, bgramChecks19, bgramChecks20, bgramChecks21, bgramChecks22], [((.val eB0), [])]⟩
theorem hGramChecks86_ok : HOk Tryz.prog hGramChecks86 := hok_eq mmGramChecks_ok hmGramChecks86_ok folGramChecks (lf := 100000) (k := 1000) (by kernel_rfl)
def hmGramChecks87 : List HE := hGramChecks86 :: hmGramChecks86
theorem hmGramChecks87_ok : ∀ x ∈ hmGramChecks87, HOk Tryz.prog x := hmemo_cons hGramChecks86_ok hmGramChecks86_ok
def hGramChecks87 : HE := ⟨59, [(.sl 0 5 0 3 none 2),(.agg [(eI 101),(.sl 4 0 0 1 none 1)])], [bgramChecks30, bgramChecks17, bgramChecks18, bgramChecks19, bgramChecks20, bgramChecks21, bgramChecks22], [((.val eB0), [])]⟩
theorem hGramChecks87_ok : HOk Tryz.prog hGramChecks87 := hok_eq mmGramChecks_ok hmGramChecks87_ok folGramChecks (lf := 100000) (k := 1000) (by kernel_rfl)
def hmGramChecks88 : List HE := hGramChecks87 :: hmGramChecks87
theorem hmGramChecks88_ok : ∀ x ∈ hmGramChecks88, HOk Tryz.prog x := hmemo_cons hGramChecks87_ok hmGramChecks87_ok
def hGramChecks88 : HE := ⟨27, [(.agg [(.sl 0 4 0 5 none 1),(.sl 1 2 0 3 none 1),(.sl 2 5 0 6 none 2)])], [bgramChecks14, bgramChecks15, bgramChecks29, bgramChecks17, bgramChecks18, bgramChecks19, bgramChecks20, bgramChecks21, bgramChecks22], [((.val eB0), [])]⟩
theorem hGramChecks88_ok : HOk Tryz.prog hGramChecks88 := hok_eq mmGramChecks_ok hmGramChecks88_ok folGramChecks (lf := 100000) (k := 1000) (by kernel_rfl)
def hmGramChecks89 : List HE := hGramChecks88 :: hmGramChecks88
theorem hmGramChecks89_ok : ∀ x ∈ hmGramChecks89, HOk Tryz.prog x := hmemo_cons hGramChecks88_ok hmGramChecks88_ok
def hGramChecks89 : HE := ⟨8, [(.agg [(.sl 0 4 0 5 none 1),(.sl 1 2 0 3 none 1),(.sl 2 5 0 6 none 2)])], [bgramChecks14, bgramChecks15, bgramChecks29, bgramChecks17, bgramChecks18, bgramChecks19, bgramChecks20, bgramChecks21, bgramChecks22], [((.val (eI 1)), [])]⟩
theorem hGramChecks89_ok : HOk Tryz.prog hGramChecks89 := hok_eq mmGramChecks_ok hmGramChecks89_ok folGramChecks (lf := 100000) (k := 1000) (by kernel_rfl)
def hmGramChecks90 : List HE := hGramChecks89 :: hmGramChecks89
theorem hmGramChecks90_ok : ∀ x ∈ hmGramChecks90, HOk Tryz.prog x := hmemo_cons hGramChecks89_ok hmGramChecks89_ok
def hGramChecks90 : HE := ⟨9, [(.agg [(.sl 0 4 0 5 none 1),(.sl 1 2 0 3 none 1),(.sl 2 5 0 6 none 2)])], [bgramChecks14, bgramChecks15, bgramChecks29, bgramChecks17, bgramChecks18, bgramChecks19, bgramChecks20, bgramChecks21, bgramChecks22], [((.val (.tup [(eS []),(eI 1)])), [])]⟩
theorem hGramChecks90_ok : HOk Tryz.prog hGramChecks90 := hok_eq mmGramChecks_ok hmGramChecks90_ok folGramChecks (lf := 100000) (k := 1000) (by kernel_rfl)
def hmGramChecks91 : List HE := hGramChecks90 :: hmGramChecks90
theorem hmGramChecks91_ok : ∀ x ∈ hmGramChecks91, HOk Tryz.prog x := hmemo_cons hGramChecks90_ok hmGramChecks90_ok
def hGramChecks91 : HE := ⟨10, [(.agg [(.sl 0 4 0 5 none 1),(.sl 1 2 0 3 none 1),(.sl 2 5 0 6 none 2)])], [bgramChecks14, bgramChecks15, bgramChecks29, bgramChecks17, bgramChecks18, bgramChecks19, bgramChecks20, bgramChecks21, bgramChecks22], [((.val eB0), [])]⟩
theorem hGramChecks91_ok : HOk Tryz.prog hGramChecks91 := hok_eq mmGramChecks_ok hmGramChecks91_ok folGramChecks (lf := 100000) (k := 1000) (by kernel_rfl)
def hmGramChecks92 : List HE := hGramChecks91 :: hmGramChecks91
theorem hmGramChecks92_ok : ∀ x ∈ hmGramChecks92, HOk Tryz.prog x := hmemo_cons hGramChecks91_ok hmGramChecks91_ok
def bgramChecks31 : Blk := ⟨[(eI 100),(.sl 3 2 0 3 none 1),(eI 100),(.sl 4 0 0 1 none 1),(eI 101),(.sl 5 2 0 3 none 1),(eI 101),(.sl 6 0 0 1 none 1),(eI 103),(.sl 7 0 0 1 none 1),(eI 102),(.sl 8 2 0 3 none 1)],32,[(5,12),(3,8),(2,6),(1,4),(0,2)],6,0,false,6,none⟩
def hGramChecks92 : HE := ⟨26, [(.agg [(.sl 0 4 0 5 none 1),(.sl 1 2 0 3 none 1),(.sl 2 5 0 6 none 2)])], [bgramChecks14, bgramChecks15, bgramChecks31, bgramChecks17, bgramChecks18, bgramChecks19, bgramChecks20, bgramChecks21, bgramChecks22], [((.val eB1), [])]⟩
theorem hGramChecks92_ok : HOk Tryz.prog hGramChecks92 := hok_eq mmGramChecks_ok hmGramChecks92_ok folGramChecks (lf := 100000) (k := 1000) (by kernel_rfl)
def hmGramChecks93 : List HE := hGramChecks92 :: hmGramChecks92
theorem hmGramChecks93_ok : ∀ x ∈ hmGramChecks93, HOk Tryz.prog x := hmemo_cons hGramChecks92_ok hmGramChecks92_ok
def bgramChecks32 : Blk := ⟨[(eI 100),(.sl 1 2 0 3 none 1),(eI 100),(.sl 2 0 0 1 none 1),(eI 101),(.sl 3 2 0 3 none 1),(eI 101),(.sl 4 0 0 1 none 1),(eI 103),(.sl 5 0 0 1 none 1),(eI 102),(.sl 6 2 0 3 none 1)],32,[(5,12),(3,8),(2,6),(1,4),(0,2)],6,0,false,6,none⟩
def hGramChecks93 : HE := ⟨59, [(.sl 0 5 0 0 none 2),(.agg [(eI 100),(.sl 1 2 0 3 none 1)])], [bgramChecks32, bgramChecks17, bgramChecks18, bgramChecks19, bgramChecks20, bgramChecks21, bgramChecks22], [((.val eB0), [])]⟩
theorem hGramChecks93_ok : HOk Tryz.prog hGramChecks93 := hok_eq mmGramChecks_ok hmGramChecks93_ok folGramChecks (lf := 100000) (k := 1000) (by kernel_rfl)
def hmGramChecks94 : List HE := hGramChecks93 :: hmGramChecks93
theorem hmGramChecks94_ok : ∀ x ∈ hmGramChecks94, HOk Tryz.prog x := hmemo_cons hGramChecks93_ok hmGramChecks93_ok
def hGramChecks94 : HE := ⟨59, [(.sl 0 5 0 1 none 2),(.agg [(eI 100),(.sl 2 0 0 1 none 1)])], [bgramChecks32, bgramChecks17, bgramChecks18, bgramChecks19, bgramChecks20, bgramChecks21, bgramChecks22], [((.val eB0), [])]⟩
theorem hGramChecks94_ok : HOk Tryz.prog hGramChecks94 := hok_eq mmGramChecks_ok hmGramChecks94_ok folGramChecks (lf := 100000) (k := 1000) (by kernel_rfl)
def hmGramChecks95 : List HE := hGramChecks94 :: hmGramChecks94
theorem hmGramChecks95_ok : ∀ x ∈ hmGramChecks95, HOk Tryz.prog x := hmemo_cons hGramChecks94_ok hmGramChecks94_ok
def hGramChecks95 : HE := ⟨59, [(.sl 0 5 0 2 none 2),(.agg [(eI 101),(.sl 3 2 0 3 none 1)])], [bgramChecks32, bgramChecks17, bgramChecks18, bgramChecks19, bgramChecks20, bgramChecks21, bgramChecks22], [((.val eB0), [])]⟩
theorem hGramChecks95_ok : HOk Tryz.prog hGramChecks95 := hok_eq mmGramChecks_ok hmGramChecks95_ok folGramChecks (lf := 100000) (k := 1000) (by kernel_rfl)
def hmGramChecks96 : List HE := hGramChecks95 :: hmGramChecks95
theorem hmGramChecks96_ok : ∀ x ∈ hmGramChecks96, HOk Tryz.prog x := hmemo_cons hGramChecks95_ok hmGramChecks95_ok
def hGramChecks96 : HE := ⟨59, [(.sl 0 5 0 3 none 2),(.agg [(eI 101),(.sl 4 0 0 1 none 1)])], [bgramChecks32, bgramChecks17, bgramChecks18, bgramChecks19, bgramChecks20, bgramChecks21, bgramChecks22], [((.val eB0), [])]⟩
theorem hGramChecks96_ok : HOk Tryz.prog hGramChecks96 := hok_eq mmGramChecks_ok hmGramChecks96_ok folGramChecks (lf := 100000) (k := 1000) (by kernel_rfl)
def hmGramChecks97 : List HE := hGramChecks96 :: hmGramChecks96
theorem hmGramChecks97_ok : ∀ x ∈ hmGramChecks97, HOk Tryz.prog x := hmemo_cons hGramChecks96_ok hmGramChecks96_ok
def hGramChecks97 : HE := ⟨27, [(.agg [(.sl 0 4 0 5 none 1),(.sl 1 2 0 3 none 1),(.sl 2 5 0 6 none 2)])], [bgramChecks14, bgramChecks15, bgramChecks31, bgramChecks17, bgramChecks18, bgramChecks19, bgramChecks20, bgramChecks21, bgramChecks22], [((.val eB0), [])]⟩
theorem hGramChecks97_ok : HOk Tryz.prog hGramChecks97 := hok_eq mmGramChecks_ok hmGramChecks97_ok folGramChecks (lf := 100000) (k := 1000) (by kernel_rfl)
def hmGramChecks98 : List HE := hGramChecks97 :: hmGramChecks97
theorem hmGramChecks98_ok : ∀ x ∈ hmGramChecks98, HOk Tryz.prog x := hmemo_cons hGramChecks97_ok hmGramChecks97_ok
def hGramChecks98 : HE := ⟨8, [(.agg [(.sl 0 4 0 5 none 1),(.sl 1 2 0 3 none 1),(.sl 2 5 0 6 none 2)])], [bgramChecks14, bgramChecks15, bgramChecks31, bgramChecks17, bgramChecks18, bgramChecks19, bgramChecks20, bgramChecks21, bgramChecks22], [((.val (eI 1)), [])]⟩
theorem hGramChecks98_ok : HOk Tryz.prog hGramChecks98 := hok_eq mmGramChecks_ok hmGramChecks98_ok folGramChecks (lf := 100000) (k := 1000) (by kernel_rfl)
def hmGramChecks99 : List HE := hGramChecks98 :: hmGramChecks98
theorem hmGramChecks99_ok : ∀ x ∈ hmGramChecks99, HOk Tryz.prog x := hmemo_cons hGramChecks98_ok hmGramChecks98_ok
def hGramChecks99 : HE := ⟨9, [(.agg [(.sl 0 4 0 5 none 1),(.sl 1 2 0 3 none 1),(.sl 2 5 0 6 none 2)])], [bgramChecks14, bgramChecks15, bgramChecks31, bgramChecks17, bgramChecks18, bgramChecks19, bgramChecks20, bgramChecks21, bgramChecks22], [((.val (.tup [(eS []),(eI 1)])), [])]⟩
theorem hGramChecks99_ok : HOk Tryz.prog hGramChecks99 := hok_eq mmGramChecks_ok hmGramChecks99_ok folGramChecks (lf := 100000) (k := 1000) (by kernel_rfl)
def hmGramChecks100 : List HE := hGramChecks99 :: hmGramChecks99
theorem hmGramChecks100_ok : ∀ x ∈ hmGramChecks100, HOk Tryz.prog x := hmemo_cons hGramChecks99_ok hmGramChecks99_ok
def hGramChecks100 : HE := ⟨10, [(.agg [(.sl 0 4 0 5 none 1),(.sl 1 2 0 3 none 1),(.sl 2 5 0 6 none 2)])], [bgramChecks14, bgramChecks15, bgramChecks31, bgramChecks17, bgramChecks18, bgramChecks19, bgramChecks20, bgramChecks21, bgramChecks22], [((.val eB0), [])]⟩
theorem hGramChecks100_ok : HOk Tryz.prog hGramChecks100 := hok_eq mmGramChecks_ok hmGramChecks100_ok folGramChecks (lf := 100000) (k := 1000) (by kernel_rfl)
def hmGramChecks101 : List HE := hGramChecks100 :: hmGramChecks100
theorem hmGramChecks101_ok : ∀ x ∈ hmGramChecks101, HOk Tryz.prog x := hmemo_cons hGramChecks100_ok hmGramChecks100_ok
def bgramChecks33 : Blk := ⟨[(eI 100),(.sl 3 0 0 7 (some 7) 1),(eI 100),(.sl 4 0 0 1 none 1),(eI 101),(.sl 5 2 0 3 none 1),(eI 101),(.sl 6 0 0 1 none 1),(eI 102),(.sl 7 0 0 1 none 1),(eI 102),(.sl 8 2 0 3 none 1)],32,[(5,12)],6,0,false,6,none⟩
def bgramChecks34 : Blk := ⟨[(eI 0),(eI 0),(eI 0),(eI 0),(eI 0),(eI 0),(eI 0)],3,[(0,7)],1,0,false,0,none⟩
def hGramChecks101 : HE := ⟨26, [(.agg [(.sl 0 4 0 5 none 1),(.sl 1 2 0 3 none 1),(.sl 2 5 0 6 none 2)])], [bgramChecks14, bgramChecks15, bgramChecks33, bgramChecks34, bgramChecks18, bgramChecks19, bgramChecks20, bgramChecks21, bgramChecks22], [((.val eB1), [])]⟩
theorem hGramChecks101_ok : HOk Tryz.prog hGramChecks101 := hok_eq mmGramChecks_ok hmGramChecks101_ok folGramChecks (lf := 100000) (k := 1000) (by kernel_rfl)
def hmGramChecks102 : List HE := hGramChecks101 :: hmGramChecks101
theorem hmGramChecks102_ok : ∀ x ∈ hmGramChecks102, HOk Tryz.prog x := hmemo_cons hGramChecks101_ok hmGramChecks101_ok
def hGramChecks102 : HE := ⟨27, [(.agg [(.sl 0 4 0 5 none 1),(.sl 1 2 0 3 none 1),(.sl 2 5 0 6 none 2)])], [bgramChecks14, bgramChecks15, bgramChecks33, bgramChecks34, bgramChecks18, bgramChecks19, bgramChecks20, bgramChecks21, bgramChecks22], [((.val eB0), [])]⟩
theorem hGramChecks102_ok : HOk Tryz.prog hGramChecks102 := hok_eq mmGramChecks_ok hmGramChecks102_ok folGramChecks (lf := 100000) (k := 1000) (by kernel_rfl)
def hmGramChecks103 : List HE := hGramChecks102 :: hmGramChecks102
theorem hmGramChecks103_ok : ∀ x ∈ hmGramChecks103, HOk Tryz.prog x := hmemo_cons hGramChecks102_ok hmGramChecks102_ok
def hGramChecks103 : HE := ⟨8, [(.agg [(.sl 0 4 0 5 none 1),(.sl 1 2 0 3 none 1),(.sl 2 5 0 6 none 2)])], [bgramChecks14, bgramChecks15, bgramChecks33, bgramChecks34, bgramChecks18, bgramChecks19, bgramChecks20, bgramChecks21, bgramChecks22], [((.val (eI 1)), [])]⟩
theorem hGramChecks103_ok : HOk Tryz.prog hGramChecks103 := hok_eq mmGramChecks_ok hmGramChecks103_ok folGramChecks (lf := 100000) (k := 1000) (by kernel_rfl)
def hmGramChecks104 : List HE := hGramChecks103 :: hmGramChecks103
theorem hmGramChecks104_ok : ∀ x ∈ hmGramChecks104, HOk Tryz.prog x := hmemo_cons hGramChecks103_ok hmGramChecks103_ok
def hGramChecks104 : HE := ⟨9, [(.agg [(.sl 0 4 0 5 none 1),(.sl 1 2 0 3 none 1),(.sl 2 5 0 6 none 2)])], [bgramChecks14, bgramChecks15, bgramChecks33, bgramChecks34, bgramChecks18, bgramChecks19, bgramChecks20, bgramChecks21, bgramChecks22], [((.val (.tup [(eS []),(eI 1)])), [])]⟩
theorem hGramChecks104_ok : HOk Tryz.prog hGramChecks104 := hok_eq mmGramChecks_ok hmGramChecks104_ok folGramChecks (lf := 100000) (k := 1000) (by kernel_rfl)
def hmGramChecks105 : List HE := hGramChecks104 :: hmGramChecks104
theorem hmGramChecks105_ok : ∀ x ∈ hmGramChecks105, HOk Tryz.prog x := hmemo_cons hGramChecks104_ok hmGramChecks104_ok
def hGramChecks105 : HE := ⟨10, [(.agg [(.sl 0 4 0 5 none 1),(.sl 1 2 0 3 none 1),(.sl 2 5 0 6 none 2)])], [bgramChecks14, bgramChecks15, bgramChecks33, bgramChecks34, bgramChecks18, bgramChecks19, bgramChecks20, bgramChecks21, bgramChecks22], [((.val eB0), [])]⟩
theorem hGramChecks105_ok : HOk Tryz.prog hGramChecks105 := hok_eq mmGramChecks_ok hmGramChecks105_ok folGramChecks (lf := 100000) (k := 1000) (by kernel_rfl)
def hmGramChecks106 : List HE := hGramChecks105 :: hmGramChecks105
theorem hmGramChecks106_ok : ∀ x ∈ hmGramChecks106, HOk Tryz.prog x := hmemo_cons hGramChecks105_ok hmGramChecks105_ok
def bgramChecks35 : Blk := ⟨[(eI 100),(.sl 3 0 0 1 (some 1) 1),(eI 100),(.sl 4 0 0 1 none 1),(eI 101),(.sl 5 2 0 3 none 1),(eI 101),(.sl 6 0 0 1 none 1),(eI 102),(.sl 7 0 0 1 none 1),(eI 102),(.sl 8 2 0 3 none 1)],32,[(5,12)],6,0,false,6,none⟩
def bgramChecks36 : Blk := ⟨[(eI 0)],3,[(0,1)],1,0,false,0,none⟩
def hGramChecks106 : HE := ⟨26, [(.agg [(.sl 0 4 0 5 none 1),(.sl 1 2 0 3 none 1),(.sl 2 5 0 6 none 2)])], [bgramChecks14, bgramChecks15, bgramChecks35, bgramChecks36, bgramChecks18, bgramChecks19, bgramChecks20, bgramChecks21, bgramChecks22], [((.val eB1), [])]⟩
theorem hGramChecks106_ok : HOk Tryz.prog hGramChecks106 := hok_eq mmGramChecks_ok hmGramChecks106_ok folGramChecks (lf := 100000) (k := 1000) (by kernel_rfl)
def hmGramChecks107 : List HE := hGramChecks106 :: hmGramChecks106
theorem hmGramChecks107_ok : ∀ x ∈ hmGramChecks107, HOk Tryz.prog x := hmemo_cons hGramChecks106_ok hmGramChecks106_ok
def hGramChecks107 : HE := ⟨27, [(.agg [(.sl 0 4 0 5 none 1),(.sl 1 2 0 3 none 1),(.sl 2 5 0 6 none 2)])], [bgramChecks14, bgramChecks15, bgramChecks35, bgramChecks36, bgramChecks18, bgramChecks19, bgramChecks20, bgramChecks21, bgramChecks22], [((.val eB0), [])]⟩
theorem hGramChecks107_ok : HOk Tryz.prog hGramChecks107 := hok_eq mmGramChecks_ok hmGramChecks107_ok folGramChecks (lf := 100000) (k := 1000) (by kernel_rfl)
def hmGramChecks108 : List HE := hGramChecks107 :: hmGramChecks107
theorem hmGramChecks108_ok : ∀ x ∈ hmGramChecks108, HOk Tryz.prog x := hmemo_cons hGramChecks107_ok hmGramChecks107_ok
def hGramChecks108 : HE := ⟨8, [(.agg [(.sl 0 4 0 5 none 1),(.sl 1 2 0 3 none 1),(.sl 2 5 0 6 none 2)])], [bgramChecks14, bgramChecks15, bgramChecks35, bgramChecks36, bgramChecks18, bgramChecks19, bgramChecks20, bgramChecks21, bgramChecks22], [((.val (eI 1)), [])]⟩
theorem hGramChecks108_ok : HOk Tryz.prog hGramChecks108 := hok_eq mmGramChecks_ok hmGramChecks108_ok folGramChecks (lf := 100000) (k := 1000) (by kernel_rfl)
def hmGramChecks109 : List HE := hGramChecks108 :: hmGramChecks108
theorem hmGramChecks109_ok : ∀ x ∈ hmGramChecks109, HOk Tryz.prog x := hmemo_cons hGramChecks108_ok hmGramChecks108_ok
def hGramChecks109 : HE := ⟨9, [(.agg [(.sl 0 4 0 5 none 1),(.sl 1 2 0 3 none 1),(.sl 2 5 0 6 none 2)])], [bgramChecks14, bgramChecks15, bgramChecks35, bgramChecks36, bgramChecks18, bgramChecks19, bgramChecks20, bgramChecks21, bgramChecks22], [((.val (.tup [(eS []),(eI 1)])), [])]⟩
theorem hGramChecks109_ok : HOk Tryz.prog hGramChecks109 := hok_eq mmGramChecks_ok hmGramChecks109_ok folGramChecks (lf := 100000) (k := 1000) (by kernel_rfl)
def hmGramChecks110 : List HE := hGramChecks109 :: hmGramChecks109
theorem hmGramChecks110_ok : ∀ x ∈ hmGramChecks110, HOk Tryz.prog x := hmemo_cons hGramChecks109_ok hmGramChecks109_ok
def hGramChecks110 : HE := ⟨10, [(.agg [(.sl 0 4 0 5 none 1),(.sl 1 2 0 3 none 1),(.sl 2 5 0 6 none 2)])], [bgramChecks14, bgramChecks15, bgramChecks35, bgramChecks36, bgramChecks18, bgramChecks19, bgramChecks20, bgramChecks21, bgramChecks22], [((.val eB0), [])]⟩
theorem hGramChecks110_ok : HOk Tryz.prog hGramChecks110 := hok_eq mmGramChecks_ok hmGramChecks110_ok folGramChecks (lf := 100000) (k := 1000) (by kernel_rfl)
def hmGramChecks111 : List HE := hGramChecks110 :: hmGramChecks110
theorem hmGramChecks111_ok : ∀ x ∈ hmGramChecks111, HOk Tryz.prog x := hmemo_cons hGramChecks110_ok hmGramChecks110_ok
def bgramChecks37 : Blk := ⟨[(eI 6)],3,[(0,1)],1,0,false,0,none⟩
def hGramChecks111 : HE := ⟨26, [(.agg [(.sl 0 4 0 5 none 1),(.sl 1 2 0 3 none 1),(.sl 2 5 0 6 none 2)])], [bgramChecks14, bgramChecks15, bgramChecks35, bgramChecks37, bgramChecks18, bgramChecks19, bgramChecks20, bgramChecks21, bgramChecks22], [((.val eB1), [])]⟩
theorem hGramChecks111_ok : HOk Tryz.prog hGramChecks111 := hok_eq mmGramChecks_ok hmGramChecks111_ok folGramChecks (lf := 100000) (k := 1000) (by kernel_rfl)
def hmGramChecks112 : List HE := hGramChecks111 :: hmGramChecks111
theorem hmGramChecks112_ok : ∀ x ∈ hmGramChecks112, HOk Tryz.prog x := hmemo_cons hGramChecks111_ok hmGramChecks111_ok
def hGramChecks112 : HE := ⟨27, [(.agg [(.sl 0 4 0 5 none 1),(.sl 1 2 0 3 none 1),(.sl 2 5 0 6 none 2)])], [bgramChecks14, bgramChecks15, bgramChecks35, bgramChecks37, bgramChecks18, bgramChecks19, bgramChecks20, bgramChecks21, bgramChecks22], [((.val eB0), [])]⟩
theorem hGramChecks112_ok : HOk Tryz.prog hGramChecks112 := hok_eq mmGramChecks_ok hmGramChecks112_ok folGramChecks (lf := 100000) (k := 1000) (by kernel_rfl)
def hmGramChecks113 : List HE := hGramChecks112 :: hmGramChecks112
theorem hmGramChecks113_ok : ∀ x ∈ hmGramChecks113, HOk Tryz.prog x := hmemo_cons hGramChecks112_ok hmGramChecks112_ok
def hGramChecks113 : HE := ⟨8, [(.agg [(.sl 0 4 0 5 none 1),(.sl 1 2 0 3 none 1),(.sl 2 5 0 6 none 2)])], [bgramChecks14, bgramChecks15, bgramChecks35, bgramChecks37, bgramChecks18, bgramChecks19, bgramChecks20, bgramChecks21, bgramChecks22], [((.val (eI 1)), [])]⟩
theorem hGramChecks113_ok : HOk Tryz.prog hGramChecks113 := hok_eq mmGramChecks_ok hmGramChecks113_ok folGramChecks (lf := 100000) (k := 1000) (by kernel_rfl)
def hmGramChecks114 : List HE := hGramChecks113 :: hmGramChecks113
theorem hmGramChecks114_ok : ∀ x ∈ hmGramChecks114, HOk Tryz.prog x := hmemo_cons hGramChecks113_ok hmGramChecks113_ok
def hGramChecks114 : HE := ⟨9, [(.agg [(.sl 0 4 0 5 none 1),(.sl 1 2 0 3 none 1),(.sl 2 5 0 6 none 2)])], [bgramChecks14, bgramChecks15, bgramChecks35, bgramChecks37, bgramChecks18, bgramChecks19, bgramChecks20, bgramChecks21, bgramChecks22], [((.val (.tup [(eS []),(eI 1)])), [])]⟩
theorem hGramChecks114_ok : HOk Tryz.prog hGramChecks114 := hok_eq mmGramChecks_ok hmGramChecks114_ok folGramChecks (lf := 100000) (k := 1000) (by kernel_rfl)
def hmGramChecks115 : List HE := hGramChecks114 :: hmGramChecks114
theorem hmGramChecks115_ok : ∀ x ∈ hmGramChecks115, HOk Tryz.prog x := hmemo_cons hGramChecks114_ok hmGramChecks114_ok
def hGramChecks115 : HE := ⟨10, [(.agg [(.sl 0 4 0 5 none 1),(.sl 1 2 0 3 none 1),(.sl 2 5 0 6 none 2)])], [bgramChecks14, bgramChecks15, bgramChecks35, bgramChecks37, bgramChecks18, bgramChecks19, bgramChecks20, bgramChecks21, bgramChecks22], [((.val eB0), [])]⟩
theorem hGramChecks115_ok : HOk Tryz.prog hGramChecks115 := hok_eq mmGramChecks_ok hmGramChecks115_ok folGramChecks (lf := 100000) (k := 1000) (by kernel_rfl)
def hmGramChecks116 : List HE := hGramChecks115 :: hmGramChecks115
theorem hmGramChecks116_ok : ∀ x ∈ hmGramChecks116, HOk Tryz.prog x := hmemo_cons hGramChecks115_ok hmGramChecks115_ok
def bgramChecks38 : Blk := ⟨[(eI 103)],3,[(0,1)],1,0,false,0,none⟩
def hGramChecks116 : HE := ⟨26, [(.agg [(.sl 0 4 0 5 none 1),(.sl 1 2 0 3 none 1),(.sl 2 5 0 6 none 2)])], [bgramChecks14, bgramChecks15, bgramChecks35, bgramChecks38, bgramChecks18, bgramChecks19, bgramChecks20, bgramChecks21, bgramChecks22], [((.val eB1), [])]⟩
theorem hGramChecks116_ok : HOk Tryz.prog hGramChecks116 := hok_eq mmGramChecks_ok hmGramChecks116_ok folGramChecks (lf := 100000) (k := 1000) (by kernel_rfl)
def hmGramChecks117 : List HE := hGramChecks116 :: hmGramChecks116
theorem hmGramChecks117_ok : ∀ x ∈ hmGramChecks117, HOk Tryz.prog x := hmemo_cons hGramChecks116_ok hmGramChecks116_ok
def hGramChecks117 : HE := ⟨27, [(.agg [(.sl 0 4 0 5 none 1),(.sl 1 2 0 3 none 1),(.sl 2 5 0 6 none 2)])], [bgramChecks14, bgramChecks15, bgramChecks35, bgramChecks38, bgramChecks18, bgramChecks19, bgramChecks20, bgramChecks21, bgramChecks22], [((.val eB0), [])]⟩
theorem hGramChecks117_ok : HOk Tryz.prog hGramChecks117 := hok_eq mmGramChecks_ok hmGramChecks117_ok folGramChecks (lf := 100000) (k := 1000) (by kernel_rfl)
def hmGramChecks118 : List HE := hGramChecks117 :: hmGramChecks117
theorem hmGramChecks118_ok : ∀ x ∈ hmGramChecks118, HOk Tryz.prog x := hmemo_cons hGramChecks117_ok hmGramChecks117_ok
def hGramChecks118 : HE := ⟨8, [(.agg [(.sl 0 4 0 5 none 1),(.sl 1 2 0 3 none 1),(.sl 2 5 0 6 none 2)])], [bgramChecks14, bgramChecks15, bgramChecks35, bgramChecks38, bgramChecks18, bgramChecks19, bgramChecks20, bgramChecks21, bgramChecks22], [((.val (eI 1)), [])]⟩
theorem hGramChecks118_ok : HOk Tryz.prog hGramChecks118 := hok_eq mmGramChecks_ok hmGramChecks118_ok folGramChecks (lf := 100000) (k := 1000) (by kernel_rfl)
def hmGramChecks119 : List HE := hGramChecks118 :: hmGramChecks118
theorem hmGramChecks119_ok : ∀ x ∈ hmGramChecks119, HOk Tryz.prog x := hmemo_cons hGramChecks118_ok hmGramChecks118_ok
def hGramChecks119 : HE := ⟨9, [(.agg [(.sl 0 4 0 5 none 1),(.sl 1 2 0 3 none 1),(.sl 2 5 0 6 none 2)])], [bgramChecks14, bgramChecks15, bgramChecks35, bgramChecks38, bgramChecks18, bgramChecks19, bgramChecks20, bgramChecks21, bgramChecks22], [((.val (.tup [(eS []),(eI 1)])), [])]⟩
theorem hGramChecks119_ok : HOk Tryz.prog hGramChecks119 := hok_eq mmGramChecks_ok hmGramChecks119_ok folGramChecks (lf := 100000) (k := 1000) (by kernel_rfl)
def hmGramChecks120 : List HE := hGramChecks119 :: hmGramChecks119
theorem hmGramChecks120_ok : ∀ x ∈ hmGramChecks120, HOk Tryz.prog x := hmemo_cons hGramChecks119_ok hmGramChecks119_ok
def hGramChecks120 : HE := ⟨10, [(.agg [(.sl 0 4 0 5 none 1),(.sl 1 2 0 3 none 1),(.sl 2 5 0 6 none 2)])], [bgramChecks14, bgramChecks15, bgramChecks35, bgramChecks38, bgramChecks18, bgramChecks19, bgramChecks20, bgramChecks21, bgramChecks22], [((.val eB0), [])]⟩
theorem hGramChecks120_ok : HOk Tryz.prog hGramChecks120 := hok_eq mmGramChecks_ok hmGramChecks120_ok folGramChecks (lf := 100000) (k := 1000) (by kernel_rfl)
def hmGramChecks121 : List HE := hGramChecks120 :: hmGramChecks120
theorem hmGramChecks121_ok : ∀ x ∈ hmGramChecks121, HOk Tryz.prog x := hmemo_cons hGramChecks120_ok hmGramChecks120_ok
def bgramChecks39 : Blk := ⟨[(eI 100),(.sl 3 2 0 3 none 1),(eI 100),(.sl 3 2 0 3 none 1),(eI 101),(.sl 4 2 0 3 none 1),(eI 101),(.sl 5 0 0 1 none 1),(eI 102),(.sl 6 0 0 1 none 1),(eI 102),(.sl 7 2 0 3 none 1)],32,[(5,12),(0,2)],6,0,false,6,none⟩
def hGramChecks121 : HE := ⟨26, [(.agg [(.sl 0 4 0 5 none 1),(.sl 1 2 0 3 none 1),(.sl 2 5 0 6 none 2)])], [bgramChecks14, bgramChecks15, bgramChecks39, bgramChecks17, bgramChecks19, bgramChecks20, bgramChecks21, bgramChecks22], [((.val eB1), [])]⟩
theorem hGramChecks121_ok : HOk Tryz.prog hGramChecks121 := hok_eq mmGramChecks_ok hmGramChecks121_ok folGramChecks (lf := 100000) (k := 1000) (by kernel_rfl)
def hmGramChecks122 : List HE := hGramChecks121 :: hmGramChecks121
theorem hmGramChecks122_ok : ∀ x ∈ hmGramChecks122, HOk Tryz.prog x := hmemo_cons hGramChecks121_ok hmGramChecks121_ok
def bgramChecks40 : Blk := ⟨[(eI 100),(.sl 1 2 0 3 none 1),(eI 100),(.sl 1 2 0 3 none 1),(eI 101),(.sl 2 2 0 3 none 1),(eI 101),(.sl 3 0 0 1 none 1),(eI 102),(.sl 4 0 0 1 none 1),(eI 102),(.sl 5 2 0 3 none 1)],32,[(5,12),(0,2)],6,0,false,6,none⟩
def hGramChecks122 : HE := ⟨59, [(.sl 0 5 0 0 none 2),(.agg [(eI 100),(.sl 1 2 0 3 none 1)])], [bgramChecks40, bgramChecks17, bgramChecks19, bgramChecks20, bgramChecks21, bgramChecks22], [((.val eB0), [])]⟩
theorem hGramChecks122_ok : HOk Tryz.prog hGramChecks122 := hok_eq mmGramChecks_ok hmGramChecks122_ok folGramChecks (lf := 100000) (k := 1000) (by kernel_rfl)
def hmGramChecks123 : List HE := hGramChecks122 :: hmGramChecks122
theorem hmGramChecks123_ok : ∀ x ∈ hmGramChecks123, HOk Tryz.prog x := hmemo_cons hGramChecks122_ok hmGramChecks122_ok
def hGramChecks123 : HE := ⟨59, [(.sl 0 5 0 1 none 2),(.agg [(eI 100),(.sl 1 2 0 3 none 1)])], [bgramChecks40, bgramChecks17, bgramChecks19, bgramChecks20, bgramChecks21, bgramChecks22], [((.val eB1), [])]⟩
theorem hGramChecks123_ok : HOk Tryz.prog hGramChecks123 := hok_eq mmGramChecks_ok hmGramChecks123_ok folGramChecks (lf := 100000) (k := 1000) (by kernel_rfl)
def hmGramChecks124 : List HE := hGramChecks123 :: hmGramChecks123
theorem hmGramChecks124_ok : ∀ x ∈ hmGramChecks124, HOk Tryz.prog x := hmemo_cons hGramChecks123_ok hmGramChecks123_ok
def hGramChecks124 : HE := ⟨27, [(.agg [(.sl 0 4 0 5 none 1),(.sl 1 2 0 3 none 1),(.sl 2 5 0 6 none 2)])], [bgramChecks14, bgramChecks15, bgramChecks39, bgramChecks17, bgramChecks19, bgramChecks20, bgramChecks21, bgramChecks22], [((.val eB0), [])]⟩
theorem hGramChecks124_ok : HOk Tryz.prog hGramChecks124 := hok_eq mmGramChecks_ok hmGramChecks124_ok folGramChecks (lf := 100000) (k := 1000) (by kernel_rfl)
def hmGramChecks125 : List HE := hGramChecks124 :: hmGramChecks124
theorem hmGramChecks125_ok : ∀ x ∈ hmGramChecks125, HOk Tryz.prog x := hmemo_cons hGramChecks124_ok hmGramChecks124_ok
def hGramChecks125 : HE := ⟨8, [(.agg [(.sl 0 4 0 5 none 1),(.sl 1 2 0 3 none 1),(.sl 2 5 0 6 none 2)])], [bgramChecks14, bgramChecks15, bgramChecks39, bgramChecks17, bgramChecks19, bgramChecks20, bgramChecks21, bgramChecks22], [((.val (eI 1)), [])]⟩
theorem hGramChecks125_ok : HOk Tryz.prog hGramChecks125 := hok_eq mmGramChecks_ok hmGramChecks125_ok folGramChecks (lf := 100000) (k := 1000) (by kernel_rfl)
def hmGramChecks126 : List HE := hGramChecks125 :: hmGramChecks125
theorem hmGramChecks126_ok : ∀ x ∈ hmGramChecks126, HOk Tryz.prog x := hmemo_cons hGramChecks125_ok hmGramChecks125_ok
def hGramChecks126 : HE := ⟨9, [(.agg [(.sl 0 4 0 5 none 1),(.sl 1 2 0 3 none 1),(.sl 2 5 0 6 none 2)])], [bgramChecks14, bgramChecks15, bgramChecks39, bgramChecks17, bgramChecks19, bgramChecks20, bgramChecks21, bgramChecks22], [((.val (.tup [(eS []),(eI 1)])), [])]⟩
theorem hGramChecks126_ok : HOk Tryz.prog hGramChecks126 := hok_eq mmGramChecks_ok hmGramChecks126_ok folGramChecks (lf := 100000) (k := 1000) (by kernel_rfl)
def hmGramChecks127 : List HE := hGramChecks126 :: hmGramChecks126
theorem hmGramChecks127_ok : ∀ x ∈ hmGramChecks127, HOk Tryz.prog x := hmemo_cons hGramChecks126_ok hmGramChecks126_ok
def hGramChecks127 : HE := ⟨10, [(.agg [(.sl 0 4 0 5 none 1),(.sl 1 2 0 3 none 1),(.sl 2 5 0 6 none 2)])], [bgramChecks14, bgramChecks15, bgramChecks39, bgramChecks17, bgramChecks19, bgramChecks20, bgramChecks21, bgramChecks22], [((.val eB0), [])]⟩
theorem hGramChecks127_ok : HOk Tryz.prog hGramChecks127 := hok_eq mmGramChecks_ok hmGramChecks127_ok folGramChecks (lf := 100000) (k := 1000) (by kernel_rfl)
def hmGramChecks128 : List HE := hGramChecks127 :: hmGramChecks127
theorem hmGramChecks128_ok : ∀ x ∈ hmGramChecks128, HOk Tryz.prog x := hmemo_cons hGramChecks127_ok hmGramChecks127_ok
def hGramChecks128 : HE := ⟨54, [(eS [90])], [], [((.val eB1), [])]⟩
theorem hGramChecks128_ok : HOk Tryz.prog hGramChecks128 := hok_eq mmGramChecks_ok hmGramChecks128_ok folGramChecks (lf := 100000) (k := 1000) (by kernel_rfl)
def hmGramChecks129 : List HE := hGramChecks128 :: hmGramChecks128
theorem hmGramChecks129_ok : ∀ x ∈ hmGramChecks129, HOk Tryz.prog x := hmemo_cons hGramChecks128_ok hmGramChecks128_ok
def bgramChecks41 : Blk := ⟨[(eS [69]),(eS [84]),(eS [70]),(eS [90])],9,[(3,4),(2,3),(1,2),(0,1)],4,0,false,3,none⟩
def hGramChecks129 : HE := ⟨26, [(.agg [(.sl 0 4 0 5 none 1),(.sl 1 3 0 4 none 1),(.sl 2 5 0 6 none 2)])], [bgramChecks14, bgramChecks41, bgramChecks16, bgramChecks17, bgramChecks18, bgramChecks19, bgramChecks20, bgramChecks21, bgramChecks22], [((.val eB1), [])]⟩
theorem hGramChecks129_ok : HOk Tryz.prog hGramChecks129 := hok_eq mmGramChecks_ok hmGramChecks129_ok folGramChecks (lf := 100000) (k := 1000) (by kernel_rfl)
def hmGramChecks130 : List HE := hGramChecks129 :: hmGramChecks129
theorem hmGramChecks130_ok : ∀ x ∈ hmGramChecks130, HOk Tryz.prog x := hmemo_cons hGramChecks129_ok hmGramChecks129_ok
def bgramChecks42 : Blk := ⟨[(eI 100),(.sl 1 2 0 3 none 1),(eI 100),(.sl 2 0 0 1 none 1),(eI 101),(.sl 3 2 0 3 none 1),(eI 101),(.sl 4 0 0 1 none 1),(eI 102),(.sl 5 0 0 1 none 1),(eI 102),(.sl 6 2 0 3 none 1)],32,[(5,12),(4,10),(3,8),(2,6),(1,4),(0,2)],6,0,false,5,none⟩
def hGramChecks130 : HE := ⟨59, [(.sl 0 5 0 0 none 2),(.agg [(eI 100),(.sl 1 2 0 3 none 1)])], [bgramChecks42, bgramChecks17, bgramChecks18, bgramChecks19, bgramChecks20, bgramChecks21, bgramChecks22], [((.val eB0), [])]⟩
theorem hGramChecks130_ok : HOk Tryz.prog hGramChecks130 := hok_eq mmGramChecks_ok hmGramChecks130_ok folGramChecks (lf := 100000) (k := 1000) (by kernel_rfl)
def hmGramChecks131 : List HE := hGramChecks130 :: hmGramChecks130
theorem hmGramChecks131_ok : ∀ x ∈ hmGramChecks131, HOk Tryz.prog x := hmemo_cons hGramChecks130_ok hmGramChecks130_ok
def hGramChecks131 : HE := ⟨59, [(.sl 0 5 0 1 none 2),(.agg [(eI 100),(.sl 2 0 0 1 none 1)])], [bgramChecks42, bgramChecks17, bgramChecks18, bgramChecks19, bgramChecks20, bgramChecks21, bgramChecks22], [((.val eB0), [])]⟩
theorem hGramChecks131_ok : HOk Tryz.prog hGramChecks131 := hok_eq mmGramChecks_ok hmGramChecks131_ok folGramChecks (lf := 100000) (k := 1000) (by kernel_rfl)
def hmGramChecks132 : List HE := hGramChecks131 :: hmGramChecks131
theorem hmGramChecks132_ok : ∀ x ∈ hmGramChecks132, HOk Tryz.prog x := hmemo_cons hGramChecks131_ok hmGramChecks131_ok
def hGramChecks132 : HE := ⟨59, [(.sl 0 5 0 2 none 2),(.agg [(eI 101),(.sl 3 2 0 3 none 1)])], [bgramChecks42, bgramChecks17, bgramChecks18, bgramChecks19, bgramChecks20, bgramChecks21, bgramChecks22], [((.val eB0), [])]⟩
theorem hGramChecks132_ok : HOk Tryz.prog hGramChecks132 := hok_eq mmGramChecks_ok hmGramChecks132_ok folGramChecks (lf := 100000) (k := 1000) (by kernel_rfl)
def hmGramChecks133 : List HE := hGramChecks132 :: hmGramChecks132
theorem hmGramChecks133_ok : ∀ x ∈ hmGramChecks133, HOk Tryz.prog x := hmemo_cons hGramChecks132_ok hmGramChecks132_ok
def hGramChecks133 : HE := ⟨59, [(.sl 0 5 0 3 none 2),(.agg [(eI 101),(.sl 4 0 0 1 none 1)])], [bgramChecks42, bgramChecks17, bgramChecks18, bgramChecks19, bgramChecks20, bgramChecks21, bgramChecks22], [((.val eB0), [])]⟩
theorem hGramChecks133_ok : HOk Tryz.prog hGramChecks133 := hok_eq mmGramChecks_ok hmGramChecks133_ok folGramChecks (lf := 100000) (k := 1000) (by kernel_rfl)
def hmGramChecks134 : List HE := hGramChecks133 :: hmGramChecks133
theorem hmGramChecks134_ok : ∀ x ∈ hmGramChecks134, HOk Tryz.prog x := hmemo_cons hGramChecks133_ok hmGramChecks133_ok
def hGramChecks134 : HE := ⟨59, [(.sl 0 5 0 4 none 2),(.agg [(eI 102),(.sl 5 0 0 1 none 1)])], [bgramChecks42, bgramChecks17, bgramChecks18, bgramChecks19, bgramChecks20, bgramChecks21, bgramChecks22], [((.val eB0), [])]⟩
theorem hGramChecks134_ok : HOk Tryz.prog hGramChecks134 := hok_eq mmGramChecks_ok hmGramChecks134_ok folGramChecks (lf := 100000) (k := 1000) (by kernel_rfl)
def hmGramChecks135 : List HE := hGramChecks134 :: hmGramChecks134
theorem hmGramChecks135_ok : ∀ x ∈ hmGramChecks135, HOk Tryz.prog x := hmemo_cons hGramChecks134_ok hmGramChecks134_ok
def hGramChecks135 : HE := ⟨59, [(.sl 0 5 0 5 none 2),(.agg [(eI 102),(.sl 6 2 0 3 none 1)])], [bgramChecks42, bgramChecks17, bgramChecks18, bgramChecks19, bgramChecks20, bgramChecks21, bgramChecks22], [((.val eB0), [])]⟩
theorem hGramChecks135_ok : HOk Tryz.prog hGramChecks135 := hok_eq mmGramChecks_ok hmGramChecks135_ok folGramChecks (lf := 100000) (k := 1000) (by kernel_rfl)
def hmGramChecks136 : List HE := hGramChecks135 :: hmGramChecks135
theorem hmGramChecks136_ok : ∀ x ∈ hmGramChecks136, HOk Tryz.prog x := hmemo_cons hGramChecks135_ok hmGramChecks135_ok
def hGramChecks136 : HE := ⟨27, [(.agg [(.sl 0 4 0 5 none 1),(.sl 1 3 0 4 none 1),(.sl 2 5 0 6 none 2)])], [bgramChecks14, bgramChecks41, bgramChecks16, bgramChecks17, bgramChecks18, bgramChecks19, bgramChecks20, bgramChecks21, bgramChecks22], [((.val eB1), [])]⟩
theorem hGramChecks136_ok : HOk Tryz.prog hGramChecks136 := hok_eq mmGramChecks_ok hmGramChecks136_ok folGramChecks (lf := 100000) (k := 1000) (by kernel_rfl)
def hmGramChecks137 : List HE := hGramChecks136 :: hmGramChecks136
theorem hmGramChecks137_ok : ∀ x ∈ hmGramChecks137, HOk Tryz.prog x := hmemo_cons hGramChecks136_ok hmGramChecks136_ok
def hGramChecks137 : HE := ⟨8, [(.agg [(.sl 0 4 0 5 none 1),(.sl 1 3 0 4 none 1),(.sl 2 5 0 6 none 2)])], [bgramChecks14, bgramChecks41, bgramChecks16, bgramChecks17, bgramChecks18, bgramChecks19, bgramChecks20, bgramChecks21, bgramChecks22], [((.val (eI 1)), [])]⟩
theorem hGramChecks137_ok : HOk Tryz.prog hGramChecks137 := hok_eq mmGramChecks_ok hmGramChecks137_ok folGramChecks (lf := 100000) (k := 1000) (by kernel_rfl)
def hmGramChecks138 : List HE := hGramChecks137 :: hmGramChecks137
theorem hmGramChecks138_ok : ∀ x ∈ hmGramChecks138, HOk Tryz.prog x := hmemo_cons hGramChecks137_ok hmGramChecks137_ok
def hGramChecks138 : HE := ⟨9, [(.agg [(.sl 0 4 0 5 none 1),(.sl 1 3 0 4 none 1),(.sl 2 5 0 6 none 2)])], [bgramChecks14, bgramChecks41, bgramChecks16, bgramChecks17, bgramChecks18, bgramChecks19, bgramChecks20, bgramChecks21, bgramChecks22], [((.val (.tup [(eS []),(eI 1)])), [])]⟩
theorem hGramChecks138_ok : HOk Tryz.prog hGramChecks138 := hok_eq mmGramChecks_ok hmGramChecks138_ok folGramChecks (lf := 100000) (k := 1000) (by kernel_rfl)
def hmGramChecks139 : List HE := hGramChecks138 :: hmGramChecks138
theorem hmGramChecks139_ok : ∀ x ∈ hmGramChecks139, HOk Tryz.prog x := hmemo_cons hGramChecks138_ok hmGramChecks138_ok
def hGramChecks139 : HE := ⟨63, [(eU 90)], [], [((.val eB1), [])]⟩
theorem hGramChecks139_ok : HOk Tryz.prog hGramChecks139 := hok_eq mmGramChecks_ok hmGramChecks139_ok folGramChecks (lf := 100000) (k := 1000) (by kernel_rfl)
def hmGramChecks140 : List HE := hGramChecks139 :: hmGramChecks139
theorem hmGramChecks140_ok : ∀ x ∈ hmGramChecks140, HOk Tryz.prog x := hmemo_cons hGramChecks139_ok hmGramChecks139_ok
def hGramChecks140 : HE := ⟨31, [(eS [90])], [], [((.val eB1), [])]⟩
theorem hGramChecks140_ok : HOk Tryz.prog hGramChecks140 := hok_eq mmGramChecks_ok hmGramChecks140_ok folGramChecks (lf := 100000) (k := 1000) (by kernel_rfl)
def hmGramChecks141 : List HE := hGramChecks140 :: hmGramChecks140
theorem hmGramChecks141_ok : ∀ x ∈ hmGramChecks141, HOk Tryz.prog x := hmemo_cons hGramChecks140_ok hmGramChecks140_ok
def hGramChecks141 : HE := ⟨10, [(.agg [(.sl 0 4 0 5 none 1),(.sl 1 3 0 4 none 1),(.sl 2 5 0 6 none 2)])], [bgramChecks14, bgramChecks41, bgramChecks16, bgramChecks17, bgramChecks18, bgramChecks19, bgramChecks20, bgramChecks21, bgramChecks22], [((.val eB0), [])]⟩
theorem hGramChecks141_ok : HOk Tryz.prog hGramChecks141 := hok_eq mmGramChecks_ok hmGramChecks141_ok folGramChecks (lf := 100000) (k := 1000) (by kernel_rfl)
def hmGramChecks142 : List HE := hGramChecks141 :: hmGramChecks141
theorem hmGramChecks142_ok : ∀ x ∈ hmGramChecks142, HOk Tryz.prog x := hmemo_cons hGramChecks141_ok hmGramChecks141_ok
def hGramChecks142 : HE := ⟨81, [(eS [83,58,32,97,32,83,32,124,32,98])], [], [((.val (.tup [(.agg [(eI 1),(eS [83]),(eI 0),(eI 0)]),(eI 1),eB1])), [])]⟩
theorem hGramChecks142_ok : HOk Tryz.prog hGramChecks142 := hok_eq mmGramChecks_ok hmGramChecks142_ok folGramChecks (lf := 100000) (k := 1000) (by kernel_rfl)
def hmGramChecks143 : List HE := hGramChecks142 :: hmGramChecks142
theorem hmGramChecks143_ok : ∀ x ∈ hmGramChecks143, HOk Tryz.prog x := hmemo_cons hGramChecks142_ok hmGramChecks142_ok
def hGramChecks143 : HE := ⟨81, [(eS [58,32,97,32,83,32,124,32,98])], [], [((.val (.tup [(.agg [(eI 3),(eS [58]),(eI 0),(eI 0)]),(eI 1),eB1])), [])]⟩
theorem hGramChecks143_ok : HOk Tryz.prog hGramChecks143 := hok_eq mmGramChecks_ok hmGramChecks143_ok folGramChecks (lf := 100000) (k := 1000) (by kernel_rfl)
def hmGramChecks144 : List HE := hGramChecks143 :: hmGramChecks143
theorem hmGramChecks144_ok : ∀ x ∈ hmGramChecks144, HOk Tryz.prog x := hmemo_cons hGramChecks143_ok hmGramChecks143_ok
def hGramChecks144 : HE := ⟨81, [(eS [97,32,83,32,124,32,98])], [], [((.val (.tup [(.agg [(eI 2),(eS [97]),(eI 0),(eI 0)]),(eI 1),eB1])), [])]⟩
theorem hGramChecks144_ok : HOk Tryz.prog hGramChecks144 := hok_eq mmGramChecks_ok hmGramChecks144_ok folGramChecks (lf := 100000) (k := 1000) (by kernel_rfl)
def hmGramChecks145 : List HE := hGramChecks144 :: hmGramChecks144
theorem hmGramChecks145_ok : ∀ x ∈ hmGramChecks145, HOk Tryz.prog x := hmemo_cons hGramChecks144_ok hmGramChecks144_ok
def hGramChecks145 : HE := ⟨81, [(eS [83,32,124,32,98])], [], [((.val (.tup [(.agg [(eI 1),(eS [83]),(eI 0),(eI 0)]),(eI 1),eB1])), [])]⟩
theorem hGramChecks145_ok : HOk Tryz.prog hGramChecks145 := hok_eq mmGramChecks_ok hmGramChecks145_ok folGramChecks (lf := 100000) (k := 1000) (by kernel_rfl)
def hmGramChecks146 : List HE := hGramChecks145 :: hmGramChecks145
theorem hmGramChecks146_ok : ∀ x ∈ hmGramChecks146, HOk Tryz.prog x := hmemo_cons hGramChecks145_ok hmGramChecks145_ok
def hGramChecks146 : HE := ⟨81, [(eS [124,32,98])], [], [((.val (.tup [(.agg [(eI 4),(eS [124]),(eI 0),(eI 0)]),(eI 1),eB1])), [])]⟩
theorem hGramChecks146_ok : HOk Tryz.prog hGramChecks146 := hok_eq mmGramChecks_ok hmGramChecks146_ok folGramChecks (lf := 100000) (k := 1000) (by kernel_rfl)
def hmGramChecks147 : List HE := hGramChecks146 :: hmGramChecks146
theorem hmGramChecks147_ok : ∀ x ∈ hmGramChecks147, HOk Tryz.prog x := hmemo_cons hGramChecks146_ok hmGramChecks146_ok
def hGramChecks147 : HE := ⟨54, [(eS [98])], [], [((.val eB1), [])]⟩
theorem hGramChecks147_ok : HOk Tryz.prog hGramChecks147 := hok_eq mmGramChecks_ok hmGramChecks147_ok folGramChecks (lf := 100000) (k := 1000) (by kernel_rfl)
def hmGramChecks148 : List HE := hGramChecks147 :: hmGramChecks147
theorem hmGramChecks148_ok : ∀ x ∈ hmGramChecks148, HOk Tryz.prog x := hmemo_cons hGramChecks147_ok hmGramChecks147_ok
def hGramChecks148 : HE := ⟨81, [(eS [98])], [], [((.val (.tup [(.agg [(eI 2),(eS [98]),(eI 0),(eI 0)]),(eI 1),eB1])), [])]⟩
theorem hGramChecks148_ok : HOk Tryz.prog hGramChecks148 := hok_eq mmGramChecks_ok hmGramChecks148_ok folGramChecks (lf := 100000) (k := 1000) (by kernel_rfl)
def hmGramChecks149 : List HE := hGramChecks148 :: hmGramChecks148
theorem hmGramChecks149_ok : ∀ x ∈ hmGramChecks149, HOk Tryz.prog x := hmemo_cons hGramChecks148_ok hmGramChecks148_ok
def bgramChecks43 : Blk := ⟨[(eI 1),(eS [83]),(eI 1),(eI 1),(eI 3),(eS [58]),(eI 1),(eI 2),(eI 2),(eS [97]),(eI 1),(eI 4),(eI 1),(eS [83]),(eI 1),(eI 6),(eI 4),(eS [124]),(eI 1),(eI 8),(eI 2),(eS [98]),(eI 1),(eI 10),(eI 5),(eS []),(eI 1),(eI 11)],104,[(1,28),(0,24)],2,0,false,1,none⟩
def hGramChecks149 : HE := ⟨38, [(eS [83,58,32,97,32,83,32,124,32,98])], [], [((.val (.tup [(.sl 0 1 0 7 none 4),(eI 0),(eI 0),(eI 0)])), [bgramChecks43])]⟩
theorem hGramChecks149_ok : HOk Tryz.prog hGramChecks149 := hok_eq mmGramChecks_ok hmGramChecks149_ok folGramChecks (lf := 100000) (k := 1000) (by kernel_rfl)
def hmGramChecks150 : List HE := hGramChecks149 :: hmGramChecks149
theorem hmGramChecks150_ok : ∀ x ∈ hmGramChecks150, HOk Tryz.prog x := hmemo_cons hGramChecks149_ok hmGramChecks149_ok
def bgramChecks44 : Blk := ⟨[(.sl 2 1 0 2 none 4),(eI 2),(eS [97]),(eI 1),(eI 4),(.sl 3 0 0 1 none 4),(eI 2),(eS [98]),(eI 1),(eI 10)],113,[(1,10),(0,5)],2,0,false,1,none⟩
def bgramChecks45 : Blk := ⟨[(eI 2),(eS [97]),(eI 1),(eI 4),(eI 1),(eS [83]),(eI 1),(eI 6)],104,[(1,8),(0,4)],2,0,false,1,none⟩
def bgramChecks46 : Blk := ⟨[(eI 2),(eS [98]),(eI 1),(eI 10)],104,[(0,4)],1,0,false,0,none⟩
def hGramChecks150 : HE := ⟨71, [(.sl 0 1 0 7 none 4)], [bgramChecks43], [((.val (.agg [(eI 1),(eS [83]),(eI 1),(eI 1),(.sl 1 1 0 2 none 5)])), [bgramChecks44, bgramChecks45, bgramChecks46])]⟩
theorem hGramChecks150_ok : HOk Tryz.prog hGramChecks150 := hok_eq mmGramChecks_ok hmGramChecks150_ok folGramChecks (lf := 100000) (k := 1000) (by kernel_rfl)
def hmGramChecks151 : List HE := hGramChecks150 :: hmGramChecks150
theorem hmGramChecks151_ok : ∀ x ∈ hmGramChecks151, HOk Tryz.prog x := hmemo_cons hGramChecks150_ok hmGramChecks150_ok
def bgramChecks47 : Blk := ⟨[(eI 1),(eS [83]),(eI 1),(eI 1),(.sl 2 1 0 2 none 5)],110,[(0,5)],1,0,false,0,none⟩
def bgramChecks48 : Blk := ⟨[(.sl 3 1 0 2 none 4),(eI 2),(eS [97]),(eI 1),(eI 4),(.sl 4 0 0 1 none 4),(eI 2),(eS [98]),(eI 1),(eI 10)],113,[(1,10),(0,5)],2,0,false,1,none⟩
def hGramChecks151 : HE := ⟨41, [(.sl 0 1 0 7 none 4)], [bgramChecks43], [((.val (.sl 1 0 0 1 none 5)), [bgramChecks47, bgramChecks48, bgramChecks45, bgramChecks46])]⟩
theorem hGramChecks151_ok : HOk Tryz.prog hGramChecks151 := hok_eq mmGramChecks_ok hmGramChecks151_ok folGramChecks (lf := 100000) (k := 1000) (by kernel_rfl)
def hmGramChecks152 : List HE := hGramChecks151 :: hmGramChecks151
theorem hmGramChecks152_ok : ∀ x ∈ hmGramChecks152, HOk Tryz.prog x := hmemo_cons hGramChecks151_ok hmGramChecks151_ok
def bgramChecks49 : Blk := ⟨[(eI 1),(eI 100)],3,[(1,2),(0,1)],2,0,false,1,none⟩
def hGramChecks152 : HE := ⟨59, [(.lit (.slice none 0 0)),(.agg [(eI 100),(.sl 0 1 0 2 none 1)])], [bgramChecks49], [((.val eB0), [])]⟩
theorem hGramChecks152_ok : HOk Tryz.prog hGramChecks152 := hok_eq mmGramChecks_ok hmGramChecks152_ok folGramChecks (lf := 100000) (k := 1000) (by kernel_rfl)
def hmGramChecks153 : List HE := hGramChecks152 :: hmGramChecks152
theorem hmGramChecks153_ok : ∀ x ∈ hmGramChecks153, HOk Tryz.prog x := hmemo_cons hGramChecks152_ok hmGramChecks152_ok
def bgramChecks50 : Blk := ⟨[(eI 100),(.sl 1 1 0 2 none 1)],32,[(0,2)],1,0,false,0,none⟩
def bgramChecks51 : Blk := ⟨[(eI 2)],3,[(0,1)],1,0,false,0,none⟩
def hGramChecks153 : HE := ⟨59, [(.sl 0 0 0 1 none 2),(.agg [(eI 100),(.sl 2 0 0 1 none 1)])], [bgramChecks50, bgramChecks49, bgramChecks51], [((.val eB0), [])]⟩
theorem hGramChecks153_ok : HOk Tryz.prog hGramChecks153 := hok_eq mmGramChecks_ok hmGramChecks153_ok folGramChecks (lf := 100000) (k := 1000) (by kernel_rfl)
def hmGramChecks154 : List HE := hGramChecks153 :: hmGramChecks153
theorem hmGramChecks154_ok : ∀ x ∈ hmGramChecks154, HOk Tryz.prog x := hmemo_cons hGramChecks153_ok hmGramChecks153_ok
def bgramChecks52 : Blk := ⟨[(eS [97]),(eS [98])],9,[(1,2),(0,1)],2,0,false,1,none⟩
def bgramChecks53 : Blk := ⟨[(eI 100),(.sl 3 1 0 2 none 1),(eI 100),(.sl 4 0 0 1 none 1)],32,[(1,4),(0,2)],2,0,false,1,none⟩
def hGramChecks154 : HE := ⟨13, [(eS [83,58,32,97,32,83,32,124,32,98])], [], [((.val (.tup [(.agg [(.sl 0 1 0 2 none 1),(.sl 1 0 0 1 none 1),(.sl 2 1 0 2 none 2)]),(eI 0),(eI 0),(eI 0)])), [bgramChecks52, bgramChecks5, bgramChecks53, bgramChecks49, bgramChecks51])]⟩
theorem hGramChecks154_ok : HOk Tryz.prog hGramChecks154 := hok_eq mmGramChecks_ok hmGramChecks154_ok folGramChecks (lf := 100000) (k := 1000) (by kernel_rfl)
def hmGramChecks155 : List HE := hGramChecks154 :: hmGramChecks154
theorem hmGramChecks155_ok : ∀ x ∈ hmGramChecks155, HOk Tryz.prog x := hmemo_cons hGramChecks154_ok hmGramChecks154_ok
def hGramChecks155 : HE := ⟨11, [], [], [((.val eB1), [])]⟩
theorem hGramChecks155_ok : HOk Tryz.prog hGramChecks155 := hok_eq mmGramChecks_ok hmGramChecks155_ok folGramChecks (lf := 100000) (k := 1000) (by kernel_rfl)
def hmGramChecks156 : List HE := hGramChecks155 :: hmGramChecks155
theorem hmGramChecks156_ok : ∀ x ∈ hmGramChecks156, HOk Tryz.prog x := hmemo_cons hGramChecks155_ok hmGramChecks155_ok
def bgramChecks54 : Blk := ⟨[(eS [65]),(eS [109]),(eS [105]),(eS [108]),(eS [114])],9,[(4,5)],5,0,false,5,none⟩
def hGramChecks156 : HE := ⟨26, [(.agg [(.sl 0 4 0 5 none 1),(.sl 1 2 0 3 none 1),(.sl 2 5 0 6 none 2)])], [bgramChecks54, bgramChecks15, bgramChecks16, bgramChecks17, bgramChecks18, bgramChecks19, bgramChecks20, bgramChecks21, bgramChecks22], [((.val eB0), [])]⟩
theorem hGramChecks156_ok : HOk Tryz.prog hGramChecks156 := hok_eq mmGramChecks_ok hmGramChecks156_ok folGramChecks (lf := 100000) (k := 1000) (by kernel_rfl)
def hmGramChecks157 : List HE := hGramChecks156 :: hmGramChecks156
theorem hmGramChecks157_ok : ∀ x ∈ hmGramChecks157, HOk Tryz.prog x := hmemo_cons hGramChecks156_ok hmGramChecks156_ok
def hGramChecks157 : HE := ⟨8, [(.agg [(.sl 0 4 0 5 none 1),(.sl 1 2 0 3 none 1),(.sl 2 5 0 6 none 2)])], [bgramChecks54, bgramChecks15, bgramChecks16, bgramChecks17, bgramChecks18, bgramChecks19, bgramChecks20, bgramChecks21, bgramChecks22], [((.val (eI 1)), [])]⟩
theorem hGramChecks157_ok : HOk Tryz.prog hGramChecks157 := hok_eq mmGramChecks_ok hmGramChecks157_ok folGramChecks (lf := 100000) (k := 1000) (by kernel_rfl)
def hmGramChecks158 : List HE := hGramChecks157 :: hmGramChecks157
theorem hmGramChecks158_ok : ∀ x ∈ hmGramChecks158, HOk Tryz.prog x := hmemo_cons hGramChecks157_ok hmGramChecks157_ok
def hGramChecks158 : HE := ⟨9, [(.agg [(.sl 0 4 0 5 none 1),(.sl 1 2 0 3 none 1),(.sl 2 5 0 6 none 2)])], [bgramChecks54, bgramChecks15, bgramChecks16, bgramChecks17, bgramChecks18, bgramChecks19, bgramChecks20, bgramChecks21, bgramChecks22], [((.val (.tup [(eS []),(eI 1)])), [])]⟩
theorem hGramChecks158_ok : HOk Tryz.prog hGramChecks158 := hok_eq mmGramChecks_ok hmGramChecks158_ok folGramChecks (lf := 100000) (k := 1000) (by kernel_rfl)
def hmGramChecks159 : List HE := hGramChecks158 :: hmGramChecks158
theorem hmGramChecks159_ok : ∀ x ∈ hmGramChecks159, HOk Tryz.prog x := hmemo_cons hGramChecks158_ok hmGramChecks158_ok
def hGramChecks159 : HE := ⟨10, [(.agg [(.sl 0 4 0 5 none 1),(.sl 1 2 0 3 none 1),(.sl 2 5 0 6 none 2)])], [bgramChecks54, bgramChecks15, bgramChecks16, bgramChecks17, bgramChecks18, bgramChecks19, bgramChecks20, bgramChecks21, bgramChecks22], [((.val eB0), [])]⟩
theorem hGramChecks159_ok : HOk Tryz.prog hGramChecks159 := hok_eq mmGramChecks_ok hmGramChecks159_ok folGramChecks (lf := 100000) (k := 1000) (by kernel_rfl)
def hmGramChecks160 : List HE := hGramChecks159 :: hmGramChecks159
theorem hmGramChecks160_ok : ∀ x ∈ hmGramChecks160, HOk Tryz.prog x := hmemo_cons hGramChecks159_ok hmGramChecks159_ok
def bgramChecks55 : Blk := ⟨[(eS [97]),(eS [84]),(eS [70])],9,[(2,3)],3,0,false,3,none⟩
def hGramChecks160 : HE := ⟨26, [(.agg [(.sl 0 4 0 5 none 1),(.sl 1 2 0 3 none 1),(.sl 2 5 0 6 none 2)])], [bgramChecks14, bgramChecks55, bgramChecks16, bgramChecks17, bgramChecks18, bgramChecks19, bgramChecks20, bgramChecks21, bgramChecks22], [((.val eB0), [])]⟩
theorem hGramChecks160_ok : HOk Tryz.prog hGramChecks160 := hok_eq mmGramChecks_ok hmGramChecks160_ok folGramChecks (lf := 100000) (k := 1000) (by kernel_rfl)
def hmGramChecks161 : List HE := hGramChecks160 :: hmGramChecks160
theorem hmGramChecks161_ok : ∀ x ∈ hmGramChecks161, HOk Tryz.prog x := hmemo_cons hGramChecks160_ok hmGramChecks160_ok
def hGramChecks161 : HE := ⟨8, [(.agg [(.sl 0 4 0 5 none 1),(.sl 1 2 0 3 none 1),(.sl 2 5 0 6 none 2)])], [bgramChecks14, bgramChecks55, bgramChecks16, bgramChecks17, bgramChecks18, bgramChecks19, bgramChecks20, bgramChecks21, bgramChecks22], [((.val (eI 1)), [])]⟩
theorem hGramChecks161_ok : HOk Tryz.prog hGramChecks161 := hok_eq mmGramChecks_ok hmGramChecks161_ok folGramChecks (lf := 100000) (k := 1000) (by kernel_rfl)
def hmGramChecks162 : List HE := hGramChecks161 :: hmGramChecks161
theorem hmGramChecks162_ok : ∀ x ∈ hmGramChecks162, HOk Tryz.prog x := hmemo_cons hGramChecks161_ok hmGramChecks161_ok
def hGramChecks162 : HE := ⟨9, [(.agg [(.sl 0 4 0 5 none 1),(.sl 1 2 0 3 none 1),(.sl 2 5 0 6 none 2)])], [bgramChecks14, bgramChecks55, bgramChecks16, bgramChecks17, bgramChecks18, bgramChecks19, bgramChecks20, bgramChecks21, bgramChecks22], [((.val (.tup [(eS []),(eI 1)])), [])]⟩
theorem hGramChecks162_ok : HOk Tryz.prog hGramChecks162 := hok_eq mmGramChecks_ok hmGramChecks162_ok folGramChecks (lf := 100000) (k := 1000) (by kernel_rfl)
def hmGramChecks163 : List HE := hGramChecks162 :: hmGramChecks162
theorem hmGramChecks163_ok : ∀ x ∈ hmGramChecks163, HOk Tryz.prog x := hmemo_cons hGramChecks162_ok hmGramChecks162_ok
def hGramChecks163 : HE := ⟨10, [(.agg [(.sl 0 4 0 5 none 1),(.sl 1 2 0 3 none 1),(.sl 2 5 0 6 none 2)])], [bgramChecks14, bgramChecks55, bgramChecks16, bgramChecks17, bgramChecks18, bgramChecks19, bgramChecks20, bgramChecks21, bgramChecks22], [((.val eB0), [])]⟩
theorem hGramChecks163_ok : HOk Tryz.prog hGramChecks163 := hok_eq mmGramChecks_ok hmGramChecks163_ok folGramChecks (lf := 100000) (k := 1000) (by kernel_rfl)
def hmGramChecks164 : List HE := hGramChecks163 :: hmGramChecks163
theorem hmGramChecks164_ok : ∀ x ∈ hmGramChecks164, HOk Tryz.prog x := hmemo_cons hGramChecks163_ok hmGramChecks163_ok
def bgramChecks56 : Blk := ⟨[(eI 100),(.sl 3 2 0 3 none 1),(eI 100),(.sl 4 0 0 1 none 1),(eI 101),(.sl 5 2 0 3 none 1),(eI 1),(.sl 6 0 0 1 none 1),(eI 102),(.sl 7 0 0 1 none 1),(eI 102),(.sl 8 2 0 3 none 1)],32,[(5,12),(2,6),(1,4),(0,2)],6,0,false,6,none⟩
def hGramChecks164 : HE := ⟨26, [(.agg [(.sl 0 4 0 5 none 1),(.sl 1 2 0 3 none 1),(.sl 2 5 0 6 none 2)])], [bgramChecks14, bgramChecks15, bgramChecks56, bgramChecks17, bgramChecks18, bgramChecks19, bgramChecks20, bgramChecks21, bgramChecks22], [((.val eB1), [])]⟩
theorem hGramChecks164_ok : HOk Tryz.prog hGramChecks164 := hok_eq mmGramChecks_ok hmGramChecks164_ok folGramChecks (lf := 100000) (k := 1000) (by kernel_rfl)
def hmGramChecks165 : List HE := hGramChecks164 :: hmGramChecks164
theorem hmGramChecks165_ok : ∀ x ∈ hmGramChecks165, HOk Tryz.prog x := hmemo_cons hGramChecks164_ok hmGramChecks164_ok
def bgramChecks57 : Blk := ⟨[(eI 100),(.sl 1 2 0 3 none 1),(eI 100),(.sl 2 0 0 1 none 1),(eI 101),(.sl 3 2 0 3 none 1),(eI 1),(.sl 4 0 0 1 none 1),(eI 102),(.sl 5 0 0 1 none 1),(eI 102),(.sl 6 2 0 3 none 1)],32,[(5,12),(2,6),(1,4),(0,2)],6,0,false,6,none⟩
def hGramChecks165 : HE := ⟨59, [(.sl 0 5 0 0 none 2),(.agg [(eI 100),(.sl 1 2 0 3 none 1)])], [bgramChecks57, bgramChecks17, bgramChecks18, bgramChecks19, bgramChecks20, bgramChecks21, bgramChecks22], [((.val eB0), [])]⟩
theorem hGramChecks165_ok : HOk Tryz.prog hGramChecks165 := hok_eq mmGramChecks_ok hmGramChecks165_ok folGramChecks (lf := 100000) (k := 1000) (by kernel_rfl)
def hmGramChecks166 : List HE := hGramChecks165 :: hmGramChecks165
theorem hmGramChecks166_ok : ∀ x ∈ hmGramChecks166, HOk Tryz.prog x := hmemo_cons hGramChecks165_ok hmGramChecks165_ok
def hGramChecks166 : HE := ⟨59, [(.sl 0 5 0 1 none 2),(.agg [(eI 100),(.sl 2 0 0 1 none 1)])], [bgramChecks57, bgramChecks17, bgramChecks18, bgramChecks19, bgramChecks20, bgramChecks21, bgramChecks22], [((.val eB0), [])]⟩
theorem hGramChecks166_ok : HOk Tryz.prog hGramChecks166 := hok_eq mmGramChecks_ok hmGramChecks166_ok folGramChecks (lf := 100000) (k := 1000) (by kernel_rfl)
def hmGramChecks167 : List HE := hGramChecks166 :: hmGramChecks166
theorem hmGramChecks167_ok : ∀ x ∈ hmGramChecks167, HOk Tryz.prog x := hmemo_cons hGramChecks166_ok hmGramChecks166_ok
def hGramChecks167 : HE := ⟨59, [(.sl 0 5 0 2 none 2),(.agg [(eI 101),(.sl 3 2 0 3 none 1)])], [bgramChecks57, bgramChecks17, bgramChecks18, bgramChecks19, bgramChecks20, bgramChecks21, bgramChecks22], [((.val eB0), [])]⟩
theorem hGramChecks167_ok : HOk Tryz.prog hGramChecks167 := hok_eq mmGramChecks_ok hmGramChecks167_ok folGramChecks (lf := 100000) (k := 1000) (by kernel_rfl)
def hmGramChecks168 : List HE := hGramChecks167 :: hmGramChecks167
theorem hmGramChecks168_ok : ∀ x ∈ hmGramChecks168, HOk Tryz.prog x := hmemo_cons hGramChecks167_ok hmGramChecks167_ok
def hGramChecks168 : HE := ⟨27, [(.agg [(.sl 0 4 0 5 none 1),(.sl 1 2 0 3 none 1),(.sl 2 5 0 6 none 2)])], [bgramChecks14, bgramChecks15, bgramChecks56, bgramChecks17, bgramChecks18, bgramChecks19, bgramChecks20, bgramChecks21, bgramChecks22], [((.val eB0), [])]⟩
theorem hGramChecks168_ok : HOk Tryz.prog hGramChecks168 := hok_eq mmGramChecks_ok hmGramChecks168_ok folGramChecks (lf := 100000) (k := 1000) (by kernel_rfl)
def hmGramChecks169 : List HE := hGramChecks168 :: hmGramChecks168
theorem hmGramChecks169_ok : ∀ x ∈ hmGramChecks169, HOk Tryz.prog x := hmemo_cons hGramChecks168_ok hmGramChecks168_ok
def hGramChecks169 : HE := ⟨8, [(.agg [(.sl 0 4 0 5 none 1),(.sl 1 2 0 3 none 1),(.sl 2 5 0 6 none 2)])], [bgramChecks14, bgramChecks15, bgramChecks56, bgramChecks17, bgramChecks18, bgramChecks19, bgramChecks20, bgramChecks21, bgramChecks22], [((.val (eI 1)), [])]⟩
theorem hGramChecks169_ok : HOk Tryz.prog hGramChecks169 := hok_eq mmGramChecks_ok hmGramChecks169_ok folGramChecks (lf := 100000) (k := 1000) (by kernel_rfl)
def hmGramChecks170 : List HE := hGramChecks169 :: hmGramChecks169
theorem hmGramChecks170_ok : ∀ x ∈ hmGramChecks170, HOk Tryz.prog x := hmemo_cons hGramChecks169_ok hmGramChecks169_ok
def hGramChecks170 : HE := ⟨9, [(.agg [(.sl 0 4 0 5 none 1),(.sl 1 2 0 3 none 1),(.sl 2 5 0 6 none 2)])], [bgramChecks14, bgramChecks15, bgramChecks56, bgramChecks17, bgramChecks18, bgramChecks19, bgramChecks20, bgramChecks21, bgramChecks22], [((.val (.tup [(eS []),(eI 1)])), [])]⟩
theorem hGramChecks170_ok : HOk Tryz.prog hGramChecks170 := hok_eq mmGramChecks_ok hmGramChecks170_ok folGramChecks (lf := 100000) (k := 1000) (by kernel_rfl)
def hmGramChecks171 : List HE := hGramChecks170 :: hmGramChecks170
theorem hmGramChecks171_ok : ∀ x ∈ hmGramChecks171, HOk Tryz.prog x := hmemo_cons hGramChecks170_ok hmGramChecks170_ok
def hGramChecks171 : HE := ⟨10, [(.agg [(.sl 0 4 0 5 none 1),(.sl 1 2 0 3 none 1),(.sl 2 5 0 6 none 2)])], [bgramChecks14, bgramChecks15, bgramChecks56, bgramChecks17, bgramChecks18, bgramChecks19, bgramChecks20, bgramChecks21, bgramChecks22], [((.val eB0), [])]⟩
theorem hGramChecks171_ok : HOk Tryz.prog hGramChecks171 := hok_eq mmGramChecks_ok hmGramChecks171_ok folGramChecks (lf := 100000) (k := 1000) (by kernel_rfl)
def hmGramChecks172 : List HE := hGramChecks171 :: hmGramChecks171
theorem hmGramChecks172_ok : ∀ x ∈ hmGramChecks172, HOk Tryz.prog x := hmemo_cons hGramChecks171_ok hmGramChecks171_ok
def bgramChecks58 : Blk := ⟨[(eI 100),(.sl 3 2 0 3 none 1),(eI 100),(.sl 4 0 0 1 none 1),(eI 101),(.sl 5 2 0 3 none 1),(eI 103),(.sl 6 0 0 1 none 1),(eI 102),(.sl 7 0 0 1 none 1),(eI 102),(.sl 8 2 0 3 none 1)],32,[(5,12),(2,6),(1,4),(0,2)],6,0,false,6,none⟩
def hGramChecks172 : HE := ⟨26, [(.agg [(.sl 0 4 0 5 none 1),(.sl 1 2 0 3 none 1),(.sl 2 5 0 6 none 2)])], [bgramChecks14, bgramChecks15, bgramChecks58, bgramChecks17, bgramChecks18, bgramChecks19, bgramChecks20, bgramChecks21, bgramChecks22], [((.val eB1), [])]⟩
theorem hGramChecks172_ok : HOk Tryz.prog hGramChecks172 := hok_eq mmGramChecks_ok hmGramChecks172_ok folGramChecks (lf := 100000) (k := 1000) (by kernel_rfl)
def hmGramChecks173 : List HE := hGramChecks172 :: hmGramChecks172
theorem hmGramChecks173_ok : ∀ x ∈ hmGramChecks173, HOk Tryz.prog x := hmemo_cons hGramChecks172_ok hmGramChecks172_ok
def bgramChecks59 : Blk := ⟨[(eI 100),(.sl 1 2 0 3 none 1),(eI 100),(.sl 2 0 0 1 none 1),(eI 101),(.sl 3 2 0 3 none 1),(eI 103),(.sl 4 0 0 1 none 1),(eI 102),(.sl 5 0 0 1 none 1),(eI 102),(.sl 6 2 0 3 none 1)],32,[(5,12),(2,6),(1,4),(0,2)],6,0,false,6,none⟩
def hGramChecks173 : HE := ⟨59, [(.sl 0 5 0 0 none 2),(.agg [(eI 100),(.sl 1 2 0 3 none 1)])], [bgramChecks59, bgramChecks17, bgramChecks18, bgramChecks19, bgramChecks20, bgramChecks21, bgramChecks22], [((.val eB0), [])]⟩
theorem hGramChecks173_ok : HOk Tryz.prog hGramChecks173 := hok_eq mmGramChecks_ok hmGramChecks173_ok folGramChecks (lf := 100000) (k := 1000) (by kernel_rfl)
def hmGramChecks174 : List HE := hGramChecks173 :: hmGramChecks173
theorem hmGramChecks174_ok : ∀ x ∈ hmGramChecks174, HOk Tryz.prog x := hmemo_cons hGramChecks173_ok hmGramChecks173_ok
def hGramChecks174 : HE := ⟨59, [(.sl 0 5 0 1 none 2),(.agg [(eI 100),(.sl 2 0 0 1 none 1)])], [bgramChecks59, bgramChecks17, bgramChecks18, bgramChecks19, bgramChecks20, bgramChecks21, bgramChecks22], [((.val eB0), [])]⟩
theorem hGramChecks174_ok : HOk Tryz.prog hGramChecks174 := hok_eq mmGramChecks_ok hmGramChecks174_ok folGramChecks (lf := 100000) (k := 1000) (by kernel_rfl)
def hmGramChecks175 : List HE := hGramChecks174 :: hmGramChecks174
theorem hmGramChecks175_ok : ∀ x ∈ hmGramChecks175, HOk Tryz.prog x := hmemo_cons hGramChecks174_ok hmGramChecks174_ok
def hGramChecks175 : HE := ⟨59, [(.sl 0 5 0 2 none 2),(.agg [(eI 101),(.sl 3 2 0 3 none 1)])], [bgramChecks59, bgramChecks17, bgramChecks18, bgramChecks19, bgramChecks20, bgramChecks21, bgramChecks22], [((.val eB0), [])]⟩
theorem hGramChecks175_ok : HOk Tryz.prog hGramChecks175 := hok_eq mmGramChecks_ok hmGramChecks175_ok folGramChecks (lf := 100000) (k := 1000) (by kernel_rfl)
def hmGramChecks176 : List HE := hGramChecks175 :: hmGramChecks175
theorem hmGramChecks176_ok : ∀ x ∈ hmGramChecks176, HOk Tryz.prog x := hmemo_cons hGramChecks175_ok hmGramChecks175_ok
def hGramChecks176 : HE := ⟨27, [(.agg [(.sl 0 4 0 5 none 1),(.sl 1 2 0 3 none 1),(.sl 2 5 0 6 none 2)])], [bgramChecks14, bgramChecks15, bgramChecks58, bgramChecks17, bgramChecks18, bgramChecks19, bgramChecks20, bgramChecks21, bgramChecks22], [((.val eB0), [])]⟩
theorem hGramChecks176_ok : HOk Tryz.prog hGramChecks176 := hok_eq mmGramChecks_ok hmGramChecks176_ok folGramChecks (lf := 100000) (k := 1000) (by kernel_rfl)
def hmGramChecks177 : List HE := hGramChecks176 :: hmGramChecks176
theorem hmGramChecks177_ok : ∀ x ∈ hmGramChecks177, HOk Tryz.prog x := hmemo_cons hGramChecks176_ok hmGramChecks176_ok
def hGramChecks177 : HE := ⟨8, [(.agg [(.sl 0 4 0 5 none 1),(.sl 1 2 0 3 none 1),(.sl 2 5 0 6 none 2)])], [bgramChecks14, bgramChecks15, bgramChecks58, bgramChecks17, bgramChecks18, bgramChecks19, bgramChecks20, bgramChecks21, bgramChecks22], [((.val (eI 1)), [])]⟩
theorem hGramChecks177_ok : HOk Tryz.prog hGramChecks177 := hok_eq mmGramChecks_ok hmGramChecks177_ok folGramChecks (lf := 100000) (k := 1000) (by kernel_rfl)
def hmGramChecks178 : List HE := hGramChecks177 :: hmGramChecks177
theorem hmGramChecks178_ok : ∀ x ∈ hmGramChecks178, HOk Tryz.prog x := hmemo_cons hGramChecks177_ok hmGramChecks177_ok
def hGramChecks178 : HE := ⟨9, [(.agg [(.sl 0 4 0 5 none 1),(.sl 1 2 0 3 none 1),(.sl 2 5 0 6 none 2)])], [bgramChecks14, bgramChecks15, bgramChecks58, bgramChecks17, bgramChecks18, bgramChecks19, bgramChecks20, bgramChecks21, bgramChecks22], [((.val (.tup [(eS []),(eI 1)])), [])]⟩
theorem hGramChecks178_ok : HOk Tryz.prog hGramChecks178 := hok_eq mmGramChecks_ok hmGramChecks178_ok folGramChecks (lf := 100000) (k := 1000) (by kernel_rfl)
def hmGramChecks179 : List HE := hGramChecks178 :: hmGramChecks178
theorem hmGramChecks179_ok : ∀ x ∈ hmGramChecks179, HOk Tryz.prog x := hmemo_cons hGramChecks178_ok hmGramChecks178_ok
def hGramChecks179 : HE := ⟨10, [(.agg [(.sl 0 4 0 5 none 1),(.sl 1 2 0 3 none 1),(.sl 2 5 0 6 none 2)])], [bgramChecks14, bgramChecks15, bgramChecks58, bgramChecks17, bgramChecks18, bgramChecks19, bgramChecks20, bgramChecks21, bgramChecks22], [((.val eB0), [])]⟩
theorem hGramChecks179_ok : HOk Tryz.prog hGramChecks179 := hok_eq mmGramChecks_ok hmGramChecks179_ok folGramChecks (lf := 100000) (k := 1000) (by kernel_rfl)
def hmGramChecks180 : List HE := hGramChecks179 :: hmGramChecks179
theorem hmGramChecks180_ok : ∀ x ∈ hmGramChecks180, HOk Tryz.prog x := hmemo_cons hGramChecks179_ok hmGramChecks179_ok
def bgramChecks60 : Blk := ⟨[(eS [112]),(eS [109]),(eS [105]),(eS [108]),(eS [65])],9,[(4,5),(3,4),(2,3),(1,2),(0,1)],5,0,false,5,none⟩
def hGramChecks180 : HE := ⟨26, [(.agg [(.sl 0 4 0 5 none 1),(.sl 1 2 0 3 none 1),(.sl 2 5 0 6 none 2)])], [bgramChecks60, bgramChecks15, bgramChecks16, bgramChecks17, bgramChecks18, bgramChecks19, bgramChecks20, bgramChecks21, bgramChecks22], [((.val eB0), [])]⟩
theorem hGramChecks180_ok : HOk Tryz.prog hGramChecks180 := hok_eq mmGramChecks_ok hmGramChecks180_ok folGramChecks (lf := 100000) (k := 1000) (by kernel_rfl)
def hmGramChecks181 : List HE := hGramChecks180 :: hmGramChecks180
theorem hmGramChecks181_ok : ∀ x ∈ hmGramChecks181, HOk Tryz.prog x := hmemo_cons hGramChecks180_ok hmGramChecks180_ok
def hGramChecks181 : HE := ⟨8, [(.agg [(.sl 0 4 0 5 none 1),(.sl 1 2 0 3 none 1),(.sl 2 5 0 6 none 2)])], [bgramChecks60, bgramChecks15, bgramChecks16, bgramChecks17, bgramChecks18, bgramChecks19, bgramChecks20, bgramChecks21, bgramChecks22], [((.val (eI 1)), [])]⟩
theorem hGramChecks181_ok : HOk Tryz.prog hGramChecks181 := hok_eq mmGramChecks_ok hmGramChecks181_ok folGramChecks (lf := 100000) (k := 1000) (by kernel_rfl)
def hmGramChecks182 : List HE := hGramChecks181 :: hmGramChecks181
theorem hmGramChecks182_ok : ∀ x ∈ hmGramChecks182, HOk Tryz.prog x := hmemo_cons hGramChecks181_ok hmGramChecks181_ok
def hGramChecks182 : HE := ⟨9, [(.agg [(.sl 0 4 0 5 none 1),(.sl 1 2 0 3 none 1),(.sl 2 5 0 6 none 2)])], [bgramChecks60, bgramChecks15, bgramChecks16, bgramChecks17, bgramChecks18, bgramChecks19, bgramChecks20, bgramChecks21, bgramChecks22], [((.val (.tup [(eS []),(eI 1)])), [])]⟩
theorem hGramChecks182_ok : HOk Tryz.prog hGramChecks182 := hok_eq mmGramChecks_ok hmGramChecks182_ok folGramChecks (lf := 100000) (k := 1000) (by kernel_rfl)
def hmGramChecks183 : List HE := hGramChecks182 :: hmGramChecks182
theorem hmGramChecks183_ok : ∀ x ∈ hmGramChecks183, HOk Tryz.prog x := hmemo_cons hGramChecks182_ok hmGramChecks182_ok
def hGramChecks183 : HE := ⟨10, [(.agg [(.sl 0 4 0 5 none 1),(.sl 1 2 0 3 none 1),(.sl 2 5 0 6 none 2)])], [bgramChecks60, bgramChecks15, bgramChecks16, bgramChecks17, bgramChecks18, bgramChecks19, bgramChecks20, bgramChecks21, bgramChecks22], [((.val eB0), [])]⟩
theorem hGramChecks183_ok : HOk Tryz.prog hGramChecks183 := hok_eq mmGramChecks_ok hmGramChecks183_ok folGramChecks (lf := 100000) (k := 1000) (by kernel_rfl)
def hmGramChecks184 : List HE := hGramChecks183 :: hmGramChecks183
theorem hmGramChecks184_ok : ∀ x ∈ hmGramChecks184, HOk Tryz.prog x := hmemo_cons hGramChecks183_ok hmGramChecks183_ok
def bgramChecks61 : Blk := ⟨[(eS [69]),(eS [84]),(eS [97])],9,[(2,3),(1,2),(0,1)],3,0,false,3,none⟩
def hGramChecks184 : HE := ⟨26, [(.agg [(.sl 0 4 0 5 none 1),(.sl 1 2 0 3 none 1),(.sl 2 5 0 6 none 2)])], [bgramChecks14, bgramChecks61, bgramChecks16, bgramChecks17, bgramChecks18, bgramChecks19, bgramChecks20, bgramChecks21, bgramChecks22], [((.val eB0), [])]⟩
theorem hGramChecks184_ok : HOk Tryz.prog hGramChecks184 := hok_eq mmGramChecks_ok hmGramChecks184_ok folGramChecks (lf := 100000) (k := 1000) (by kernel_rfl)
def hmGramChecks185 : List HE := hGramChecks184 :: hmGramChecks184
theorem hmGramChecks185_ok : ∀ x ∈ hmGramChecks185, HOk Tryz.prog x := hmemo_cons hGramChecks184_ok hmGramChecks184_ok
def hGramChecks185 : HE := ⟨8, [(.agg [(.sl 0 4 0 5 none 1),(.sl 1 2 0 3 none 1),(.sl 2 5 0 6 none 2)])], [bgramChecks14, bgramChecks61, bgramChecks16, bgramChecks17, bgramChecks18, bgramChecks19, bgramChecks20, bgramChecks21, bgramChecks22], [((.val (eI 1)), [])]⟩
theorem hGramChecks185_ok : HOk Tryz.prog hGramChecks185 := hok_eq mmGramChecks_ok hmGramChecks185_ok folGramChecks (lf := 100000) (k := 1000) (by kernel_rfl)
def hmGramChecks186 : List HE := hGramChecks185 :: hmGramChecks185
theorem hmGramChecks186_ok : ∀ x ∈ hmGramChecks186, HOk Tryz.prog x := hmemo_cons hGramChecks185_ok hmGramChecks185_ok
def hGramChecks186 : HE := ⟨9, [(.agg [(.sl 0 4 0 5 none 1),(.sl 1 2 0 3 none 1),(.sl 2 5 0 6 none 2)])], [bgramChecks14, bgramChecks61, bgramChecks16, bgramChecks17, bgramChecks18, bgramChecks19, bgramChecks20, bgramChecks21, bgramChecks22], [((.val (.tup [(eS []),(eI 1)])), [])]⟩
theorem hGramChecks186_ok : HOk Tryz.prog hGramChecks186 := hok_eq mmGramChecks_ok hmGramChecks186_ok folGramChecks (lf := 100000) (k := 1000) (by kernel_rfl)
def hmGramChecks187 : List HE := hGramChecks186 :: hmGramChecks186
theorem hmGramChecks187_ok : ∀ x ∈ hmGramChecks187, HOk Tryz.prog x := hmemo_cons hGramChecks186_ok hmGramChecks186_ok
def hGramChecks187 : HE := ⟨10, [(.agg [(.sl 0 4 0 5 none 1),(.sl 1 2 0 3 none 1),(.sl 2 5 0 6 none 2)])], [bgramChecks14, bgramChecks61, bgramChecks16, bgramChecks17, bgramChecks18, bgramChecks19, bgramChecks20, bgramChecks21, bgramChecks22], [((.val eB0), [])]⟩
theorem hGramChecks187_ok : HOk Tryz.prog hGramChecks187 := hok_eq mmGramChecks_ok hmGramChecks187_ok folGramChecks (lf := 100000) (k := 1000) (by kernel_rfl)
def hmGramChecks188 : List HE := hGramChecks187 :: hmGramChecks187
theorem hmGramChecks188_ok : ∀ x ∈ hmGramChecks188, HOk Tryz.prog x := hmemo_cons hGramChecks187_ok hmGramChecks187_ok
def bgramChecks62 : Blk := ⟨[(eI 100),(.sl 3 2 0 3 none 1),(eI 100),(.sl 4 0 0 1 none 1),(eI 1),(.sl 5 2 0 3 none 1),(eI 101),(.sl 6 0 0 1 none 1),(eI 102),(.sl 7 0 0 1 none 1),(eI 102),(.sl 8 2 0 3 none 1)],32,[(5,12),(1,4),(0,2)],6,0,false,6,none⟩
def hGramChecks188 : HE := ⟨26, [(.agg [(.sl 0 4 0 5 none 1),(.sl 1 2 0 3 none 1),(.sl 2 5 0 6 none 2)])], [bgramChecks14, bgramChecks15, bgramChecks62, bgramChecks17, bgramChecks18, bgramChecks19, bgramChecks20, bgramChecks21, bgramChecks22], [((.val eB1), [])]⟩
theorem hGramChecks188_ok : HOk Tryz.prog hGramChecks188 := hok_eq mmGramChecks_ok hmGramChecks188_ok folGramChecks (lf := 100000) (k := 1000) (by kernel_rfl)
def hmGramChecks189 : List HE := hGramChecks188 :: hmGramChecks188
theorem hmGramChecks189_ok : ∀ x ∈ hmGramChecks189, HOk Tryz.prog x := hmemo_cons hGramChecks188_ok hmGramChecks188_ok
def bgramChecks63 : Blk := ⟨[(eI 100),(.sl 1 2 0 3 none 1),(eI 100),(.sl 2 0 0 1 none 1),(eI 1),(.sl 3 2 0 3 none 1),(eI 101),(.sl 4 0 0 1 none 1),(eI 102),(.sl 5 0 0 1 none 1),(eI 102),(.sl 6 2 0 3 none 1)],32,[(5,12),(1,4),(0,2)],6,0,false,6,none⟩
def hGramChecks189 : HE := ⟨59, [(.sl 0 5 0 0 none 2),(.agg [(eI 100),(.sl 1 2 0 3 none 1)])], [bgramChecks63, bgramChecks17, bgramChecks18, bgramChecks19, bgramChecks20, bgramChecks21, bgramChecks22], [((.val eB0), [])]⟩
theorem hGramChecks189_ok : HOk Tryz.prog hGramChecks189 := hok_eq mmGramChecks_ok hmGramChecks189_ok folGramChecks (lf := 100000) (k := 1000) (by kernel_rfl)
def hmGramChecks190 : List HE := hGramChecks189 :: hmGramChecks189
theorem hmGramChecks190_ok : ∀ x ∈ hmGramChecks190, HOk Tryz.prog x := hmemo_cons hGramChecks189_ok hmGramChecks189_ok
def hGramChecks190 : HE := ⟨59, [(.sl 0 5 0 1 none 2),(.agg [(eI 100),(.sl 2 0 0 1 none 1)])], [bgramChecks63, bgramChecks17, bgramChecks18, bgramChecks19, bgramChecks20, bgramChecks21, bgramChecks22], [((.val eB0), [])]⟩
theorem hGramChecks190_ok : HOk Tryz.prog hGramChecks190 := hok_eq mmGramChecks_ok hmGramChecks190_ok folGramChecks (lf := 100000) (k := 1000) (by kernel_rfl)
def hmGramChecks191 : List HE := hGramChecks190 :: hmGramChecks190
theorem hmGramChecks191_ok : ∀ x ∈ hmGramChecks191, HOk Tryz.prog x := hmemo_cons hGramChecks190_ok hmGramChecks190_ok
def hGramChecks191 : HE := ⟨27, [(.agg [(.sl 0 4 0 5 none 1),(.sl 1 2 0 3 none 1),(.sl 2 5 0 6 none 2)])], [bgramChecks14, bgramChecks15, bgramChecks62, bgramChecks17, bgramChecks18, bgramChecks19, bgramChecks20, bgramChecks21, bgramChecks22], [((.val eB0), [])]⟩
theorem hGramChecks191_ok : HOk Tryz.prog hGramChecks191 := hok_eq mmGramChecks_ok hmGramChecks191_ok folGramChecks (lf := 100000) (k := 1000) (by kernel_rfl)
def hmGramChecks192 : List HE := hGramChecks191 :: hmGramChecks191
theorem hmGramChecks192_ok : ∀ x ∈ hmGramChecks192, HOk Tryz.prog x := hmemo_cons hGramChecks191_ok hmGramChecks191_ok
def hGramChecks192 : HE := ⟨8, [(.agg [(.sl 0 4 0 5 none 1),(.sl 1 2 0 3 none 1),(.sl 2 5 0 6 none 2)])], [bgramChecks14, bgramChecks15, bgramChecks62, bgramChecks17, bgramChecks18, bgramChecks19, bgramChecks20, bgramChecks21, bgramChecks22], [((.val (eI 1)), [])]⟩
theorem hGramChecks192_ok : HOk Tryz.prog hGramChecks192 := hok_eq mmGramChecks_ok hmGramChecks192_ok folGramChecks (lf := 100000) (k := 1000) (by kernel_rfl)
def hmGramChecks193 : List HE := hGramChecks192 :: hmGramChecks192
theorem hmGramChecks193_ok : ∀ x ∈ hmGramChecks193, HOk Tryz.prog x := hmemo_cons hGramChecks192_ok hmGramChecks192_ok
def hGramChecks193 : HE := ⟨9, [(.agg [(.sl 0 4 0 5 none 1),(.sl 1 2 0 3 none 1),(.sl 2 5 0 6 none 2)])], [bgramChecks14, bgramChecks15, bgramChecks62, bgramChecks17, bgramChecks18, bgramChecks19, bgramChecks20, bgramChecks21, bgramChecks22], [((.val (.tup [(eS []),(eI 1)])), [])]⟩
theorem hGramChecks193_ok : HOk Tryz.prog hGramChecks193 := hok_eq mmGramChecks_ok hmGramChecks193_ok folGramChecks (lf := 100000) (k := 1000) (by kernel_rfl)
def hmGramChecks194 : List HE := hGramChecks193 :: hmGramChecks193
theorem hmGramChecks194_ok : ∀ x ∈ hmGramChecks194, HOk Tryz.prog x := hmemo_cons hGramChecks193_ok hmGramChecks193_ok
def hGramChecks194 : HE := ⟨10, [(.agg [(.sl 0 4 0 5 none 1),(.sl 1 2 0 3 none 1),(.sl 2 5 0 6 none 2)])], [bgramChecks14, bgramChecks15, bgramChecks62, bgramChecks17, bgramChecks18, bgramChecks19, bgramChecks20, bgramChecks21, bgramChecks22], [((.val eB0), [])]⟩
theorem hGramChecks194_ok : HOk Tryz.prog hGramChecks194 := hok_eq mmGramChecks_ok hmGramChecks194_ok folGramChecks (lf := 100000) (k := 1000) (by kernel_rfl)
def hmGramChecks195 : List HE := hGramChecks194 :: hmGramChecks194
theorem hmGramChecks195_ok : ∀ x ∈ hmGramChecks195, HOk Tryz.prog x := hmemo_cons hGramChecks194_ok hmGramChecks194_ok
def bgramChecks64 : Blk := ⟨[(eI 100),(.sl 3 2 0 3 none 1),(eI 100),(.sl 4 0 0 1 none 1),(eI 103),(.sl 5 2 0 3 none 1),(eI 101),(.sl 6 0 0 1 none 1),(eI 102),(.sl 7 0 0 1 none 1),(eI 102),(.sl 8 2 0 3 none 1)],32,[(5,12),(1,4),(0,2)],6,0,false,6,none⟩
def hGramChecks195 : HE := ⟨26, [(.agg [(.sl 0 4 0 5 none 1),(.sl 1 2 0 3 none 1),(.sl 2 5 0 6 none 2)])], [bgramChecks14, bgramChecks15, bgramChecks64, bgramChecks17, bgramChecks18, bgramChecks19, bgramChecks20, bgramChecks21, bgramChecks22], [((.val eB1), [])]⟩
theorem hGramChecks195_ok : HOk Tryz.prog hGramChecks195 := hok_eq mmGramChecks_ok hmGramChecks195_ok folGramChecks (lf := 100000) (k := 1000) (by kernel_rfl)
def hmGramChecks196 : List HE := hGramChecks195 :: hmGramChecks195
theorem hmGramChecks196_ok : ∀ x ∈ hmGramChecks196, HOk Tryz.prog x := hmemo_cons hGramChecks195_ok hmGramChecks195_ok
def bgramChecks65 : Blk := ⟨[(eI 100),(.sl 1 2 0 3 none 1),(eI 100),(.sl 2 0 0 1 none 1),(eI 103),(.sl 3 2 0 3 none 1),(eI 101),(.sl 4 0 0 1 none 1),(eI 102),(.sl 5 0 0 1 none 1),(eI 102),(.sl 6 2 0 3 none 1)],32,[(5,12),(1,4),(0,2)],6,0,false,6,none⟩
def hGramChecks196 : HE := ⟨59, [(.sl 0 5 0 0 none 2),(.agg [(eI 100),(.sl 1 2 0 3 none 1)])], [bgramChecks65, bgramChecks17, bgramChecks18, bgramChecks19, bgramChecks20, bgramChecks21, bgramChecks22], [((.val eB0), [])]⟩
theorem hGramChecks196_ok : HOk Tryz.prog hGramChecks196 := hok_eq mmGramChecks_ok hmGramChecks196_ok folGramChecks (lf := 100000) (k := 1000) (by kernel_rfl)
def hmGramChecks197 : List HE := hGramChecks196 :: hmGramChecks196
theorem hmGramChecks197_ok : ∀ x ∈ hmGramChecks197, HOk Tryz.prog x := hmemo_cons hGramChecks196_ok hmGramChecks196_ok
def hGramChecks197 : HE := ⟨59, [(.sl 0 5 0 1 none 2),(.agg [(eI 100),(.sl 2 0 0 1 none 1)])], [bgramChecks65, bgramChecks17, bgramChecks18, bgramChecks19, bgramChecks20, bgramChecks21, bgramChecks22], [((.val eB0), [])]⟩
theorem hGramChecks197_ok : HOk Tryz.prog hGramChecks197 := hok_eq mmGramChecks_ok hmGramChecks197_ok folGramChecks (lf := 100000) (k := 1000) (by kernel_rfl)
def hmGramChecks198 : List HE := hGramChecks197 :: hmGramChecks197
theorem hmGramChecks198_ok : ∀ x ∈ hmGramChecks198, HOk Tryz.prog x := hmemo_cons hGramChecks197_ok hmGramChecks197_ok
def hGramChecks198 : HE := ⟨27, [(.agg [(.sl 0 4 0 5 none 1),(.sl 1 2 0 3 none 1),(.sl 2 5 0 6 none 2)])], [bgramChecks14, bgramChecks15, bgramChecks64, bgramChecks17, bgramChecks18, bgramChecks19, bgramChecks20, bgramChecks21, bgramChecks22], [((.val eB0), [])]⟩
theorem hGramChecks198_ok : HOk Tryz.prog hGramChecks198 := hok_eq mmGramChecks_ok hmGramChecks198_ok folGramChecks (lf := 100000) (k := 1000) (by kernel_rfl)
def hmGramChecks199 : List HE := hGramChecks198 :: hmGramChecks198
theorem hmGramChecks199_ok : ∀ x ∈ hmGramChecks199, HOk Tryz.prog x := hmemo_cons hGramChecks198_ok hmGramChecks198_ok
def hGramChecks199 : HE := ⟨8, [(.agg [(.sl 0 4 0 5 none 1),(.sl 1 2 0 3 none 1),(.sl 2 5 0 6 none 2)])], [bgramChecks14, bgramChecks15, bgramChecks64, bgramChecks17, bgramChecks18, bgramChecks19, bgramChecks20, bgramChecks21, bgramChecks22], [((.val (eI 1)), [])]⟩
theorem hGramChecks199_ok : HOk Tryz.prog hGramChecks199 := hok_eq mmGramChecks_ok hmGramChecks199_ok folGramChecks (lf := 100000) (k := 1000) (by kernel_rfl)
def hmGramChecks200 : List HE := hGramChecks199 :: hmGramChecks199
theorem hmGramChecks200_ok : ∀ x ∈ hmGramChecks200, HOk Tryz.prog x := hmemo_cons hGramChecks199_ok hmGramChecks199_ok
def hGramChecks200 : HE := ⟨9, [(.agg [(.sl 0 4 0 5 none 1),(.sl 1 2 0 3 none 1),(.sl 2 5 0 6 none 2)])], [bgramChecks14, bgramChecks15, bgramChecks64, bgramChecks17, bgramChecks18, bgramChecks19, bgramChecks20, bgramChecks21, bgramChecks22], [((.val (.tup [(eS []),(eI 1)])), [])]⟩
theorem hGramChecks200_ok : HOk Tryz.prog hGramChecks200 := hok_eq mmGramChecks_ok hmGramChecks200_ok folGramChecks (lf := 100000) (k := 1000) (by kernel_rfl)
def hmGramChecks201 : List HE := hGramChecks200 :: hmGramChecks200
theorem hmGramChecks201_ok : ∀ x ∈ hmGramChecks201, HOk Tryz.prog x := hmemo_cons hGramChecks200_ok hmGramChecks200_ok
def hGramChecks201 : HE := ⟨10, [(.agg [(.sl 0 4 0 5 none 1),(.sl 1 2 0 3 none 1),(.sl 2 5 0 6 none 2)])], [bgramChecks14, bgramChecks15, bgramChecks64, bgramChecks17, bgramChecks18, bgramChecks19, bgramChecks20, bgramChecks21, bgramChecks22], [((.val eB0), [])]⟩
theorem hGramChecks201_ok : HOk Tryz.prog hGramChecks201 := hok_eq mmGramChecks_ok hmGramChecks201_ok folGramChecks (lf := 100000) (k := 1000) (by kernel_rfl)
def hmGramChecks202 : List HE := hGramChecks201 :: hmGramChecks201
theorem hmGramChecks202_ok : ∀ x ∈ hmGramChecks202, HOk Tryz.prog x := hmemo_cons hGramChecks201_ok hmGramChecks201_ok
def bgramChecks66 : Blk := ⟨[(eS [112]),(eS [109]),(eS [105]),(eS [65]),(eS [114])],9,[(4,5),(2,3),(1,2),(0,1)],5,0,false,5,none⟩
def hGramChecks202 : HE := ⟨26, [(.agg [(.sl 0 4 0 5 none 1),(.sl 1 2 0 3 none 1),(.sl 2 5 0 6 none 2)])], [bgramChecks66, bgramChecks15, bgramChecks16, bgramChecks17, bgramChecks18, bgramChecks19, bgramChecks20, bgramChecks21, bgramChecks22], [((.val eB0), [])]⟩
theorem hGramChecks202_ok : HOk Tryz.prog hGramChecks202 := hok_eq mmGramChecks_ok hmGramChecks202_ok folGramChecks (lf := 100000) (k := 1000) (by kernel_rfl)
def hmGramChecks203 : List HE := hGramChecks202 :: hmGramChecks202
theorem hmGramChecks203_ok : ∀ x ∈ hmGramChecks203, HOk Tryz.prog x := hmemo_cons hGramChecks202_ok hmGramChecks202_ok
def hGramChecks203 : HE := ⟨8, [(.agg [(.sl 0 4 0 5 none 1),(.sl 1 2 0 3 none 1),(.sl 2 5 0 6 none 2)])], [bgramChecks66, bgramChecks15, bgramChecks16, bgramChecks17, bgramChecks18, bgramChecks19, bgramChecks20, bgramChecks21, bgramChecks22], [((.val (eI 1)), [])]⟩
theorem hGramChecks203_ok : HOk Tryz.prog hGramChecks203 := hok_eq mmGramChecks_ok hmGramChecks203_ok folGramChecks (lf := 100000) (k := 1000) (by kernel_rfl)
def hmGramChecks204 : List HE := hGramChecks203 :: hmGramChecks203
theorem hmGramChecks204_ok : ∀ x ∈ hmGramChecks204, HOk Tryz.prog x := hmemo_cons hGramChecks203_ok hmGramChecks203_ok
def hGramChecks204 : HE := ⟨9, [(.agg [(.sl 0 4 0 5 none 1),(.sl 1 2 0 3 none 1),(.sl 2 5 0 6 none 2)])], [bgramChecks66, bgramChecks15, bgramChecks16, bgramChecks17, bgramChecks18, bgramChecks19, bgramChecks20, bgramChecks21, bgramChecks22], [((.val (.tup [(eS []),(eI 1)])), [])]⟩
theorem hGramChecks204_ok : HOk Tryz.prog hGramChecks204 := hok_eq mmGramChecks_ok hmGramChecks204_ok folGramChecks (lf := 100000) (k := 1000) (by kernel_rfl)
def hmGramChecks205 : List HE := hGramChecks204 :: hmGramChecks204
theorem hmGramChecks205_ok : ∀ x ∈ hmGramChecks205, HOk Tryz.prog x := hmemo_cons hGramChecks204_ok hmGramChecks204_ok
def hGramChecks205 : HE := ⟨10, [(.agg [(.sl 0 4 0 5 none 1),(.sl 1 2 0 3 none 1),(.sl 2 5 0 6 none 2)])], [bgramChecks66, bgramChecks15, bgramChecks16, bgramChecks17, bgramChecks18, bgramChecks19, bgramChecks20, bgramChecks21, bgramChecks22], [((.val eB0), [])]⟩
theorem hGramChecks205_ok : HOk Tryz.prog hGramChecks205 := hok_eq mmGramChecks_ok hmGramChecks205_ok folGramChecks (lf := 100000) (k := 1000) (by kernel_rfl)
def hmGramChecks206 : List HE := hGramChecks205 :: hmGramChecks205
theorem hmGramChecks206_ok : ∀ x ∈ hmGramChecks206, HOk Tryz.prog x := hmemo_cons hGramChecks205_ok hmGramChecks205_ok
def bgramChecks67 : Blk := ⟨[(eI 100),(.sl 3 2 0 3 none 1),(eI 1),(.sl 4 0 0 1 none 1),(eI 101),(.sl 5 2 0 3 none 1),(eI 101),(.sl 6 0 0 1 none 1),(eI 102),(.sl 7 0 0 1 none 1),(eI 102),(.sl 8 2 0 3 none 1)],32,[(5,12),(0,2)],6,0,false,6,none⟩
def hGramChecks206 : HE := ⟨26, [(.agg [(.sl 0 4 0 5 none 1),(.sl 1 2 0 3 none 1),(.sl 2 5 0 6 none 2)])], [bgramChecks14, bgramChecks15, bgramChecks67, bgramChecks17, bgramChecks18, bgramChecks19, bgramChecks20, bgramChecks21, bgramChecks22], [((.val eB1), [])]⟩
theorem hGramChecks206_ok : HOk Tryz.prog hGramChecks206 := hok_eq mmGramChecks_ok hmGramChecks206_ok folGramChecks (lf := 100000) (k := 1000) (by kernel_rfl)
def hmGramChecks207 : List HE := hGramChecks206 :: hmGramChecks206
theorem hmGramChecks207_ok : ∀ x ∈ hmGramChecks207, HOk Tryz.prog x := hmemo_cons hGramChecks206_ok hmGramChecks206_ok
def bgramChecks68 : Blk := ⟨[(eI 100),(.sl 1 2 0 3 none 1),(eI 1),(.sl 2 0 0 1 none 1),(eI 101),(.sl 3 2 0 3 none 1),(eI 101),(.sl 4 0 0 1 none 1),(eI 102),(.sl 5 0 0 1 none 1),(eI 102),(.sl 6 2 0 3 none 1)],32,[(5,12),(0,2)],6,0,false,6,none⟩
def hGramChecks207 : HE := ⟨59, [(.sl 0 5 0 0 none 2),(.agg [(eI 100),(.sl 1 2 0 3 none 1)])], [bgramChecks68, bgramChecks17, bgramChecks18, bgramChecks19, bgramChecks20, bgramChecks21, bgramChecks22], [((.val eB0), [])]⟩
theorem hGramChecks207_ok : HOk Tryz.prog hGramChecks207 := hok_eq mmGramChecks_ok hmGramChecks207_ok folGramChecks (lf := 100000) (k := 1000) (by kernel_rfl)
def hmGramChecks208 : List HE := hGramChecks207 :: hmGramChecks207
theorem hmGramChecks208_ok : ∀ x ∈ hmGramChecks208, HOk Tryz.prog x := hmemo_cons hGramChecks207_ok hmGramChecks207_ok
def hGramChecks208 : HE := ⟨27, [(.agg [(.sl 0 4 0 5 none 1),(.sl 1 2 0 3 none 1),(.sl 2 5 0 6 none 2)])], [bgramChecks14, bgramChecks15, bgramChecks67, bgramChecks17, bgramChecks18, bgramChecks19, bgramChecks20, bgramChecks21, bgramChecks22], [((.val eB0), [])]⟩
theorem hGramChecks208_ok : HOk Tryz.prog hGramChecks208 := hok_eq mmGramChecks_ok hmGramChecks208_ok folGramChecks (lf := 100000) (k := 1000) (by kernel_rfl)
def hmGramChecks209 : List HE := hGramChecks208 :: hmGramChecks208
theorem hmGramChecks209_ok : ∀ x ∈ hmGramChecks209, HOk Tryz.prog x := hmemo_cons hGramChecks208_ok hmGramChecks208_ok
def hGramChecks209 : HE := ⟨8, [(.agg [(.sl 0 4 0 5 none 1),(.sl 1 2 0 3 none 1),(.sl 2 5 0 6 none 2)])], [bgramChecks14, bgramChecks15, bgramChecks67, bgramChecks17, bgramChecks18, bgramChecks19, bgramChecks20, bgramChecks21, bgramChecks22], [((.val (eI 1)), [])]⟩
theorem hGramChecks209_ok : HOk Tryz.prog hGramChecks209 := hok_eq mmGramChecks_ok hmGramChecks209_ok folGramChecks (lf := 100000) (k := 1000) (by kernel_rfl)
def hmGramChecks210 : List HE := hGramChecks209 :: hmGramChecks209
theorem hmGramChecks210_ok : ∀ x ∈ hmGramChecks210, HOk Tryz.prog x := hmemo_cons hGramChecks209_ok hmGramChecks209_ok
def hGramChecks210 : HE := ⟨9, [(.agg [(.sl 0 4 0 5 none 1),(.sl 1 2 0 3 none 1),(.sl 2 5 0 6 none 2)])], [bgramChecks14, bgramChecks15, bgramChecks67, bgramChecks17, bgramChecks18, bgramChecks19, bgramChecks20, bgramChecks21, bgramChecks22], [((.val (.tup [(eS []),(eI 1)])), [])]⟩
theorem hGramChecks210_ok : HOk Tryz.prog hGramChecks210 := hok_eq mmGramChecks_ok hmGramChecks210_ok folGramChecks (lf := 100000) (k := 1000) (by kernel_rfl)
def hmGramChecks211 : List HE := hGramChecks210 :: hmGramChecks210
theorem hmGramChecks211_ok : ∀ x ∈ hmGramChecks211, HOk Tryz.prog x := hmemo_cons hGramChecks210_ok hmGramChecks210_ok
def hGramChecks211 : HE := ⟨10, [(.agg [(.sl 0 4 0 5 none 1),(.sl 1 2 0 3 none 1),(.sl 2 5 0 6 none 2)])], [bgramChecks14, bgramChecks15, bgramChecks67, bgramChecks17, bgramChecks18, bgramChecks19, bgramChecks20, bgramChecks21, bgramChecks22], [((.val eB0), [])]⟩
theorem hGramChecks211_ok : HOk Tryz.prog hGramChecks211 := hok_eq mmGramChecks_ok hmGramChecks211_ok folGramChecks (lf := 100000) (k := 1000) (by kernel_rfl)
def hmGramChecks212 : List HE := hGramChecks211 :: hmGramChecks211
theorem hmGramChecks212_ok : ∀ x ∈ hmGramChecks212, HOk Tryz.prog x := hmemo_cons hGramChecks211_ok hmGramChecks211_ok
def bgramChecks69 : Blk := ⟨[(eI 100),(.sl 3 2 0 3 none 1),(eI 103),(.sl 4 0 0 1 none 1),(eI 101),(.sl 5 2 0 3 none 1),(eI 101),(.sl 6 0 0 1 none 1),(eI 102),(.sl 7 0 0 1 none 1),(eI 102),(.sl 8 2 0 3 none 1)],32,[(5,12),(0,2)],6,0,false,6,none⟩
def hGramChecks212 : HE := ⟨26, [(.agg [(.sl 0 4 0 5 none 1),(.sl 1 2 0 3 none 1),(.sl 2 5 0 6 none 2)])], [bgramChecks14, bgramChecks15, bgramChecks69, bgramChecks17, bgramChecks18, bgramChecks19, bgramChecks20, bgramChecks21, bgramChecks22], [((.val eB1), [])]⟩
theorem hGramChecks212_ok : HOk Tryz.prog hGramChecks212 := hok_eq mmGramChecks_ok hmGramChecks212_ok folGramChecks (lf := 100000) (k := 1000) (by kernel_rfl)
def hmGramChecks213 : List HE := hGramChecks212 :: hmGramChecks212
theorem hmGramChecks213_ok : ∀ x ∈ hmGramChecks213, HOk Tryz.prog x := hmemo_cons hGramChecks212_ok hmGramChecks212_ok
def bgramChecks70 : Blk := ⟨[(eI 100),(.sl 1 2 0 3 none 1),(eI 103),(.sl 2 0 0 1 none 1),(eI 101),(.sl 3 2 0 3 none 1),(eI 101),(.sl 4 0 0 1 none 1),(eI 102),(.sl 5 0 0 1 none 1),(eI 102),(.sl 6 2 0 3 none 1)],32,[(5,12),(0,2)],6,0,false,6,none⟩
def hGramChecks213 : HE := ⟨59, [(.sl 0 5 0 0 none 2),(.agg [(eI 100),(.sl 1 2 0 3 none 1)])], [bgramChecks70, bgramChecks17, bgramChecks18, bgramChecks19, bgramChecks20, bgramChecks21, bgramChecks22], [((.val eB0), [])]⟩
theorem hGramChecks213_ok : HOk Tryz.prog hGramChecks213 := hok_eq mmGramChecks_ok hmGramChecks213_ok folGramChecks (lf := 100000) (k := 1000) (by kernel_rfl)
def hmGramChecks214 : List HE := hGramChecks213 :: hmGramChecks213
theorem hmGramChecks214_ok : ∀ x ∈ hmGramChecks214, HOk Tryz.prog x := hmemo_cons hGramChecks213_ok hmGramChecks213_ok
def hGramChecks214 : HE := ⟨27, [(.agg [(.sl 0 4 0 5 none 1),(.sl 1 2 0 3 none 1),(.sl 2 5 0 6 none 2)])], [bgramChecks14, bgramChecks15, bgramChecks69, bgramChecks17, bgramChecks18, bgramChecks19, bgramChecks20, bgramChecks21, bgramChecks22], [((.val eB0), [])]⟩
theorem hGramChecks214_ok : HOk Tryz.prog hGramChecks214 := hok_eq mmGramChecks_ok hmGramChecks214_ok folGramChecks (lf := 100000) (k := 1000) (by kernel_rfl)
def hmGramChecks215 : List HE := hGramChecks214 :: hmGramChecks214
theorem hmGramChecks215_ok : ∀ x ∈ hmGramChecks215, HOk Tryz.prog x := hmemo_cons hGramChecks214_ok hmGramChecks214_ok
def hGramChecks215 : HE := ⟨8, [(.agg [(.sl 0 4 0 5 none 1),(.sl 1 2 0 3 none 1),(.sl 2 5 0 6 none 2)])], [bgramChecks14, bgramChecks15, bgramChecks69, bgramChecks17, bgramChecks18, bgramChecks19, bgramChecks20, bgramChecks21, bgramChecks22], [((.val (eI 1)), [])]⟩
theorem hGramChecks215_ok : HOk Tryz.prog hGramChecks215 := hok_eq mmGramChecks_ok hmGramChecks215_ok folGramChecks (lf := 100000) (k := 1000) (by kernel_rfl)
def hmGramChecks216 : List HE := hGramChecks215 :: hmGramChecks215
theorem hmGramChecks216_ok : ∀ x ∈ hmGramChecks216, HOk Tryz.prog x := hmemo_cons hGramChecks215_ok hmGramChecks215_ok
def hGramChecks216 : HE := ⟨9, [(.agg [(.sl 0 4 0 5 none 1),(.sl 1 2 0 3 none 1),(.sl 2 5 0 6 none 2)])], [bgramChecks14, bgramChecks15, bgramChecks69, bgramChecks17, bgramChecks18, bgramChecks19, bgramChecks20, bgramChecks21, bgramChecks22], [((.val (.tup [(eS []),(eI 1)])), [])]⟩
theorem hGramChecks216_ok : HOk Tryz.prog hGramChecks216 := hok_eq mmGramChecks_ok hmGramChecks216_ok folGramChecks (lf := 100000) (k := 1000) (by kernel_rfl)
def hmGramChecks217 : List HE := hGramChecks216 :: hmGramChecks216
theorem hmGramChecks217_ok : ∀ x ∈ hmGramChecks217, HOk Tryz.prog x := hmemo_cons hGramChecks216_ok hmGramChecks216_ok
def hGramChecks217 : HE := ⟨10, [(.agg [(.sl 0 4 0 5 none 1),(.sl 1 2 0 3 none 1),(.sl 2 5 0 6 none 2)])], [bgramChecks14, bgramChecks15, bgramChecks69, bgramChecks17, bgramChecks18, bgramChecks19, bgramChecks20, bgramChecks21, bgramChecks22], [((.val eB0), [])]⟩
theorem hGramChecks217_ok : HOk Tryz.prog hGramChecks217 := hok_eq mmGramChecks_ok hmGramChecks217_ok folGramChecks (lf := 100000) (k := 1000) (by kernel_rfl)
def hmGramChecks218 : List HE := hGramChecks217 :: hmGramChecks217
theorem hmGramChecks218_ok : ∀ x ∈ hmGramChecks218, HOk Tryz.prog x := hmemo_cons hGramChecks217_ok hmGramChecks217_ok
def bgramChecks71 : Blk := ⟨[(eS [112]),(eS [109]),(eS [65]),(eS [108]),(eS [114])],9,[(4,5),(1,2),(0,1)],5,0,false,5,none⟩
def hGramChecks218 : HE := ⟨26, [(.agg [(.sl 0 4 0 5 none 1),(.sl 1 2 0 3 none 1),(.sl 2 5 0 6 none 2)])], [bgramChecks71, bgramChecks15, bgramChecks16, bgramChecks17, bgramChecks18, bgramChecks19, bgramChecks20, bgramChecks21, bgramChecks22], [((.val eB0), [])]⟩
theorem hGramChecks218_ok : HOk Tryz.prog hGramChecks218 := hok_eq mmGramChecks_ok hmGramChecks218_ok folGramChecks (lf := 100000) (k := 1000) (by kernel_rfl)
def hmGramChecks219 : List HE := hGramChecks218 :: hmGramChecks218
theorem hmGramChecks219_ok : ∀ x ∈ hmGramChecks219, HOk Tryz.prog x := hmemo_cons hGramChecks218_ok hmGramChecks218_ok
def hGramChecks219 : HE := ⟨8, [(.agg [(.sl 0 4 0 5 none 1),(.sl 1 2 0 3 none 1),(.sl 2 5 0 6 none 2)])], [bgramChecks71, bgramChecks15, bgramChecks16, bgramChecks17, bgramChecks18, bgramChecks19, bgramChecks20, bgramChecks21, bgramChecks22], [((.val (eI 1)), [])]⟩
theorem hGramChecks219_ok : HOk Tryz.prog hGramChecks219 := hok_eq mmGramChecks_ok hmGramChecks219_ok folGramChecks (lf := 100000) (k := 1000) (by kernel_rfl)
def hmGramChecks220 : List HE := hGramChecks219 :: hmGramChecks219
theorem hmGramChecks220_ok : ∀ x ∈ hmGramChecks220, HOk Tryz.prog x := hmemo_cons hGramChecks219_ok hmGramChecks219_ok
def hGramChecks220 : HE := ⟨9, [(.agg [(.sl 0 4 0 5 none 1),(.sl 1 2 0 3 none 1),(.sl 2 5 0 6 none 2)])], [bgramChecks71, bgramChecks15, bgramChecks16, bgramChecks17, bgramChecks18, bgramChecks19, bgramChecks20, bgramChecks21, bgramChecks22], [((.val (.tup [(eS []),(eI 1)])), [])]⟩
theorem hGramChecks220_ok : HOk Tryz.prog hGramChecks220 := hok_eq mmGramChecks_ok hmGramChecks220_ok folGramChecks (lf := 100000) (k := 1000) (by kernel_rfl)
def hmGramChecks221 : List HE := hGramChecks220 :: hmGramChecks220
theorem hmGramChecks221_ok : ∀ x ∈ hmGramChecks221, HOk Tryz.prog x := hmemo_cons hGramChecks220_ok hmGramChecks220_ok
def hGramChecks221 : HE := ⟨10, [(.agg [(.sl 0 4 0 5 none 1),(.sl 1 2 0 3 none 1),(.sl 2 5 0 6 none 2)])], [bgramChecks71, bgramChecks15, bgramChecks16, bgramChecks17, bgramChecks18, bgramChecks19, bgramChecks20, bgramChecks21, bgramChecks22], [((.val eB0), [])]⟩
theorem hGramChecks221_ok : HOk Tryz.prog hGramChecks221 := hok_eq mmGramChecks_ok hmGramChecks221_ok folGramChecks (lf := 100000) (k := 1000) (by kernel_rfl)
def hmGramChecks222 : List HE := hGramChecks221 :: hmGramChecks221
theorem hmGramChecks222_ok : ∀ x ∈ hmGramChecks222, HOk Tryz.prog x := hmemo_cons hGramChecks221_ok hmGramChecks221_ok
def bgramChecks72 : Blk := ⟨[(eI 1),(.sl 3 2 0 3 none 1),(eI 100),(.sl 4 0 0 1 none 1),(eI 101),(.sl 5 2 0 3 none 1),(eI 101),(.sl 6 0 0 1 none 1),(eI 102),(.sl 7 0 0 1 none 1),(eI 102),(.sl 8 2 0 3 none 1)],32,[(5,12)],6,0,false,6,none⟩
def hGramChecks222 : HE := ⟨26, [(.agg [(.sl 0 4 0 5 none 1),(.sl 1 2 0 3 none 1),(.sl 2 5 0 6 none 2)])], [bgramChecks14, bgramChecks15, bgramChecks72, bgramChecks17, bgramChecks18, bgramChecks19, bgramChecks20, bgramChecks21, bgramChecks22], [((.val eB1), [])]⟩
theorem hGramChecks222_ok : HOk Tryz.prog hGramChecks222 := hok_eq mmGramChecks_ok hmGramChecks222_ok folGramChecks (lf := 100000) (k := 1000) (by kernel_rfl)
def hmGramChecks223 : List HE := hGramChecks222 :: hmGramChecks222
theorem hmGramChecks223_ok : ∀ x ∈ hmGramChecks223, HOk Tryz.prog x := hmemo_cons hGramChecks222_ok hmGramChecks222_ok
def hGramChecks223 : HE := ⟨27, [(.agg [(.sl 0 4 0 5 none 1),(.sl 1 2 0 3 none 1),(.sl 2 5 0 6 none 2)])], [bgramChecks14, bgramChecks15, bgramChecks72, bgramChecks17, bgramChecks18, bgramChecks19, bgramChecks20, bgramChecks21, bgramChecks22], [((.val eB0), [])]⟩
theorem hGramChecks223_ok : HOk Tryz.prog hGramChecks223 := hok_eq mmGramChecks_ok hmGramChecks223_ok folGramChecks (lf := 100000) (k := 1000) (by kernel_rfl)
def hmGramChecks224 : List HE := hGramChecks223 :: hmGramChecks223
theorem hmGramChecks224_ok : ∀ x ∈ hmGramChecks224, HOk Tryz.prog x := hmemo_cons hGramChecks223_ok hmGramChecks223_ok
def hGramChecks224 : HE := ⟨8, [(.agg [(.sl 0 4 0 5 none 1),(.sl 1 2 0 3 none 1),(.sl 2 5 0 6 none 2)])], [bgramChecks14, bgramChecks15, bgramChecks72, bgramChecks17, bgramChecks18, bgramChecks19, bgramChecks20, bgramChecks21, bgramChecks22], [((.val (eI 1)), [])]⟩
theorem hGramChecks224_ok : HOk Tryz.prog hGramChecks224 := hok_eq mmGramChecks_ok hmGramChecks224_ok folGramChecks (lf := 100000) (k := 1000) (by kernel_rfl)
def hmGramChecks225 : List HE := hGramChecks224 :: hmGramChecks224
theorem hmGramChecks225_ok : ∀ x ∈ hmGramChecks225, HOk Tryz.prog x := hmemo_cons hGramChecks224_ok hmGramChecks224_ok
def hGramChecks225 : HE := ⟨9, [(.agg [(.sl 0 4 0 5 none 1),(.sl 1 2 0 3 none 1),(.sl 2 5 0 6 none 2)])], [bgramChecks14, bgramChecks15, bgramChecks72, bgramChecks17, bgramChecks18, bgramChecks19, bgramChecks20, bgramChecks21, bgramChecks22], [((.val (.tup [(eS []),(eI 1)])), [])]⟩
theorem hGramChecks225_ok : HOk Tryz.prog hGramChecks225 := hok_eq mmGramChecks_ok hmGramChecks225_ok folGramChecks (lf := 100000) (k := 1000) (by kernel_rfl)
def hmGramChecks226 : List HE := hGramChecks225 :: hmGramChecks225
theorem hmGramChecks226_ok : ∀ x ∈ hmGramChecks226, HOk Tryz.prog x := hmemo_cons hGramChecks225_ok hmGramChecks225_ok
def hGramChecks226 : HE := ⟨10, [(.agg [(.sl 0 4 0 5 none 1),(.sl 1 2 0 3 none 1),(.sl 2 5 0 6 none 2)])], [bgramChecks14, bgramChecks15, bgramChecks72, bgramChecks17, bgramChecks18, bgramChecks19, bgramChecks20, bgramChecks21, bgramChecks22], [((.val eB0), [])]⟩
theorem hGramChecks226_ok : HOk Tryz.prog hGramChecks226 := hok_eq mmGramChecks_ok hmGramChecks226_ok folGramChecks (lf := 100000) (k := 1000) (by kernel_rfl)
def hmGramChecks227 : List HE := hGramChecks226 :: hmGramChecks226
theorem hmGramChecks227_ok : ∀ x ∈ hmGramChecks227, HOk Tryz.prog x := hmemo_cons hGramChecks226_ok hmGramChecks226_ok
def bgramChecks73 : Blk := ⟨[(eI 103),(.sl 3 2 0 3 none 1),(eI 100),(.sl 4 0 0 1 none 1),(eI 101),(.sl 5 2 0 3 none 1),(eI 101),(.sl 6 0 0 1 none 1),(eI 102),(.sl 7 0 0 1 none 1),(eI 102),(.sl 8 2 0 3 none 1)],32,[(5,12)],6,0,false,6,none⟩
def hGramChecks227 : HE := ⟨26, [(.agg [(.sl 0 4 0 5 none 1),(.sl 1 2 0 3 none 1),(.sl 2 5 0 6 none 2)])], [bgramChecks14, bgramChecks15, bgramChecks73, bgramChecks17, bgramChecks18, bgramChecks19, bgramChecks20, bgramChecks21, bgramChecks22], [((.val eB1), [])]⟩
theorem hGramChecks227_ok : HOk Tryz.prog hGramChecks227 := hok_eq mmGramChecks_ok hmGramChecks227_ok folGramChecks (lf := 100000) (k := 1000) (by kernel_rfl)
def hmGramChecks228 : List HE := hGramChecks227 :: hmGramChecks227
theorem hmGramChecks228_ok : ∀ x ∈ hmGramChecks228, HOk Tryz.prog x := hmemo_cons hGramChecks227_ok hmGramChecks227_ok
def hGramChecks228 : HE := ⟨27, [(.agg [(.sl 0 4 0 5 none 1),(.sl 1 2 0 3 none 1),(.sl 2 5 0 6 none 2)])], [bgramChecks14, bgramChecks15, bgramChecks73, bgramChecks17, bgramChecks18, bgramChecks19, bgramChecks20, bgramChecks21, bgramChecks22], [((.val eB0), [])]⟩
theorem hGramChecks228_ok : HOk Tryz.prog hGramChecks228 := hok_eq mmGramChecks_ok hmGramChecks228_ok folGramChecks (lf := 100000) (k := 1000) (by kernel_rfl)
def hmGramChecks229 : List HE := hGramChecks228 :: hmGramChecks228
theorem hmGramChecks229_ok : ∀ x ∈ hmGramChecks229, HOk Tryz.prog x := hmemo_cons hGramChecks228_ok hmGramChecks228_ok
def hGramChecks229 : HE := ⟨8, [(.agg [(.sl 0 4 0 5 none 1),(.sl 1 2 0 3 none 1),(.sl 2 5 0 6 none 2)])], [bgramChecks14, bgramChecks15, bgramChecks73, bgramChecks17, bgramChecks18, bgramChecks19, bgramChecks20, bgramChecks21, bgramChecks22], [((.val (eI 1)), [])]⟩
theorem hGramChecks229_ok : HOk Tryz.prog hGramChecks229 := hok_eq mmGramChecks_ok hmGramChecks229_ok folGramChecks (lf := 100000) (k := 1000) (by kernel_rfl)
def hmGramChecks230 : List HE := hGramChecks229 :: hmGramChecks229
theorem hmGramChecks230_ok : ∀ x ∈ hmGramChecks230, HOk Tryz.prog x := hmemo_cons hGramChecks229_ok hmGramChecks229_ok
def hGramChecks230 : HE := ⟨9, [(.agg [(.sl 0 4 0 5 none 1),(.sl 1 2 0 3 none 1),(.sl 2 5 0 6 none 2)])], [bgramChecks14, bgramChecks15, bgramChecks73, bgramChecks17, bgramChecks18, bgramChecks19, bgramChecks20, bgramChecks21, bgramChecks22], [((.val (.tup [(eS []),(eI 1)])), [])]⟩
theorem hGramChecks230_ok : HOk Tryz.prog hGramChecks230 := hok_eq mmGramChecks_ok hmGramChecks230_ok folGramChecks (lf := 100000) (k := 1000) (by kernel_rfl)
def hmGramChecks231 : List HE := hGramChecks230 :: hmGramChecks230
theorem hmGramChecks231_ok : ∀ x ∈ hmGramChecks231, HOk Tryz.prog x := hmemo_cons hGramChecks230_ok hmGramChecks230_ok
def hGramChecks231 : HE := ⟨10, [(.agg [(.sl 0 4 0 5 none 1),(.sl 1 2 0 3 none 1),(.sl 2 5 0 6 none 2)])], [bgramChecks14, bgramChecks15, bgramChecks73, bgramChecks17, bgramChecks18, bgramChecks19, bgramChecks20, bgramChecks21, bgramChecks22], [((.val eB0), [])]⟩
theorem hGramChecks231_ok : HOk Tryz.prog hGramChecks231 := hok_eq mmGramChecks_ok hmGramChecks231_ok folGramChecks (lf := 100000) (k := 1000) (by kernel_rfl)
def hmGramChecks232 : List HE := hGramChecks231 :: hmGramChecks231
theorem hmGramChecks232_ok : ∀ x ∈ hmGramChecks232, HOk Tryz.prog x := hmemo_cons hGramChecks231_ok hmGramChecks231_ok
def bgramChecks74 : Blk := ⟨[(eI 100),(.sl 3 2 0 3 none 1),(eI 100),(.sl 4 0 0 1 none 1),(eI 101),(.sl 5 2 0 3 none 1),(eI 101),(.sl 6 0 0 1 none 1),(eI 102),(.sl 7 0 0 1 none 1),(eI 1),(.sl 8 2 0 3 none 1)],32,[(5,12),(4,10),(3,8),(2,6),(1,4),(0,2)],6,0,false,6,none⟩
def hGramChecks232 : HE := ⟨26, [(.agg [(.sl 0 4 0 5 none 1),(.sl 1 2 0 3 none 1),(.sl 2 5 0 6 none 2)])], [bgramChecks14, bgramChecks15, bgramChecks74, bgramChecks17, bgramChecks18, bgramChecks19, bgramChecks20, bgramChecks21, bgramChecks22], [((.val eB1), [])]⟩
theorem hGramChecks232_ok : HOk Tryz.prog hGramChecks232 := hok_eq mmGramChecks_ok hmGramChecks232_ok folGramChecks (lf := 100000) (k := 1000) (by kernel_rfl)
def hmGramChecks233 : List HE := hGramChecks232 :: hmGramChecks232
theorem hmGramChecks233_ok : ∀ x ∈ hmGramChecks233, HOk Tryz.prog x := hmemo_cons hGramChecks232_ok hmGramChecks232_ok
def bgramChecks75 : Blk := ⟨[(eI 100),(.sl 1 2 0 3 none 1),(eI 100),(.sl 2 0 0 1 none 1),(eI 101),(.sl 3 2 0 3 none 1),(eI 101),(.sl 4 0 0 1 none 1),(eI 102),(.sl 5 0 0 1 none 1),(eI 1),(.sl 6 2 0 3 none 1)],32,[(5,12),(4,10),(3,8),(2,6),(1,4),(0,2)],6,0,false,6,none⟩
def hGramChecks233 : HE := ⟨59, [(.sl 0 5 0 0 none 2),(.agg [(eI 100),(.sl 1 2 0 3 none 1)])], [bgramChecks75, bgramChecks17, bgramChecks18, bgramChecks19, bgramChecks20, bgramChecks21, bgramChecks22], [((.val eB0), [])]⟩
theorem hGramChecks233_ok : HOk Tryz.prog hGramChecks233 := hok_eq mmGramChecks_ok hmGramChecks233_ok folGramChecks (lf := 100000) (k := 1000) (by kernel_rfl)
def hmGramChecks234 : List HE := hGramChecks233 :: hmGramChecks233
theorem hmGramChecks234_ok : ∀ x ∈ hmGramChecks234, HOk Tryz.prog x := hmemo_cons hGramChecks233_ok hmGramChecks233_ok
def hGramChecks234 : HE := ⟨59, [(.sl 0 5 0 1 none 2),(.agg [(eI 100),(.sl 2 0 0 1 none 1)])], [bgramChecks75, bgramChecks17, bgramChecks18, bgramChecks19, bgramChecks20, bgramChecks21, bgramChecks22], [((.val eB0), [])]⟩
theorem hGramChecks234_ok : HOk Tryz.prog hGramChecks234 := hok_eq mmGramChecks_ok hmGramChecks234_ok folGramChecks (lf := 100000) (k := 1000) (by kernel_rfl)
def hmGramChecks235 : List HE := hGramChecks234 :: hmGramChecks234
theorem hmGramChecks235_ok : ∀ x ∈ hmGramChecks235, HOk Tryz.prog x := hmemo_cons hGramChecks234_ok hmGramChecks234_ok
def hGramChecks235 : HE := ⟨59, [(.sl 0 5 0 2 none 2),(.agg [(eI 101),(.sl 3 2 0 3 none 1)])], [bgramChecks75, bgramChecks17, bgramChecks18, bgramChecks19, bgramChecks20, bgramChecks21, bgramChecks22], [((.val eB0), [])]⟩
theorem hGramChecks235_ok : HOk Tryz.prog hGramChecks235 := hok_eq mmGramChecks_ok hmGramChecks235_ok folGramChecks (lf := 100000) (k := 1000) (by kernel_rfl)
def hmGramChecks236 : List HE := hGramChecks235 :: hmGramChecks235
theorem hmGramChecks236_ok : ∀ x ∈ hmGramChecks236, HOk Tryz.prog x := hmemo_cons hGramChecks235_ok hmGramChecks235_ok
def hGramChecks236 : HE := ⟨59, [(.sl 0 5 0 3 none 2),(.agg [(eI 101),(.sl 4 0 0 1 none 1)])], [bgramChecks75, bgramChecks17, bgramChecks18, bgramChecks19, bgramChecks20, bgramChecks21, bgramChecks22], [((.val eB0), [])]⟩
theorem hGramChecks236_ok : HOk Tryz.prog hGramChecks236 := hok_eq mmGramChecks_ok hmGramChecks236_ok folGramChecks (lf := 100000) (k := 1000) (by kernel_rfl)
def hmGramChecks237 : List HE := hGramChecks236 :: hmGramChecks236
theorem hmGramChecks237_ok : ∀ x ∈ hmGramChecks237, HOk Tryz.prog x := hmemo_cons hGramChecks236_ok hmGramChecks236_ok
def hGramChecks237 : HE := ⟨59, [(.sl 0 5 0 4 none 2),(.agg [(eI 102),(.sl 5 0 0 1 none 1)])], [bgramChecks75, bgramChecks17, bgramChecks18, bgramChecks19, bgramChecks20, bgramChecks21, bgramChecks22], [((.val eB0), [])]⟩
theorem hGramChecks237_ok : HOk Tryz.prog hGramChecks237 := hok_eq mmGramChecks_ok hmGramChecks237_ok folGramChecks (lf := 100000) (k := 1000) (by kernel_rfl)
def hmGramChecks238 : List HE := hGramChecks237 :: hmGramChecks237
theorem hmGramChecks238_ok : ∀ x ∈ hmGramChecks238, HOk Tryz.prog x := hmemo_cons hGramChecks237_ok hmGramChecks237_ok
def hGramChecks238 : HE := ⟨27, [(.agg [(.sl 0 4 0 5 none 1),(.sl 1 2 0 3 none 1),(.sl 2 5 0 6 none 2)])], [bgramChecks14, bgramChecks15, bgramChecks74, bgramChecks17, bgramChecks18, bgramChecks19, bgramChecks20, bgramChecks21, bgramChecks22], [((.val eB0), [])]⟩
theorem hGramChecks238_ok : HOk Tryz.prog hGramChecks238 := hok_eq mmGramChecks_ok hmGramChecks238_ok folGramChecks (lf := 100000) (k := 1000) (by kernel_rfl)
def hmGramChecks239 : List HE := hGramChecks238 :: hmGramChecks238
theorem hmGramChecks239_ok : ∀ x ∈ hmGramChecks239, HOk Tryz.prog x := hmemo_cons hGramChecks238_ok hmGramChecks238_ok
def hGramChecks239 : HE := ⟨8, [(.agg [(.sl 0 4 0 5 none 1),(.sl 1 2 0 3 none 1),(.sl 2 5 0 6 none 2)])], [bgramChecks14, bgramChecks15, bgramChecks74, bgramChecks17, bgramChecks18, bgramChecks19, bgramChecks20, bgramChecks21, bgramChecks22], [((.val (eI 1)), [])]⟩
theorem hGramChecks239_ok : HOk Tryz.prog hGramChecks239 := hok_eq mmGramChecks_ok hmGramChecks239_ok folGramChecks (lf := 100000) (k := 1000) (by kernel_rfl)
def hmGramChecks240 : List HE := hGramChecks239 :: hmGramChecks239
theorem hmGramChecks240_ok : ∀ x ∈ hmGramChecks240, HOk Tryz.prog x := hmemo_cons hGramChecks239_ok hmGramChecks239_ok
def hGramChecks240 : HE := ⟨9, [(.agg [(.sl 0 4 0 5 none 1),(.sl 1 2 0 3 none 1),(.sl 2 5 0 6 none 2)])], [bgramChecks14, bgramChecks15, bgramChecks74, bgramChecks17, bgramChecks18, bgramChecks19, bgramChecks20, bgramChecks21, bgramChecks22], [((.val (.tup [(eS []),(eI 1)])), [])]⟩
theorem hGramChecks240_ok : HOk Tryz.prog hGramChecks240 := hok_eq mmGramChecks_ok hmGramChecks240_ok folGramChecks (lf := 100000) (k := 1000) (by kernel_rfl)
def hmGramChecks241 : List HE := hGramChecks240 :: hmGramChecks240
theorem hmGramChecks241_ok : ∀ x ∈ hmGramChecks241, HOk Tryz.prog x := hmemo_cons hGramChecks240_ok hmGramChecks240_ok
def hGramChecks241 : HE := ⟨10, [(.agg [(.sl 0 4 0 5 none 1),(.sl 1 2 0 3 none 1),(.sl 2 5 0 6 none 2)])], [bgramChecks14, bgramChecks15, bgramChecks74, bgramChecks17, bgramChecks18, bgramChecks19, bgramChecks20, bgramChecks21, bgramChecks22], [((.val eB0), [])]⟩
theorem hGramChecks241_ok : HOk Tryz.prog hGramChecks241 := hok_eq mmGramChecks_ok hmGramChecks241_ok folGramChecks (lf := 100000) (k := 1000) (by kernel_rfl)
def hmGramChecks242 : List HE := hGramChecks241 :: hmGramChecks241
theorem hmGramChecks242_ok : ∀ x ∈ hmGramChecks242, HOk Tryz.prog x := hmemo_cons hGramChecks241_ok hmGramChecks241_ok
def bgramChecks76 : Blk := ⟨[(eI 100),(.sl 3 2 0 3 none 1),(eI 100),(.sl 4 0 0 1 none 1),(eI 101),(.sl 5 2 0 3 none 1),(eI 101),(.sl 6 0 0 1 none 1),(eI 102),(.sl 7 0 0 1 none 1),(eI 103),(.sl 8 2 0 3 none 1)],32,[(5,12),(4,10),(3,8),(2,6),(1,4),(0,2)],6,0,false,6,none⟩
def hGramChecks242 : HE := ⟨26, [(.agg [(.sl 0 4 0 5 none 1),(.sl 1 2 0 3 none 1),(.sl 2 5 0 6 none 2)])], [bgramChecks14, bgramChecks15, bgramChecks76, bgramChecks17, bgramChecks18, bgramChecks19, bgramChecks20, bgramChecks21, bgramChecks22], [((.val eB1), [])]⟩
theorem hGramChecks242_ok : HOk Tryz.prog hGramChecks242 := hok_eq mmGramChecks_ok hmGramChecks242_ok folGramChecks (lf := 100000) (k := 1000) (by kernel_rfl)
def hmGramChecks243 : List HE := hGramChecks242 :: hmGramChecks242
theorem hmGramChecks243_ok : ∀ x ∈ hmGramChecks243, HOk Tryz.prog x := hmemo_cons hGramChecks242_ok hmGramChecks242_ok
def bgramChecks77 : Blk := ⟨[(eI 100),(.sl 1 2 0 3 none 1),(eI 100),(.sl 2 0 0 1 none 1),(eI 101),(.sl 3 2 0 3 none 1),(eI 101),(.sl 4 0 0 1 none 1),(eI 102),(.sl 5 0 0 1 none 1),(eI 103),(.sl 6 2 0 3 none 1)],32,[(5,12),(4,10),(3,8),(2,6),(1,4),(0,2)],6,0,false,6,none⟩
def hGramChecks243 : HE := ⟨59, [(.sl 0 5 0 0 none 2),(.agg [(eI 100),(.sl 1 2 0 3 none 1)])], [bgramChecks77, bgramChecks17, bgramChecks18, bgramChecks19, bgramChecks20, bgramChecks21, bgramChecks22], [((.val eB0), [])]⟩
theorem hGramChecks243_ok : HOk Tryz.prog hGramChecks243 := hok_eq mmGramChecks_ok hmGramChecks243_ok folGramChecks (lf := 100000) (k := 1000) (by kernel_rfl)
def hmGramChecks244 : List HE := hGramChecks243 :: hmGramChecks243
theorem hmGramChecks244_ok : ∀ x ∈ hmGramChecks244, HOk Tryz.prog x := hmemo_cons hGramChecks243_ok hmGramChecks243_ok
def hGramChecks244 : HE := ⟨59, [(.sl 0 5 0 1 none 2),(.agg [(eI 100),(.sl 2 0 0 1 none 1)])], [bgramChecks77, bgramChecks17, bgramChecks18, bgramChecks19, bgramChecks20, bgramChecks21, bgramChecks22], [((.val eB0), [])]⟩
theorem hGramChecks244_ok : HOk Tryz.prog hGramChecks244 := hok_eq mmGramChecks_ok hmGramChecks244_ok folGramChecks (lf := 100000) (k := 1000) (by kernel_rfl)
def hmGramChecks245 : List HE := hGramChecks244 :: hmGramChecks244
theorem hmGramChecks245_ok : ∀ x ∈ hmGramChecks245, HOk Tryz.prog x := hmemo_cons hGramChecks244_ok hmGramChecks244_ok
def hGramChecks245 : HE := ⟨59, [(.sl 0 5 0 2 none 2),(.agg [(eI 101),(.sl 3 2 0 3 none 1)])], [bgramChecks77, bgramChecks17, bgramChecks18, bgramChecks19, bgramChecks20, bgramChecks21, bgramChecks22], [((.val eB0), [])]⟩
theorem hGramChecks245_ok : HOk Tryz.prog hGramChecks245 := hok_eq mmGramChecks_ok hmGramChecks245_ok folGramChecks (lf := 100000) (k := 1000) (by kernel_rfl)
def hmGramChecks246 : List HE := hGramChecks245 :: hmGramChecks245
theorem hmGramChecks246_ok : ∀ x ∈ hmGramChecks246, HOk Tryz.prog x := hmemo_cons hGramChecks245_ok hmGramChecks245_ok
def hGramChecks246 : HE := ⟨59, [(.sl 0 5 0 3 none 2),(.agg [(eI 101),(.sl 4 0 0 1 none 1)])], [bgramChecks77, bgramChecks17, bgramChecks18, bgramChecks19, bgramChecks20, bgramChecks21, bgramChecks22], [((.val eB0), [])]⟩
theorem hGramChecks246_ok : HOk Tryz.prog hGramChecks246 := hok_eq mmGramChecks_ok hmGramChecks246_ok folGramChecks (lf := 100000) (k := 1000) (by kernel_rfl)
def hmGramChecks247 : List HE := hGramChecks246 :: hmGramChecks246
theorem hmGramChecks247_ok : ∀ x ∈ hmGramChecks247, HOk Tryz.prog x := hmemo_cons hGramChecks246_ok hmGramChecks246_ok
def hGramChecks247 : HE := ⟨59, [(.sl 0 5 0 4 none 2),(.agg [(eI 102),(.sl 5 0 0 1 none 1)])], [bgramChecks77, bgramChecks17, bgramChecks18, bgramChecks19, bgramChecks20, bgramChecks21, bgramChecks22], [((.val eB0), [])]⟩
theorem hGramChecks247_ok : HOk Tryz.prog hGramChecks247 := hok_eq mmGramChecks_ok hmGramChecks247_ok folGramChecks (lf := 100000) (k := 1000) (by kernel_rfl)
def hmGramChecks248 : List HE := hGramChecks247 :: hmGramChecks247
theorem hmGramChecks248_ok : ∀ x ∈ hmGramChecks248, HOk Tryz.prog x := hmemo_cons hGramChecks247_ok hmGramChecks247_ok
def hGramChecks248 : HE := ⟨27, [(.agg [(.sl 0 4 0 5 none 1),(.sl 1 2 0 3 none 1),(.sl 2 5 0 6 none 2)])], [bgramChecks14, bgramChecks15, bgramChecks76, bgramChecks17, bgramChecks18, bgramChecks19, bgramChecks20, bgramChecks21, bgramChecks22], [((.val eB0), [])]⟩
theorem hGramChecks248_ok : HOk Tryz.prog hGramChecks248 := hok_eq mmGramChecks_ok hmGramChecks248_ok folGramChecks (lf := 100000) (k := 1000) (by kernel_rfl)
def hmGramChecks249 : List HE := hGramChecks248 :: hmGramChecks248
theorem hmGramChecks249_ok : ∀ x ∈ hmGramChecks249, HOk Tryz.prog x := hmemo_cons hGramChecks248_ok hmGramChecks248_ok
def hGramChecks249 : HE := ⟨8, [(.agg [(.sl 0 4 0 5 none 1),(.sl 1 2 0 3 none 1),(.sl 2 5 0 6 none 2)])], [bgramChecks14, bgramChecks15, bgramChecks76, bgramChecks17, bgramChecks18, bgramChecks19, bgramChecks20, bgramChecks21, bgramChecks22], [((.val (eI 1)), [])]⟩
theorem hGramChecks249_ok : HOk Tryz.prog hGramChecks249 := hok_eq mmGramChecks_ok hmGramChecks249_ok folGramChecks (lf := 100000) (k := 1000) (by kernel_rfl)
def hmGramChecks250 : List HE := hGramChecks249 :: hmGramChecks249
theorem hmGramChecks250_ok : ∀ x ∈ hmGramChecks250, HOk Tryz.prog x := hmemo_cons hGramChecks249_ok hmGramChecks249_ok
def hGramChecks250 : HE := ⟨9, [(.agg [(.sl 0 4 0 5 none 1),(.sl 1 2 0 3 none 1),(.sl 2 5 0 6 none 2)])], [bgramChecks14, bgramChecks15, bgramChecks76, bgramChecks17, bgramChecks18, bgramChecks19, bgramChecks20, bgramChecks21, bgramChecks22], [((.val (.tup [(eS []),(eI 1)])), [])]⟩
theorem hGramChecks250_ok : HOk Tryz.prog hGramChecks250 := hok_eq mmGramChecks_ok hmGramChecks250_ok folGramChecks (lf := 100000) (k := 1000) (by kernel_rfl)
def hmGramChecks251 : List HE := hGramChecks250 :: hmGramChecks250
theorem hmGramChecks251_ok : ∀ x ∈ hmGramChecks251, HOk Tryz.prog x := hmemo_cons hGramChecks250_ok hmGramChecks250_ok
def hGramChecks251 : HE := ⟨10, [(.agg [(.sl 0 4 0 5 none 1),(.sl 1 2 0 3 none 1),(.sl 2 5 0 6 none 2)])], [bgramChecks14, bgramChecks15, bgramChecks76, bgramChecks17, bgramChecks18, bgramChecks19, bgramChecks20, bgramChecks21, bgramChecks22], [((.val eB0), [])]⟩
theorem hGramChecks251_ok : HOk Tryz.prog hGramChecks251 := hok_eq mmGramChecks_ok hmGramChecks251_ok folGramChecks (lf := 100000) (k := 1000) (by kernel_rfl)
def hmGramChecks252 : List HE := hGramChecks251 :: hmGramChecks251
theorem hmGramChecks252_ok : ∀ x ∈ hmGramChecks252, HOk Tryz.prog x := hmemo_cons hGramChecks251_ok hmGramChecks251_ok
end Go.Proofs.YthofgbkmmedjnaaGreatDoor.E
