/- Calls that GramErrors makes, each carried out once over the memory that it is given. -/
import Derived.Test.YthofgbkmmedjnaaDoorEWithin
import Derived.Test.YthofgbkmmedjnaaDoorESplit
import Derived.Test.YthofgbkmmedjnaaDoorProg
import Derived.KernelRfl
namespace Go.Proofs.YthofgbkmmedjnaaDoor.E
open Go Go.EV Go.RowKit Go.Proofs
set_option linter.unusedVariables false
set_option maxRecDepth 100000
abbrev eI (n : Nat) : AV := .lit (.int .i64 (Int.ofNat n))
abbrev eU (n : Nat) : AV := .lit (.int .u8 (Int.ofNat n))
abbrev eS (l : List Nat) : AV := .lit (.string (sb l))
abbrev eT (l : List Nat) : AV := .lit (.string (sb l))
abbrev eB1 : AV := .lit (.bool true)
abbrev eB0 : AV := .lit (.bool false)
def mmGramErrors : Memo := [(12, [.any .i64, .lit (.int .i64 (Int.ofNat 4))], upto 4)]
theorem mmGramErrors_ok : ∀ x ∈ mmGramErrors, Contract Tryd.prog x := memo_cons (within_c 4 (by omega)) (memo_nil _)
theorem folGramErrors : Tryd.prog.follows .mixedOrders = true := by kernel_rfl
def hmGramErrors0 : List HE := []
theorem hmGramErrors0_ok : ∀ x ∈ hmGramErrors0, HOk Tryd.prog x := hmemo_nil _
def hGramErrors0 : HE := ⟨44, [(eS []),(eI 1)], [], [((.val (.tup [(.lit (.slice none 0 0)),(eI 0)])), [])]⟩
theorem hGramErrors0_ok : HOk Tryd.prog hGramErrors0 := hok_eq mmGramErrors_ok hmGramErrors0_ok folGramErrors (lf := 100000) (k := 1000) (by kernel_rfl)
def hmGramErrors1 : List HE := hGramErrors0 :: hmGramErrors0
theorem hmGramErrors1_ok : ∀ x ∈ hmGramErrors1, HOk Tryd.prog x := hmemo_cons hGramErrors0_ok hmGramErrors0_ok
def hGramErrors1 : HE := ⟨44, [(eS []),(eI 2)], [], [((.val (.tup [(.lit (.slice none 0 0)),(eI 0)])), [])]⟩
theorem hGramErrors1_ok : HOk Tryd.prog hGramErrors1 := hok_eq mmGramErrors_ok hmGramErrors1_ok folGramErrors (lf := 100000) (k := 1000) (by kernel_rfl)
def hmGramErrors2 : List HE := hGramErrors1 :: hmGramErrors1
theorem hmGramErrors2_ok : ∀ x ∈ hmGramErrors2, HOk Tryd.prog x := hmemo_cons hGramErrors1_ok hmGramErrors1_ok
def hGramErrors2 : HE := ⟨44, [(eS []),(eI 3)], [], [((.val (.tup [(.lit (.slice none 0 0)),(eI 0)])), [])]⟩
theorem hGramErrors2_ok : HOk Tryd.prog hGramErrors2 := hok_eq mmGramErrors_ok hmGramErrors2_ok folGramErrors (lf := 100000) (k := 1000) (by kernel_rfl)
def hmGramErrors3 : List HE := hGramErrors2 :: hmGramErrors2
theorem hmGramErrors3_ok : ∀ x ∈ hmGramErrors3, HOk Tryd.prog x := hmemo_cons hGramErrors2_ok hmGramErrors2_ok
def tgramErrors1 : List Nat := [65,66,67,68,69,70,71,72,73,74,75,76,77,78,79,80,81,82,83,84,85,86,87,88,89,90,97,98,99,100,101,102,103,104,105,106,107,108,109,110,111,112,113,114,115,116,117,118,119,120,121,122,48,49,50,51,52,53,54,55,56,57]
def hGramErrors3 : HE := ⟨81, [(eT tgramErrors1)], [], [((.val (.tup [(.agg [eB0,eB0,eB0,eB0,eB0,eB0,eB0,eB0,eB0,eB0,eB0,eB0,eB0,eB0,eB0,eB0,eB0,eB0,eB0,eB0,eB0,eB0,eB0,eB0,eB0,eB0,eB0,eB0,eB0,eB0,eB0,eB0,eB0,eB0,eB0,eB0,eB0,eB0,eB0,eB0,eB0,eB0,eB0,eB0,eB0,eB0,eB0,eB0,eB1,eB1,eB1,eB1,eB1,eB1,eB1,eB1,eB1,eB1,eB0,eB0,eB0,eB0,eB0,eB0,eB0,eB1,eB1,eB1,eB1,eB1,eB1,eB1,eB1,eB1,eB1,eB1,eB1,eB1,eB1,eB1,eB1,eB1,eB1,eB1,eB1,eB1,eB1,eB1,eB1,eB1,eB1,eB0,eB0,eB0,eB0,eB0,eB0,eB1,eB1,eB1,eB1,eB1,eB1,eB1,eB1,eB1,eB1,eB1,eB1,eB1,eB1,eB1,eB1,eB1,eB1,eB1,eB1,eB1,eB1,eB1,eB1,eB1,eB1,eB0,eB0,eB0,eB0,eB0,eB0,eB0,eB0,eB0,eB0,eB0,eB0,eB0,eB0,eB0,eB0,eB0,eB0,eB0,eB0,eB0,eB0,eB0,eB0,eB0,eB0,eB0,eB0,eB0,eB0,eB0,eB0,eB0,eB0,eB0,eB0,eB0,eB0,eB0,eB0,eB0,eB0,eB0,eB0,eB0,eB0,eB0,eB0,eB0,eB0,eB0,eB0,eB0,eB0,eB0,eB0,eB0,eB0,eB0,eB0,eB0,eB0,eB0,eB0,eB0,eB0,eB0,eB0,eB0,eB0,eB0,eB0,eB0,eB0,eB0,eB0,eB0,eB0,eB0,eB0,eB0,eB0,eB0,eB0,eB0,eB0,eB0,eB0,eB0,eB0,eB0,eB0,eB0,eB0,eB0,eB0,eB0,eB0,eB0,eB0,eB0,eB0,eB0,eB0,eB0,eB0,eB0,eB0,eB0,eB0,eB0,eB0,eB0,eB0,eB0,eB0,eB0,eB0,eB0,eB0,eB0,eB0,eB0,eB0,eB0,eB0,eB0,eB0,eB0,eB0,eB0,eB0,eB0]),eB1])), [])]⟩
theorem hGramErrors3_ok : HOk Tryd.prog hGramErrors3 := hok_eq mmGramErrors_ok hmGramErrors3_ok folGramErrors (lf := 100000) (k := 1000) (by kernel_rfl)
def hmGramErrors4 : List HE := hGramErrors3 :: hmGramErrors3
theorem hmGramErrors4_ok : ∀ x ∈ hmGramErrors4, HOk Tryd.prog x := hmemo_cons hGramErrors3_ok hmGramErrors3_ok
def hGramErrors4 : HE := ⟨77, [(eS [83,58,32,97,32,59])], [], [((.val (eI 1)), [])]⟩
theorem hGramErrors4_ok : HOk Tryd.prog hGramErrors4 := hok_eq mmGramErrors_ok hmGramErrors4_ok folGramErrors (lf := 100000) (k := 1000) (by kernel_rfl)
def hmGramErrors5 : List HE := hGramErrors4 :: hmGramErrors4
theorem hmGramErrors5_ok : ∀ x ∈ hmGramErrors5, HOk Tryd.prog x := hmemo_cons hGramErrors4_ok hmGramErrors4_ok
def hGramErrors5 : HE := ⟨53, [(eS [83])], [], [((.val eB1), [])]⟩
theorem hGramErrors5_ok : HOk Tryd.prog hGramErrors5 := hok_eq mmGramErrors_ok hmGramErrors5_ok folGramErrors (lf := 100000) (k := 1000) (by kernel_rfl)
def hmGramErrors6 : List HE := hGramErrors5 :: hmGramErrors5
theorem hmGramErrors6_ok : ∀ x ∈ hmGramErrors6, HOk Tryd.prog x := hmemo_cons hGramErrors5_ok hmGramErrors5_ok
def hGramErrors6 : HE := ⟨64, [(eS [83,58,32,97,32,59])], [], [((.val (.tup [(.agg [(eI 1),(eS [83]),(eI 0),(eI 0)]),(eI 1),eB1])), [])]⟩
theorem hGramErrors6_ok : HOk Tryd.prog hGramErrors6 := hok_eq mmGramErrors_ok hmGramErrors6_ok folGramErrors (lf := 100000) (k := 1000) (by kernel_rfl)
def hmGramErrors7 : List HE := hGramErrors6 :: hmGramErrors6
theorem hmGramErrors7_ok : ∀ x ∈ hmGramErrors7, HOk Tryd.prog x := hmemo_cons hGramErrors6_ok hmGramErrors6_ok
def hGramErrors7 : HE := ⟨64, [(eS [58,32,97,32,59])], [], [((.val (.tup [(.agg [(eI 3),(eS [58]),(eI 0),(eI 0)]),(eI 1),eB1])), [])]⟩
theorem hGramErrors7_ok : HOk Tryd.prog hGramErrors7 := hok_eq mmGramErrors_ok hmGramErrors7_ok folGramErrors (lf := 100000) (k := 1000) (by kernel_rfl)
def hmGramErrors8 : List HE := hGramErrors7 :: hmGramErrors7
theorem hmGramErrors8_ok : ∀ x ∈ hmGramErrors8, HOk Tryd.prog x := hmemo_cons hGramErrors7_ok hmGramErrors7_ok
def hGramErrors8 : HE := ⟨77, [(eS [97,32,59])], [], [((.val (eI 1)), [])]⟩
theorem hGramErrors8_ok : HOk Tryd.prog hGramErrors8 := hok_eq mmGramErrors_ok hmGramErrors8_ok folGramErrors (lf := 100000) (k := 1000) (by kernel_rfl)
def hmGramErrors9 : List HE := hGramErrors8 :: hmGramErrors8
theorem hmGramErrors9_ok : ∀ x ∈ hmGramErrors9, HOk Tryd.prog x := hmemo_cons hGramErrors8_ok hmGramErrors8_ok
def hGramErrors9 : HE := ⟨53, [(eS [97])], [], [((.val eB1), [])]⟩
theorem hGramErrors9_ok : HOk Tryd.prog hGramErrors9 := hok_eq mmGramErrors_ok hmGramErrors9_ok folGramErrors (lf := 100000) (k := 1000) (by kernel_rfl)
def hmGramErrors10 : List HE := hGramErrors9 :: hmGramErrors9
theorem hmGramErrors10_ok : ∀ x ∈ hmGramErrors10, HOk Tryd.prog x := hmemo_cons hGramErrors9_ok hmGramErrors9_ok
def hGramErrors10 : HE := ⟨64, [(eS [97,32,59])], [], [((.val (.tup [(.agg [(eI 2),(eS [97]),(eI 0),(eI 0)]),(eI 1),eB1])), [])]⟩
theorem hGramErrors10_ok : HOk Tryd.prog hGramErrors10 := hok_eq mmGramErrors_ok hmGramErrors10_ok folGramErrors (lf := 100000) (k := 1000) (by kernel_rfl)
def hmGramErrors11 : List HE := hGramErrors10 :: hmGramErrors10
theorem hmGramErrors11_ok : ∀ x ∈ hmGramErrors11, HOk Tryd.prog x := hmemo_cons hGramErrors10_ok hmGramErrors10_ok
def hGramErrors11 : HE := ⟨77, [(eS [59])], [], [((.val (eI 0)), [])]⟩
theorem hGramErrors11_ok : HOk Tryd.prog hGramErrors11 := hok_eq mmGramErrors_ok hmGramErrors11_ok folGramErrors (lf := 100000) (k := 1000) (by kernel_rfl)
def hmGramErrors12 : List HE := hGramErrors11 :: hmGramErrors11
theorem hmGramErrors12_ok : ∀ x ∈ hmGramErrors12, HOk Tryd.prog x := hmemo_cons hGramErrors11_ok hmGramErrors11_ok
def hGramErrors12 : HE := ⟨53, [(eS [])], [], [((.val eB0), [])]⟩
theorem hGramErrors12_ok : HOk Tryd.prog hGramErrors12 := hok_eq mmGramErrors_ok hmGramErrors12_ok folGramErrors (lf := 100000) (k := 1000) (by kernel_rfl)
def hmGramErrors13 : List HE := hGramErrors12 :: hmGramErrors12
theorem hmGramErrors13_ok : ∀ x ∈ hmGramErrors13, HOk Tryd.prog x := hmemo_cons hGramErrors12_ok hmGramErrors12_ok
def hGramErrors13 : HE := ⟨64, [(eS [59])], [], [((.val (.tup [(.agg [(eI 0),(eS []),(eI 0),(eI 0)]),(eI 0),eB0])), [])]⟩
theorem hGramErrors13_ok : HOk Tryd.prog hGramErrors13 := hok_eq mmGramErrors_ok hmGramErrors13_ok folGramErrors (lf := 100000) (k := 1000) (by kernel_rfl)
def hmGramErrors14 : List HE := hGramErrors13 :: hmGramErrors13
theorem hmGramErrors14_ok : ∀ x ∈ hmGramErrors14, HOk Tryd.prog x := hmemo_cons hGramErrors13_ok hmGramErrors13_ok
def hGramErrors14 : HE := ⟨44, [(eS [83,58,32,97,32,59]),(eI 4)], [], [((.val (.tup [(.lit (.slice none 0 0)),(eI 6)])), [])]⟩
theorem hGramErrors14_ok : HOk Tryd.prog hGramErrors14 := hok_eq mmGramErrors_ok hmGramErrors14_ok folGramErrors (lf := 100000) (k := 1000) (by kernel_rfl)
def hmGramErrors15 : List HE := hGramErrors14 :: hmGramErrors14
theorem hmGramErrors15_ok : ∀ x ∈ hmGramErrors15, HOk Tryd.prog x := hmemo_cons hGramErrors14_ok hmGramErrors14_ok
def hGramErrors15 : HE := ⟨19, [(eS [10,10,10,83,58,32,97,32,59])], [], [((.val (.tup [(.lit (.slice none 0 0)),(eI 4),(eI 6),(eI 2)])), [])]⟩
theorem hGramErrors15_ok : HOk Tryd.prog hGramErrors15 := hok_eq mmGramErrors_ok hmGramErrors15_ok folGramErrors (lf := 100000) (k := 1000) (by kernel_rfl)
def hmGramErrors16 : List HE := hGramErrors15 :: hmGramErrors15
theorem hmGramErrors16_ok : ∀ x ∈ hmGramErrors16, HOk Tryd.prog x := hmemo_cons hGramErrors15_ok hmGramErrors15_ok
def hGramErrors16 : HE := ⟨8, [(eS [10,10,10,83,58,32,97,32,59])], [], [((.val (.tup [(.agg [(.lit (.slice none 0 0)),(.lit (.slice none 0 0)),(.lit (.slice none 0 0))]),(eI 4),(eI 6),(eI 2)])), [])]⟩
theorem hGramErrors16_ok : HOk Tryd.prog hGramErrors16 := hok_eq mmGramErrors_ok hmGramErrors16_ok folGramErrors (lf := 100000) (k := 1000) (by kernel_rfl)
def hmGramErrors17 : List HE := hGramErrors16 :: hmGramErrors16
theorem hmGramErrors17_ok : ∀ x ∈ hmGramErrors17, HOk Tryd.prog x := hmemo_cons hGramErrors16_ok hmGramErrors16_ok
def hGramErrors17 : HE := ⟨13, [(.agg [(.lit (.slice none 0 0)),(.lit (.slice none 0 0)),(.lit (.slice none 0 0))]),(.agg [(.lit (.slice none 0 0)),(.lit (.slice none 0 0)),(.lit (.slice none 0 0))])], [], [((.val eB1), [])]⟩
theorem hGramErrors17_ok : HOk Tryd.prog hGramErrors17 := hok_eq mmGramErrors_ok hmGramErrors17_ok folGramErrors (lf := 100000) (k := 1000) (by kernel_rfl)
def hmGramErrors18 : List HE := hGramErrors17 :: hmGramErrors17
theorem hmGramErrors18_ok : ∀ x ∈ hmGramErrors18, HOk Tryd.prog x := hmemo_cons hGramErrors17_ok hmGramErrors17_ok
def hGramErrors18 : HE := ⟨77, [(eS [97,58,32,98])], [], [((.val (eI 1)), [])]⟩
theorem hGramErrors18_ok : HOk Tryd.prog hGramErrors18 := hok_eq mmGramErrors_ok hmGramErrors18_ok folGramErrors (lf := 100000) (k := 1000) (by kernel_rfl)
def hmGramErrors19 : List HE := hGramErrors18 :: hmGramErrors18
theorem hmGramErrors19_ok : ∀ x ∈ hmGramErrors19, HOk Tryd.prog x := hmemo_cons hGramErrors18_ok hmGramErrors18_ok
def hGramErrors19 : HE := ⟨64, [(eS [97,58,32,98])], [], [((.val (.tup [(.agg [(eI 2),(eS [97]),(eI 0),(eI 0)]),(eI 1),eB1])), [])]⟩
theorem hGramErrors19_ok : HOk Tryd.prog hGramErrors19 := hok_eq mmGramErrors_ok hmGramErrors19_ok folGramErrors (lf := 100000) (k := 1000) (by kernel_rfl)
def hmGramErrors20 : List HE := hGramErrors19 :: hmGramErrors19
theorem hmGramErrors20_ok : ∀ x ∈ hmGramErrors20, HOk Tryd.prog x := hmemo_cons hGramErrors19_ok hmGramErrors19_ok
def hGramErrors20 : HE := ⟨64, [(eS [58,32,98])], [], [((.val (.tup [(.agg [(eI 3),(eS [58]),(eI 0),(eI 0)]),(eI 1),eB1])), [])]⟩
theorem hGramErrors20_ok : HOk Tryd.prog hGramErrors20 := hok_eq mmGramErrors_ok hmGramErrors20_ok folGramErrors (lf := 100000) (k := 1000) (by kernel_rfl)
def hmGramErrors21 : List HE := hGramErrors20 :: hmGramErrors20
theorem hmGramErrors21_ok : ∀ x ∈ hmGramErrors21, HOk Tryd.prog x := hmemo_cons hGramErrors20_ok hmGramErrors20_ok
def hGramErrors21 : HE := ⟨77, [(eS [98])], [], [((.val (eI 1)), [])]⟩
theorem hGramErrors21_ok : HOk Tryd.prog hGramErrors21 := hok_eq mmGramErrors_ok hmGramErrors21_ok folGramErrors (lf := 100000) (k := 1000) (by kernel_rfl)
def hmGramErrors22 : List HE := hGramErrors21 :: hmGramErrors21
theorem hmGramErrors22_ok : ∀ x ∈ hmGramErrors22, HOk Tryd.prog x := hmemo_cons hGramErrors21_ok hmGramErrors21_ok
def hGramErrors22 : HE := ⟨53, [(eS [98])], [], [((.val eB1), [])]⟩
theorem hGramErrors22_ok : HOk Tryd.prog hGramErrors22 := hok_eq mmGramErrors_ok hmGramErrors22_ok folGramErrors (lf := 100000) (k := 1000) (by kernel_rfl)
def hmGramErrors23 : List HE := hGramErrors22 :: hmGramErrors22
theorem hmGramErrors23_ok : ∀ x ∈ hmGramErrors23, HOk Tryd.prog x := hmemo_cons hGramErrors22_ok hmGramErrors22_ok
def hGramErrors23 : HE := ⟨64, [(eS [98])], [], [((.val (.tup [(.agg [(eI 2),(eS [98]),(eI 0),(eI 0)]),(eI 1),eB1])), [])]⟩
theorem hGramErrors23_ok : HOk Tryd.prog hGramErrors23 := hok_eq mmGramErrors_ok hmGramErrors23_ok folGramErrors (lf := 100000) (k := 1000) (by kernel_rfl)
def hmGramErrors24 : List HE := hGramErrors23 :: hmGramErrors23
theorem hmGramErrors24_ok : ∀ x ∈ hmGramErrors24, HOk Tryd.prog x := hmemo_cons hGramErrors23_ok hmGramErrors23_ok
def bgramErrors1 : Blk := ⟨[(eI 2),(eS [97]),(eI 4),(eI 1),(eI 3),(eS [58]),(eI 4),(eI 2),(eI 2),(eS [98]),(eI 4),(eI 4)],81,[(2,12),(1,8),(0,4)],3,0,false,2,none⟩
def hGramErrors24 : HE := ⟨44, [(eS [97,58,32,98]),(eI 4)], [], [((.val (.tup [(.sl 0 2 0 3 none 4),(eI 0)])), [bgramErrors1])]⟩
theorem hGramErrors24_ok : HOk Tryd.prog hGramErrors24 := hok_eq mmGramErrors_ok hmGramErrors24_ok folGramErrors (lf := 100000) (k := 1000) (by kernel_rfl)
def hmGramErrors25 : List HE := hGramErrors24 :: hmGramErrors24
theorem hmGramErrors25_ok : ∀ x ∈ hmGramErrors25, HOk Tryd.prog x := hmemo_cons hGramErrors24_ok hmGramErrors24_ok
def bgramErrors2 : Blk := ⟨[(eI 5),(eS []),(eI 1),(eI 1),(eI 5),(eS []),(eI 2),(eI 1),(eI 5),(eS []),(eI 3),(eI 1),(eI 2),(eS [97]),(eI 4),(eI 1),(eI 3),(eS [58]),(eI 4),(eI 2),(eI 2),(eS [98]),(eI 4),(eI 4),(eI 5),(eS []),(eI 4),(eI 5)],81,[(4,28),(3,24),(2,12),(1,8),(0,4)],5,0,false,4,none⟩
def hGramErrors25 : HE := ⟨19, [(eS [10,10,10,97,58,32,98,10])], [], [((.val (.tup [(.sl 0 4 0 7 none 4),(eI 0),(eI 0),(eI 0)])), [bgramErrors2])]⟩
theorem hGramErrors25_ok : HOk Tryd.prog hGramErrors25 := hok_eq mmGramErrors_ok hmGramErrors25_ok folGramErrors (lf := 100000) (k := 1000) (by kernel_rfl)
def hmGramErrors26 : List HE := hGramErrors25 :: hmGramErrors25
theorem hmGramErrors26_ok : ∀ x ∈ hmGramErrors26, HOk Tryd.prog x := hmemo_cons hGramErrors25_ok hmGramErrors25_ok
def hGramErrors26 : HE := ⟨48, [(.sl 0 4 12 4 none 4)], [bgramErrors2], [((.panic (.iface 51 (.agg [(eI 4),(eI 1),(eI 2)]))), [])]⟩
theorem hGramErrors26_ok : HOk Tryd.prog hGramErrors26 := hok_eq mmGramErrors_ok hmGramErrors26_ok folGramErrors (lf := 100000) (k := 1000) (by kernel_rfl)
def hmGramErrors27 : List HE := hGramErrors26 :: hmGramErrors26
theorem hmGramErrors27_ok : ∀ x ∈ hmGramErrors27, HOk Tryd.prog x := hmemo_cons hGramErrors26_ok hmGramErrors26_ok
def hGramErrors27 : HE := ⟨22, [(.sl 0 4 0 7 none 4)], [bgramErrors2], [((.panic (.iface 51 (.agg [(eI 4),(eI 1),(eI 2)]))), [])]⟩
theorem hGramErrors27_ok : HOk Tryd.prog hGramErrors27 := hok_eq mmGramErrors_ok hmGramErrors27_ok folGramErrors (lf := 100000) (k := 1000) (by kernel_rfl)
def hmGramErrors28 : List HE := hGramErrors27 :: hmGramErrors27
theorem hmGramErrors28_ok : ∀ x ∈ hmGramErrors28, HOk Tryd.prog x := hmemo_cons hGramErrors27_ok hmGramErrors27_ok
def hGramErrors28 : HE := ⟨8, [(eS [10,10,10,97,58,32,98,10])], [], [((.val (.tup [(.agg [(.lit (.slice none 0 0)),(.lit (.slice none 0 0)),(.lit (.slice none 0 0))]),(eI 4),(eI 1),(eI 2)])), [])]⟩
theorem hGramErrors28_ok : HOk Tryd.prog hGramErrors28 := hok_eq mmGramErrors_ok hmGramErrors28_ok folGramErrors (lf := 100000) (k := 1000) (by kernel_rfl)
def hmGramErrors29 : List HE := hGramErrors28 :: hmGramErrors28
theorem hmGramErrors29_ok : ∀ x ∈ hmGramErrors29, HOk Tryd.prog x := hmemo_cons hGramErrors28_ok hmGramErrors28_ok
def hGramErrors29 : HE := ⟨77, [(eS [83,32,97])], [], [((.val (eI 1)), [])]⟩
theorem hGramErrors29_ok : HOk Tryd.prog hGramErrors29 := hok_eq mmGramErrors_ok hmGramErrors29_ok folGramErrors (lf := 100000) (k := 1000) (by kernel_rfl)
def hmGramErrors30 : List HE := hGramErrors29 :: hmGramErrors29
theorem hmGramErrors30_ok : ∀ x ∈ hmGramErrors30, HOk Tryd.prog x := hmemo_cons hGramErrors29_ok hmGramErrors29_ok
def hGramErrors30 : HE := ⟨64, [(eS [83,32,97])], [], [((.val (.tup [(.agg [(eI 1),(eS [83]),(eI 0),(eI 0)]),(eI 1),eB1])), [])]⟩
theorem hGramErrors30_ok : HOk Tryd.prog hGramErrors30 := hok_eq mmGramErrors_ok hmGramErrors30_ok folGramErrors (lf := 100000) (k := 1000) (by kernel_rfl)
def hmGramErrors31 : List HE := hGramErrors30 :: hmGramErrors30
theorem hmGramErrors31_ok : ∀ x ∈ hmGramErrors31, HOk Tryd.prog x := hmemo_cons hGramErrors30_ok hmGramErrors30_ok
def hGramErrors31 : HE := ⟨77, [(eS [97])], [], [((.val (eI 1)), [])]⟩
theorem hGramErrors31_ok : HOk Tryd.prog hGramErrors31 := hok_eq mmGramErrors_ok hmGramErrors31_ok folGramErrors (lf := 100000) (k := 1000) (by kernel_rfl)
def hmGramErrors32 : List HE := hGramErrors31 :: hmGramErrors31
theorem hmGramErrors32_ok : ∀ x ∈ hmGramErrors32, HOk Tryd.prog x := hmemo_cons hGramErrors31_ok hmGramErrors31_ok
def hGramErrors32 : HE := ⟨64, [(eS [97])], [], [((.val (.tup [(.agg [(eI 2),(eS [97]),(eI 0),(eI 0)]),(eI 1),eB1])), [])]⟩
theorem hGramErrors32_ok : HOk Tryd.prog hGramErrors32 := hok_eq mmGramErrors_ok hmGramErrors32_ok folGramErrors (lf := 100000) (k := 1000) (by kernel_rfl)
def hmGramErrors33 : List HE := hGramErrors32 :: hmGramErrors32
theorem hmGramErrors33_ok : ∀ x ∈ hmGramErrors33, HOk Tryd.prog x := hmemo_cons hGramErrors32_ok hmGramErrors32_ok
def bgramErrors3 : Blk := ⟨[(eI 1),(eS [83]),(eI 4),(eI 1),(eI 2),(eS [97]),(eI 4),(eI 3)],81,[(1,8),(0,4)],2,0,false,1,none⟩
def hGramErrors33 : HE := ⟨44, [(eS [83,32,97]),(eI 4)], [], [((.val (.tup [(.sl 0 1 0 2 none 4),(eI 0)])), [bgramErrors3])]⟩
theorem hGramErrors33_ok : HOk Tryd.prog hGramErrors33 := hok_eq mmGramErrors_ok hmGramErrors33_ok folGramErrors (lf := 100000) (k := 1000) (by kernel_rfl)
def hmGramErrors34 : List HE := hGramErrors33 :: hmGramErrors33
theorem hmGramErrors34_ok : ∀ x ∈ hmGramErrors34, HOk Tryd.prog x := hmemo_cons hGramErrors33_ok hmGramErrors33_ok
def bgramErrors4 : Blk := ⟨[(eI 5),(eS []),(eI 1),(eI 1),(eI 5),(eS []),(eI 2),(eI 1),(eI 5),(eS []),(eI 3),(eI 1),(eI 1),(eS [83]),(eI 4),(eI 1),(eI 2),(eS [97]),(eI 4),(eI 3),(eI 5),(eS []),(eI 4),(eI 4)],81,[(4,24),(3,20),(2,12),(1,8),(0,4)],5,0,false,4,none⟩
def hGramErrors34 : HE := ⟨19, [(eS [10,10,10,83,32,97,10])], [], [((.val (.tup [(.sl 0 4 0 6 none 4),(eI 0),(eI 0),(eI 0)])), [bgramErrors4])]⟩
theorem hGramErrors34_ok : HOk Tryd.prog hGramErrors34 := hok_eq mmGramErrors_ok hmGramErrors34_ok folGramErrors (lf := 100000) (k := 1000) (by kernel_rfl)
def hmGramErrors35 : List HE := hGramErrors34 :: hmGramErrors34
theorem hmGramErrors35_ok : ∀ x ∈ hmGramErrors35, HOk Tryd.prog x := hmemo_cons hGramErrors34_ok hmGramErrors34_ok
def hGramErrors35 : HE := ⟨48, [(.sl 0 4 12 3 none 4)], [bgramErrors4], [((.panic (.iface 51 (.agg [(eI 4),(eI 3),(eI 2)]))), [])]⟩
theorem hGramErrors35_ok : HOk Tryd.prog hGramErrors35 := hok_eq mmGramErrors_ok hmGramErrors35_ok folGramErrors (lf := 100000) (k := 1000) (by kernel_rfl)
def hmGramErrors36 : List HE := hGramErrors35 :: hmGramErrors35
theorem hmGramErrors36_ok : ∀ x ∈ hmGramErrors36, HOk Tryd.prog x := hmemo_cons hGramErrors35_ok hmGramErrors35_ok
def hGramErrors36 : HE := ⟨22, [(.sl 0 4 0 6 none 4)], [bgramErrors4], [((.panic (.iface 51 (.agg [(eI 4),(eI 3),(eI 2)]))), [])]⟩
theorem hGramErrors36_ok : HOk Tryd.prog hGramErrors36 := hok_eq mmGramErrors_ok hmGramErrors36_ok folGramErrors (lf := 100000) (k := 1000) (by kernel_rfl)
def hmGramErrors37 : List HE := hGramErrors36 :: hmGramErrors36
theorem hmGramErrors37_ok : ∀ x ∈ hmGramErrors37, HOk Tryd.prog x := hmemo_cons hGramErrors36_ok hmGramErrors36_ok
def hGramErrors37 : HE := ⟨8, [(eS [10,10,10,83,32,97,10])], [], [((.val (.tup [(.agg [(.lit (.slice none 0 0)),(.lit (.slice none 0 0)),(.lit (.slice none 0 0))]),(eI 4),(eI 3),(eI 2)])), [])]⟩
theorem hGramErrors37_ok : HOk Tryd.prog hGramErrors37 := hok_eq mmGramErrors_ok hmGramErrors37_ok folGramErrors (lf := 100000) (k := 1000) (by kernel_rfl)
def hmGramErrors38 : List HE := hGramErrors37 :: hmGramErrors37
theorem hmGramErrors38_ok : ∀ x ∈ hmGramErrors38, HOk Tryd.prog x := hmemo_cons hGramErrors37_ok hmGramErrors37_ok
def hGramErrors38 : HE := ⟨77, [(eS [83,58,32,97,32,58,32,98])], [], [((.val (eI 1)), [])]⟩
theorem hGramErrors38_ok : HOk Tryd.prog hGramErrors38 := hok_eq mmGramErrors_ok hmGramErrors38_ok folGramErrors (lf := 100000) (k := 1000) (by kernel_rfl)
def hmGramErrors39 : List HE := hGramErrors38 :: hmGramErrors38
theorem hmGramErrors39_ok : ∀ x ∈ hmGramErrors39, HOk Tryd.prog x := hmemo_cons hGramErrors38_ok hmGramErrors38_ok
def hGramErrors39 : HE := ⟨64, [(eS [83,58,32,97,32,58,32,98])], [], [((.val (.tup [(.agg [(eI 1),(eS [83]),(eI 0),(eI 0)]),(eI 1),eB1])), [])]⟩
theorem hGramErrors39_ok : HOk Tryd.prog hGramErrors39 := hok_eq mmGramErrors_ok hmGramErrors39_ok folGramErrors (lf := 100000) (k := 1000) (by kernel_rfl)
def hmGramErrors40 : List HE := hGramErrors39 :: hmGramErrors39
theorem hmGramErrors40_ok : ∀ x ∈ hmGramErrors40, HOk Tryd.prog x := hmemo_cons hGramErrors39_ok hmGramErrors39_ok
def hGramErrors40 : HE := ⟨64, [(eS [58,32,97,32,58,32,98])], [], [((.val (.tup [(.agg [(eI 3),(eS [58]),(eI 0),(eI 0)]),(eI 1),eB1])), [])]⟩
theorem hGramErrors40_ok : HOk Tryd.prog hGramErrors40 := hok_eq mmGramErrors_ok hmGramErrors40_ok folGramErrors (lf := 100000) (k := 1000) (by kernel_rfl)
def hmGramErrors41 : List HE := hGramErrors40 :: hmGramErrors40
theorem hmGramErrors41_ok : ∀ x ∈ hmGramErrors41, HOk Tryd.prog x := hmemo_cons hGramErrors40_ok hmGramErrors40_ok
def hGramErrors41 : HE := ⟨77, [(eS [97,32,58,32,98])], [], [((.val (eI 1)), [])]⟩
theorem hGramErrors41_ok : HOk Tryd.prog hGramErrors41 := hok_eq mmGramErrors_ok hmGramErrors41_ok folGramErrors (lf := 100000) (k := 1000) (by kernel_rfl)
def hmGramErrors42 : List HE := hGramErrors41 :: hmGramErrors41
theorem hmGramErrors42_ok : ∀ x ∈ hmGramErrors42, HOk Tryd.prog x := hmemo_cons hGramErrors41_ok hmGramErrors41_ok
def hGramErrors42 : HE := ⟨64, [(eS [97,32,58,32,98])], [], [((.val (.tup [(.agg [(eI 2),(eS [97]),(eI 0),(eI 0)]),(eI 1),eB1])), [])]⟩
theorem hGramErrors42_ok : HOk Tryd.prog hGramErrors42 := hok_eq mmGramErrors_ok hmGramErrors42_ok folGramErrors (lf := 100000) (k := 1000) (by kernel_rfl)
def hmGramErrors43 : List HE := hGramErrors42 :: hmGramErrors42
theorem hmGramErrors43_ok : ∀ x ∈ hmGramErrors43, HOk Tryd.prog x := hmemo_cons hGramErrors42_ok hmGramErrors42_ok
def bgramErrors5 : Blk := ⟨[(eI 1),(eS [83]),(eI 4),(eI 1),(eI 3),(eS [58]),(eI 4),(eI 2),(eI 2),(eS [97]),(eI 4),(eI 4),(eI 3),(eS [58]),(eI 4),(eI 6),(eI 2),(eS [98]),(eI 4),(eI 8)],81,[(4,20),(3,16),(2,12),(1,8),(0,4)],5,0,false,4,none⟩
def hGramErrors43 : HE := ⟨44, [(eS [83,58,32,97,32,58,32,98]),(eI 4)], [], [((.val (.tup [(.sl 0 4 0 5 none 4),(eI 0)])), [bgramErrors5])]⟩
theorem hGramErrors43_ok : HOk Tryd.prog hGramErrors43 := hok_eq mmGramErrors_ok hmGramErrors43_ok folGramErrors (lf := 100000) (k := 1000) (by kernel_rfl)
def hmGramErrors44 : List HE := hGramErrors43 :: hmGramErrors43
theorem hmGramErrors44_ok : ∀ x ∈ hmGramErrors44, HOk Tryd.prog x := hmemo_cons hGramErrors43_ok hmGramErrors43_ok
def bgramErrors6 : Blk := ⟨[(eI 5),(eS []),(eI 1),(eI 1),(eI 5),(eS []),(eI 2),(eI 1),(eI 5),(eS []),(eI 3),(eI 1),(eI 1),(eS [83]),(eI 4),(eI 1),(eI 3),(eS [58]),(eI 4),(eI 2),(eI 2),(eS [97]),(eI 4),(eI 4),(eI 3),(eS [58]),(eI 4),(eI 6),(eI 2),(eS [98]),(eI 4),(eI 8),(eI 5),(eS []),(eI 4),(eI 9)],81,[(4,36),(3,32),(2,12),(1,8),(0,4)],5,0,false,4,none⟩
def hGramErrors44 : HE := ⟨19, [(eS [10,10,10,83,58,32,97,32,58,32,98,10])], [], [((.val (.tup [(.sl 0 4 0 9 none 4),(eI 0),(eI 0),(eI 0)])), [bgramErrors6])]⟩
theorem hGramErrors44_ok : HOk Tryd.prog hGramErrors44 := hok_eq mmGramErrors_ok hmGramErrors44_ok folGramErrors (lf := 100000) (k := 1000) (by kernel_rfl)
def hmGramErrors45 : List HE := hGramErrors44 :: hmGramErrors44
theorem hmGramErrors45_ok : ∀ x ∈ hmGramErrors45, HOk Tryd.prog x := hmemo_cons hGramErrors44_ok hmGramErrors44_ok
def hGramErrors45 : HE := ⟨48, [(.sl 0 4 12 6 none 4)], [bgramErrors6], [((.panic (.iface 51 (.agg [(eI 4),(eI 6),(eI 2)]))), [])]⟩
theorem hGramErrors45_ok : HOk Tryd.prog hGramErrors45 := hok_eq mmGramErrors_ok hmGramErrors45_ok folGramErrors (lf := 100000) (k := 1000) (by kernel_rfl)
def hmGramErrors46 : List HE := hGramErrors45 :: hmGramErrors45
theorem hmGramErrors46_ok : ∀ x ∈ hmGramErrors46, HOk Tryd.prog x := hmemo_cons hGramErrors45_ok hmGramErrors45_ok
def hGramErrors46 : HE := ⟨22, [(.sl 0 4 0 9 none 4)], [bgramErrors6], [((.panic (.iface 51 (.agg [(eI 4),(eI 6),(eI 2)]))), [])]⟩
theorem hGramErrors46_ok : HOk Tryd.prog hGramErrors46 := hok_eq mmGramErrors_ok hmGramErrors46_ok folGramErrors (lf := 100000) (k := 1000) (by kernel_rfl)
def hmGramErrors47 : List HE := hGramErrors46 :: hmGramErrors46
theorem hmGramErrors47_ok : ∀ x ∈ hmGramErrors47, HOk Tryd.prog x := hmemo_cons hGramErrors46_ok hmGramErrors46_ok
def hGramErrors47 : HE := ⟨8, [(eS [10,10,10,83,58,32,97,32,58,32,98,10])], [], [((.val (.tup [(.agg [(.lit (.slice none 0 0)),(.lit (.slice none 0 0)),(.lit (.slice none 0 0))]),(eI 4),(eI 6),(eI 2)])), [])]⟩
theorem hGramErrors47_ok : HOk Tryd.prog hGramErrors47 := hok_eq mmGramErrors_ok hmGramErrors47_ok folGramErrors (lf := 100000) (k := 1000) (by kernel_rfl)
def hmGramErrors48 : List HE := hGramErrors47 :: hmGramErrors47
theorem hmGramErrors48_ok : ∀ x ∈ hmGramErrors48, HOk Tryd.prog x := hmemo_cons hGramErrors47_ok hmGramErrors47_ok
def hGramErrors48 : HE := ⟨77, [(eS [83])], [], [((.val (eI 1)), [])]⟩
theorem hGramErrors48_ok : HOk Tryd.prog hGramErrors48 := hok_eq mmGramErrors_ok hmGramErrors48_ok folGramErrors (lf := 100000) (k := 1000) (by kernel_rfl)
def hmGramErrors49 : List HE := hGramErrors48 :: hmGramErrors48
theorem hmGramErrors49_ok : ∀ x ∈ hmGramErrors49, HOk Tryd.prog x := hmemo_cons hGramErrors48_ok hmGramErrors48_ok
def hGramErrors49 : HE := ⟨64, [(eS [83])], [], [((.val (.tup [(.agg [(eI 1),(eS [83]),(eI 0),(eI 0)]),(eI 1),eB1])), [])]⟩
theorem hGramErrors49_ok : HOk Tryd.prog hGramErrors49 := hok_eq mmGramErrors_ok hmGramErrors49_ok folGramErrors (lf := 100000) (k := 1000) (by kernel_rfl)
def hmGramErrors50 : List HE := hGramErrors49 :: hmGramErrors49
theorem hmGramErrors50_ok : ∀ x ∈ hmGramErrors50, HOk Tryd.prog x := hmemo_cons hGramErrors49_ok hmGramErrors49_ok
def bgramErrors7 : Blk := ⟨[(eI 1),(eS [83]),(eI 4),(eI 1)],81,[(0,4)],1,0,false,0,none⟩
def hGramErrors50 : HE := ⟨44, [(eS [83]),(eI 4)], [], [((.val (.tup [(.sl 0 0 0 1 none 4),(eI 0)])), [bgramErrors7])]⟩
theorem hGramErrors50_ok : HOk Tryd.prog hGramErrors50 := hok_eq mmGramErrors_ok hmGramErrors50_ok folGramErrors (lf := 100000) (k := 1000) (by kernel_rfl)
def hmGramErrors51 : List HE := hGramErrors50 :: hmGramErrors50
theorem hmGramErrors51_ok : ∀ x ∈ hmGramErrors51, HOk Tryd.prog x := hmemo_cons hGramErrors50_ok hmGramErrors50_ok
def bgramErrors8 : Blk := ⟨[(eI 5),(eS []),(eI 1),(eI 1),(eI 5),(eS []),(eI 2),(eI 1),(eI 5),(eS []),(eI 3),(eI 1),(eI 1),(eS [83]),(eI 4),(eI 1),(eI 5),(eS []),(eI 4),(eI 2)],81,[(4,20),(3,16),(2,12),(1,8),(0,4)],5,0,false,4,none⟩
def hGramErrors51 : HE := ⟨19, [(eS [10,10,10,83,10])], [], [((.val (.tup [(.sl 0 4 0 5 none 4),(eI 0),(eI 0),(eI 0)])), [bgramErrors8])]⟩
theorem hGramErrors51_ok : HOk Tryd.prog hGramErrors51 := hok_eq mmGramErrors_ok hmGramErrors51_ok folGramErrors (lf := 100000) (k := 1000) (by kernel_rfl)
def hmGramErrors52 : List HE := hGramErrors51 :: hmGramErrors51
theorem hmGramErrors52_ok : ∀ x ∈ hmGramErrors52, HOk Tryd.prog x := hmemo_cons hGramErrors51_ok hmGramErrors51_ok
def hGramErrors52 : HE := ⟨48, [(.sl 0 4 12 2 none 4)], [bgramErrors8], [((.panic (.iface 51 (.agg [(eI 4),(eI 2),(eI 2)]))), [])]⟩
theorem hGramErrors52_ok : HOk Tryd.prog hGramErrors52 := hok_eq mmGramErrors_ok hmGramErrors52_ok folGramErrors (lf := 100000) (k := 1000) (by kernel_rfl)
def hmGramErrors53 : List HE := hGramErrors52 :: hmGramErrors52
theorem hmGramErrors53_ok : ∀ x ∈ hmGramErrors53, HOk Tryd.prog x := hmemo_cons hGramErrors52_ok hmGramErrors52_ok
def hGramErrors53 : HE := ⟨22, [(.sl 0 4 0 5 none 4)], [bgramErrors8], [((.panic (.iface 51 (.agg [(eI 4),(eI 2),(eI 2)]))), [])]⟩
theorem hGramErrors53_ok : HOk Tryd.prog hGramErrors53 := hok_eq mmGramErrors_ok hmGramErrors53_ok folGramErrors (lf := 100000) (k := 1000) (by kernel_rfl)
def hmGramErrors54 : List HE := hGramErrors53 :: hmGramErrors53
theorem hmGramErrors54_ok : ∀ x ∈ hmGramErrors54, HOk Tryd.prog x := hmemo_cons hGramErrors53_ok hmGramErrors53_ok
def hGramErrors54 : HE := ⟨8, [(eS [10,10,10,83,10])], [], [((.val (.tup [(.agg [(.lit (.slice none 0 0)),(.lit (.slice none 0 0)),(.lit (.slice none 0 0))]),(eI 4),(eI 2),(eI 2)])), [])]⟩
theorem hGramErrors54_ok : HOk Tryd.prog hGramErrors54 := hok_eq mmGramErrors_ok hmGramErrors54_ok folGramErrors (lf := 100000) (k := 1000) (by kernel_rfl)
def hmGramErrors55 : List HE := hGramErrors54 :: hmGramErrors54
theorem hmGramErrors55_ok : ∀ x ∈ hmGramErrors55, HOk Tryd.prog x := hmemo_cons hGramErrors54_ok hmGramErrors54_ok
def hGramErrors55 : HE := ⟨64, [(eS [124,32,97])], [], [((.val (.tup [(.agg [(eI 4),(eS [124]),(eI 0),(eI 0)]),(eI 1),eB1])), [])]⟩
theorem hGramErrors55_ok : HOk Tryd.prog hGramErrors55 := hok_eq mmGramErrors_ok hmGramErrors55_ok folGramErrors (lf := 100000) (k := 1000) (by kernel_rfl)
def hmGramErrors56 : List HE := hGramErrors55 :: hmGramErrors55
theorem hmGramErrors56_ok : ∀ x ∈ hmGramErrors56, HOk Tryd.prog x := hmemo_cons hGramErrors55_ok hmGramErrors55_ok
def bgramErrors9 : Blk := ⟨[(eI 4),(eS [124]),(eI 4),(eI 1),(eI 2),(eS [97]),(eI 4),(eI 3)],81,[(1,8),(0,4)],2,0,false,1,none⟩
def hGramErrors56 : HE := ⟨44, [(eS [124,32,97]),(eI 4)], [], [((.val (.tup [(.sl 0 1 0 2 none 4),(eI 0)])), [bgramErrors9])]⟩
theorem hGramErrors56_ok : HOk Tryd.prog hGramErrors56 := hok_eq mmGramErrors_ok hmGramErrors56_ok folGramErrors (lf := 100000) (k := 1000) (by kernel_rfl)
def hmGramErrors57 : List HE := hGramErrors56 :: hmGramErrors56
theorem hmGramErrors57_ok : ∀ x ∈ hmGramErrors57, HOk Tryd.prog x := hmemo_cons hGramErrors56_ok hmGramErrors56_ok
def bgramErrors10 : Blk := ⟨[(eI 5),(eS []),(eI 1),(eI 1),(eI 5),(eS []),(eI 2),(eI 1),(eI 5),(eS []),(eI 3),(eI 1),(eI 4),(eS [124]),(eI 4),(eI 1),(eI 2),(eS [97]),(eI 4),(eI 3),(eI 5),(eS []),(eI 4),(eI 4)],81,[(4,24),(3,20),(2,12),(1,8),(0,4)],5,0,false,4,none⟩
def hGramErrors57 : HE := ⟨19, [(eS [10,10,10,124,32,97,10])], [], [((.val (.tup [(.sl 0 4 0 6 none 4),(eI 0),(eI 0),(eI 0)])), [bgramErrors10])]⟩
theorem hGramErrors57_ok : HOk Tryd.prog hGramErrors57 := hok_eq mmGramErrors_ok hmGramErrors57_ok folGramErrors (lf := 100000) (k := 1000) (by kernel_rfl)
def hmGramErrors58 : List HE := hGramErrors57 :: hmGramErrors57
theorem hmGramErrors58_ok : ∀ x ∈ hmGramErrors58, HOk Tryd.prog x := hmemo_cons hGramErrors57_ok hmGramErrors57_ok
def hGramErrors58 : HE := ⟨48, [(.sl 0 4 12 3 none 4)], [bgramErrors10], [((.panic (.iface 51 (.agg [(eI 4),(eI 1),(eI 2)]))), [])]⟩
theorem hGramErrors58_ok : HOk Tryd.prog hGramErrors58 := hok_eq mmGramErrors_ok hmGramErrors58_ok folGramErrors (lf := 100000) (k := 1000) (by kernel_rfl)
def hmGramErrors59 : List HE := hGramErrors58 :: hmGramErrors58
theorem hmGramErrors59_ok : ∀ x ∈ hmGramErrors59, HOk Tryd.prog x := hmemo_cons hGramErrors58_ok hmGramErrors58_ok
def hGramErrors59 : HE := ⟨22, [(.sl 0 4 0 6 none 4)], [bgramErrors10], [((.panic (.iface 51 (.agg [(eI 4),(eI 1),(eI 2)]))), [])]⟩
theorem hGramErrors59_ok : HOk Tryd.prog hGramErrors59 := hok_eq mmGramErrors_ok hmGramErrors59_ok folGramErrors (lf := 100000) (k := 1000) (by kernel_rfl)
def hmGramErrors60 : List HE := hGramErrors59 :: hmGramErrors59
theorem hmGramErrors60_ok : ∀ x ∈ hmGramErrors60, HOk Tryd.prog x := hmemo_cons hGramErrors59_ok hmGramErrors59_ok
def hGramErrors60 : HE := ⟨8, [(eS [10,10,10,124,32,97,10])], [], [((.val (.tup [(.agg [(.lit (.slice none 0 0)),(.lit (.slice none 0 0)),(.lit (.slice none 0 0))]),(eI 4),(eI 1),(eI 2)])), [])]⟩
theorem hGramErrors60_ok : HOk Tryd.prog hGramErrors60 := hok_eq mmGramErrors_ok hmGramErrors60_ok folGramErrors (lf := 100000) (k := 1000) (by kernel_rfl)
def hmGramErrors61 : List HE := hGramErrors60 :: hmGramErrors60
theorem hmGramErrors61_ok : ∀ x ∈ hmGramErrors61, HOk Tryd.prog x := hmemo_cons hGramErrors60_ok hmGramErrors60_ok
def hGramErrors61 : HE := ⟨77, [(eS [83,58,32,84])], [], [((.val (eI 1)), [])]⟩
theorem hGramErrors61_ok : HOk Tryd.prog hGramErrors61 := hok_eq mmGramErrors_ok hmGramErrors61_ok folGramErrors (lf := 100000) (k := 1000) (by kernel_rfl)
def hmGramErrors62 : List HE := hGramErrors61 :: hmGramErrors61
theorem hmGramErrors62_ok : ∀ x ∈ hmGramErrors62, HOk Tryd.prog x := hmemo_cons hGramErrors61_ok hmGramErrors61_ok
def hGramErrors62 : HE := ⟨64, [(eS [83,58,32,84])], [], [((.val (.tup [(.agg [(eI 1),(eS [83]),(eI 0),(eI 0)]),(eI 1),eB1])), [])]⟩
theorem hGramErrors62_ok : HOk Tryd.prog hGramErrors62 := hok_eq mmGramErrors_ok hmGramErrors62_ok folGramErrors (lf := 100000) (k := 1000) (by kernel_rfl)
def hmGramErrors63 : List HE := hGramErrors62 :: hmGramErrors62
theorem hmGramErrors63_ok : ∀ x ∈ hmGramErrors63, HOk Tryd.prog x := hmemo_cons hGramErrors62_ok hmGramErrors62_ok
def hGramErrors63 : HE := ⟨64, [(eS [58,32,84])], [], [((.val (.tup [(.agg [(eI 3),(eS [58]),(eI 0),(eI 0)]),(eI 1),eB1])), [])]⟩
theorem hGramErrors63_ok : HOk Tryd.prog hGramErrors63 := hok_eq mmGramErrors_ok hmGramErrors63_ok folGramErrors (lf := 100000) (k := 1000) (by kernel_rfl)
def hmGramErrors64 : List HE := hGramErrors63 :: hmGramErrors63
theorem hmGramErrors64_ok : ∀ x ∈ hmGramErrors64, HOk Tryd.prog x := hmemo_cons hGramErrors63_ok hmGramErrors63_ok
def hGramErrors64 : HE := ⟨77, [(eS [84])], [], [((.val (eI 1)), [])]⟩
theorem hGramErrors64_ok : HOk Tryd.prog hGramErrors64 := hok_eq mmGramErrors_ok hmGramErrors64_ok folGramErrors (lf := 100000) (k := 1000) (by kernel_rfl)
def hmGramErrors65 : List HE := hGramErrors64 :: hmGramErrors64
theorem hmGramErrors65_ok : ∀ x ∈ hmGramErrors65, HOk Tryd.prog x := hmemo_cons hGramErrors64_ok hmGramErrors64_ok
def hGramErrors65 : HE := ⟨53, [(eS [84])], [], [((.val eB1), [])]⟩
theorem hGramErrors65_ok : HOk Tryd.prog hGramErrors65 := hok_eq mmGramErrors_ok hmGramErrors65_ok folGramErrors (lf := 100000) (k := 1000) (by kernel_rfl)
def hmGramErrors66 : List HE := hGramErrors65 :: hmGramErrors65
theorem hmGramErrors66_ok : ∀ x ∈ hmGramErrors66, HOk Tryd.prog x := hmemo_cons hGramErrors65_ok hmGramErrors65_ok
def hGramErrors66 : HE := ⟨64, [(eS [84])], [], [((.val (.tup [(.agg [(eI 1),(eS [84]),(eI 0),(eI 0)]),(eI 1),eB1])), [])]⟩
theorem hGramErrors66_ok : HOk Tryd.prog hGramErrors66 := hok_eq mmGramErrors_ok hmGramErrors66_ok folGramErrors (lf := 100000) (k := 1000) (by kernel_rfl)
def hmGramErrors67 : List HE := hGramErrors66 :: hmGramErrors66
theorem hmGramErrors67_ok : ∀ x ∈ hmGramErrors67, HOk Tryd.prog x := hmemo_cons hGramErrors66_ok hmGramErrors66_ok
def bgramErrors11 : Blk := ⟨[(eI 1),(eS [83]),(eI 4),(eI 1),(eI 3),(eS [58]),(eI 4),(eI 2),(eI 1),(eS [84]),(eI 4),(eI 4)],81,[(2,12),(1,8),(0,4)],3,0,false,2,none⟩
def hGramErrors67 : HE := ⟨44, [(eS [83,58,32,84]),(eI 4)], [], [((.val (.tup [(.sl 0 2 0 3 none 4),(eI 0)])), [bgramErrors11])]⟩
theorem hGramErrors67_ok : HOk Tryd.prog hGramErrors67 := hok_eq mmGramErrors_ok hmGramErrors67_ok folGramErrors (lf := 100000) (k := 1000) (by kernel_rfl)
def hmGramErrors68 : List HE := hGramErrors67 :: hmGramErrors67
theorem hmGramErrors68_ok : ∀ x ∈ hmGramErrors68, HOk Tryd.prog x := hmemo_cons hGramErrors67_ok hmGramErrors67_ok
def hGramErrors68 : HE := ⟨77, [(eS [83,58,32,97])], [], [((.val (eI 1)), [])]⟩
theorem hGramErrors68_ok : HOk Tryd.prog hGramErrors68 := hok_eq mmGramErrors_ok hmGramErrors68_ok folGramErrors (lf := 100000) (k := 1000) (by kernel_rfl)
def hmGramErrors69 : List HE := hGramErrors68 :: hmGramErrors68
theorem hmGramErrors69_ok : ∀ x ∈ hmGramErrors69, HOk Tryd.prog x := hmemo_cons hGramErrors68_ok hmGramErrors68_ok
def hGramErrors69 : HE := ⟨64, [(eS [83,58,32,97])], [], [((.val (.tup [(.agg [(eI 1),(eS [83]),(eI 0),(eI 0)]),(eI 1),eB1])), [])]⟩
theorem hGramErrors69_ok : HOk Tryd.prog hGramErrors69 := hok_eq mmGramErrors_ok hmGramErrors69_ok folGramErrors (lf := 100000) (k := 1000) (by kernel_rfl)
def hmGramErrors70 : List HE := hGramErrors69 :: hmGramErrors69
theorem hmGramErrors70_ok : ∀ x ∈ hmGramErrors70, HOk Tryd.prog x := hmemo_cons hGramErrors69_ok hmGramErrors69_ok
def hGramErrors70 : HE := ⟨64, [(eS [58,32,97])], [], [((.val (.tup [(.agg [(eI 3),(eS [58]),(eI 0),(eI 0)]),(eI 1),eB1])), [])]⟩
theorem hGramErrors70_ok : HOk Tryd.prog hGramErrors70 := hok_eq mmGramErrors_ok hmGramErrors70_ok folGramErrors (lf := 100000) (k := 1000) (by kernel_rfl)
def hmGramErrors71 : List HE := hGramErrors70 :: hmGramErrors70
theorem hmGramErrors71_ok : ∀ x ∈ hmGramErrors71, HOk Tryd.prog x := hmemo_cons hGramErrors70_ok hmGramErrors70_ok
def bgramErrors12 : Blk := ⟨[(eI 1),(eS [83]),(eI 5),(eI 1),(eI 3),(eS [58]),(eI 5),(eI 2),(eI 2),(eS [97]),(eI 5),(eI 4)],81,[(2,12),(1,8),(0,4)],3,0,false,2,none⟩
def hGramErrors71 : HE := ⟨44, [(eS [83,58,32,97]),(eI 5)], [], [((.val (.tup [(.sl 0 2 0 3 none 4),(eI 0)])), [bgramErrors12])]⟩
theorem hGramErrors71_ok : HOk Tryd.prog hGramErrors71 := hok_eq mmGramErrors_ok hmGramErrors71_ok folGramErrors (lf := 100000) (k := 1000) (by kernel_rfl)
def hmGramErrors72 : List HE := hGramErrors71 :: hmGramErrors71
theorem hmGramErrors72_ok : ∀ x ∈ hmGramErrors72, HOk Tryd.prog x := hmemo_cons hGramErrors71_ok hmGramErrors71_ok
def bgramErrors13 : Blk := ⟨[(eI 5),(eS []),(eI 1),(eI 1),(eI 5),(eS []),(eI 2),(eI 1),(eI 5),(eS []),(eI 3),(eI 1),(eI 1),(eS [83]),(eI 4),(eI 1),(eI 3),(eS [58]),(eI 4),(eI 2),(eI 1),(eS [84]),(eI 4),(eI 4),(eI 5),(eS []),(eI 4),(eI 5),(eI 1),(eS [83]),(eI 5),(eI 1),(eI 3),(eS [58]),(eI 5),(eI 2),(eI 2),(eS [97]),(eI 5),(eI 4),(eI 5),(eS []),(eI 5),(eI 5)],81,[(6,44),(5,40),(4,28),(3,24),(2,12),(1,8),(0,4)],7,0,false,6,none⟩
def hGramErrors72 : HE := ⟨19, [(eS [10,10,10,83,58,32,84,10,83,58,32,97,10])], [], [((.val (.tup [(.sl 0 6 0 11 none 4),(eI 0),(eI 0),(eI 0)])), [bgramErrors13])]⟩
theorem hGramErrors72_ok : HOk Tryd.prog hGramErrors72 := hok_eq mmGramErrors_ok hmGramErrors72_ok folGramErrors (lf := 100000) (k := 1000) (by kernel_rfl)
def hmGramErrors73 : List HE := hGramErrors72 :: hmGramErrors72
theorem hmGramErrors73_ok : ∀ x ∈ hmGramErrors73, HOk Tryd.prog x := hmemo_cons hGramErrors72_ok hmGramErrors72_ok
def bgramErrors14 : Blk := ⟨[(.sl 2 0 0 1 none 4),(eI 1),(eS [84]),(eI 4),(eI 4)],91,[(0,5)],1,0,false,0,none⟩
def bgramErrors15 : Blk := ⟨[(eI 1),(eS [84]),(eI 4),(eI 4)],81,[(0,4)],1,0,false,0,none⟩
def hGramErrors73 : HE := ⟨48, [(.sl 0 6 12 4 none 4)], [bgramErrors13], [((.val (.agg [(eI 1),(eS [83]),(eI 4),(eI 1),(.sl 1 0 0 1 none 5)])), [bgramErrors14, bgramErrors15])]⟩
theorem hGramErrors73_ok : HOk Tryd.prog hGramErrors73 := hok_eq mmGramErrors_ok hmGramErrors73_ok folGramErrors (lf := 100000) (k := 1000) (by kernel_rfl)
def hmGramErrors74 : List HE := hGramErrors73 :: hmGramErrors73
theorem hmGramErrors74_ok : ∀ x ∈ hmGramErrors74, HOk Tryd.prog x := hmemo_cons hGramErrors73_ok hmGramErrors73_ok
def bgramErrors16 : Blk := ⟨[(.sl 2 0 0 1 none 4),(eI 2),(eS [97]),(eI 5),(eI 4)],91,[(0,5)],1,0,false,0,none⟩
def bgramErrors17 : Blk := ⟨[(eI 2),(eS [97]),(eI 5),(eI 4)],81,[(0,4)],1,0,false,0,none⟩
def hGramErrors74 : HE := ⟨48, [(.sl 0 6 28 4 none 4)], [bgramErrors13], [((.val (.agg [(eI 1),(eS [83]),(eI 5),(eI 1),(.sl 1 0 0 1 none 5)])), [bgramErrors16, bgramErrors17])]⟩
theorem hGramErrors74_ok : HOk Tryd.prog hGramErrors74 := hok_eq mmGramErrors_ok hmGramErrors74_ok folGramErrors (lf := 100000) (k := 1000) (by kernel_rfl)
def hmGramErrors75 : List HE := hGramErrors74 :: hmGramErrors74
theorem hmGramErrors75_ok : ∀ x ∈ hmGramErrors75, HOk Tryd.prog x := hmemo_cons hGramErrors74_ok hmGramErrors74_ok
def bgramErrors18 : Blk := ⟨[(eI 1),(eS [83]),(eI 4),(eI 1),(.sl 2 0 0 1 none 5),(eI 1),(eS [83]),(eI 5),(eI 1),(.sl 4 0 0 1 none 5)],87,[(1,10),(0,5)],2,0,false,1,none⟩
def bgramErrors19 : Blk := ⟨[(.sl 3 0 0 1 none 4),(eI 1),(eS [84]),(eI 4),(eI 4)],91,[(0,5)],1,0,false,0,none⟩
def bgramErrors20 : Blk := ⟨[(.sl 5 0 0 1 none 4),(eI 2),(eS [97]),(eI 5),(eI 4)],91,[(0,5)],1,0,false,0,none⟩
def hGramErrors75 : HE := ⟨22, [(.sl 0 6 0 11 none 4)], [bgramErrors13], [((.val (.sl 1 1 0 2 none 5)), [bgramErrors18, bgramErrors19, bgramErrors15, bgramErrors20, bgramErrors17])]⟩
theorem hGramErrors75_ok : HOk Tryd.prog hGramErrors75 := hok_eq mmGramErrors_ok hmGramErrors75_ok folGramErrors (lf := 100000) (k := 1000) (by kernel_rfl)
def hmGramErrors76 : List HE := hGramErrors75 :: hmGramErrors75
theorem hmGramErrors76_ok : ∀ x ∈ hmGramErrors76, HOk Tryd.prog x := hmemo_cons hGramErrors75_ok hmGramErrors75_ok
def hGramErrors76 : HE := ⟨46, [(.lit (.slice none 0 0)),(eS [83])], [], [((.val eB0), [])]⟩
theorem hGramErrors76_ok : HOk Tryd.prog hGramErrors76 := hok_eq mmGramErrors_ok hmGramErrors76_ok folGramErrors (lf := 100000) (k := 1000) (by kernel_rfl)
def hmGramErrors77 : List HE := hGramErrors76 :: hmGramErrors76
theorem hmGramErrors77_ok : ∀ x ∈ hmGramErrors77, HOk Tryd.prog x := hmemo_cons hGramErrors76_ok hmGramErrors76_ok
def bgramErrors21 : Blk := ⟨[(eS [83])],9,[(0,1)],1,0,false,0,none⟩
def hGramErrors77 : HE := ⟨46, [(.sl 0 0 0 1 none 1),(eS [83])], [bgramErrors21], [((.val eB1), [])]⟩
theorem hGramErrors77_ok : HOk Tryd.prog hGramErrors77 := hok_eq mmGramErrors_ok hmGramErrors77_ok folGramErrors (lf := 100000) (k := 1000) (by kernel_rfl)
def hmGramErrors78 : List HE := hGramErrors77 :: hmGramErrors77
theorem hmGramErrors78_ok : ∀ x ∈ hmGramErrors78, HOk Tryd.prog x := hmemo_cons hGramErrors77_ok hmGramErrors77_ok
def bgramErrors22 : Blk := ⟨[(eI 1),(eS [83]),(eI 4),(eI 1),(.sl 1 0 0 1 none 5),(eI 1),(eS [83]),(eI 5),(eI 1),(.sl 3 0 0 1 none 5)],87,[(1,10),(0,5)],2,0,false,1,none⟩
def bgramErrors23 : Blk := ⟨[(.sl 4 0 0 1 none 4),(eI 2),(eS [97]),(eI 5),(eI 4)],91,[(0,5)],1,0,false,0,none⟩
def hGramErrors78 : HE := ⟨21, [(.sl 0 1 0 2 none 5)], [bgramErrors22, bgramErrors14, bgramErrors15, bgramErrors23, bgramErrors17], [((.panic (.iface 51 (.agg [(eI 5),(eI 1),(eI 4)]))), [])]⟩
theorem hGramErrors78_ok : HOk Tryd.prog hGramErrors78 := hok_eq mmGramErrors_ok hmGramErrors78_ok folGramErrors (lf := 100000) (k := 1000) (by kernel_rfl)
def hmGramErrors79 : List HE := hGramErrors78 :: hmGramErrors78
theorem hmGramErrors79_ok : ∀ x ∈ hmGramErrors79, HOk Tryd.prog x := hmemo_cons hGramErrors78_ok hmGramErrors78_ok
def hGramErrors79 : HE := ⟨8, [(eS [10,10,10,83,58,32,84,10,83,58,32,97,10])], [], [((.val (.tup [(.agg [(.lit (.slice none 0 0)),(.lit (.slice none 0 0)),(.lit (.slice none 0 0))]),(eI 5),(eI 1),(eI 4)])), [])]⟩
theorem hGramErrors79_ok : HOk Tryd.prog hGramErrors79 := hok_eq mmGramErrors_ok hmGramErrors79_ok folGramErrors (lf := 100000) (k := 1000) (by kernel_rfl)
def hmGramErrors80 : List HE := hGramErrors79 :: hmGramErrors79
theorem hmGramErrors80_ok : ∀ x ∈ hmGramErrors80, HOk Tryd.prog x := hmemo_cons hGramErrors79_ok hmGramErrors79_ok
def hGramErrors80 : HE := ⟨77, [(eS [83,58,32,84,32,97])], [], [((.val (eI 1)), [])]⟩
theorem hGramErrors80_ok : HOk Tryd.prog hGramErrors80 := hok_eq mmGramErrors_ok hmGramErrors80_ok folGramErrors (lf := 100000) (k := 1000) (by kernel_rfl)
def hmGramErrors81 : List HE := hGramErrors80 :: hmGramErrors80
theorem hmGramErrors81_ok : ∀ x ∈ hmGramErrors81, HOk Tryd.prog x := hmemo_cons hGramErrors80_ok hmGramErrors80_ok
def hGramErrors81 : HE := ⟨64, [(eS [83,58,32,84,32,97])], [], [((.val (.tup [(.agg [(eI 1),(eS [83]),(eI 0),(eI 0)]),(eI 1),eB1])), [])]⟩
theorem hGramErrors81_ok : HOk Tryd.prog hGramErrors81 := hok_eq mmGramErrors_ok hmGramErrors81_ok folGramErrors (lf := 100000) (k := 1000) (by kernel_rfl)
def hmGramErrors82 : List HE := hGramErrors81 :: hmGramErrors81
theorem hmGramErrors82_ok : ∀ x ∈ hmGramErrors82, HOk Tryd.prog x := hmemo_cons hGramErrors81_ok hmGramErrors81_ok
def hGramErrors82 : HE := ⟨64, [(eS [58,32,84,32,97])], [], [((.val (.tup [(.agg [(eI 3),(eS [58]),(eI 0),(eI 0)]),(eI 1),eB1])), [])]⟩
theorem hGramErrors82_ok : HOk Tryd.prog hGramErrors82 := hok_eq mmGramErrors_ok hmGramErrors82_ok folGramErrors (lf := 100000) (k := 1000) (by kernel_rfl)
def hmGramErrors83 : List HE := hGramErrors82 :: hmGramErrors82
theorem hmGramErrors83_ok : ∀ x ∈ hmGramErrors83, HOk Tryd.prog x := hmemo_cons hGramErrors82_ok hmGramErrors82_ok
def hGramErrors83 : HE := ⟨77, [(eS [84,32,97])], [], [((.val (eI 1)), [])]⟩
theorem hGramErrors83_ok : HOk Tryd.prog hGramErrors83 := hok_eq mmGramErrors_ok hmGramErrors83_ok folGramErrors (lf := 100000) (k := 1000) (by kernel_rfl)
def hmGramErrors84 : List HE := hGramErrors83 :: hmGramErrors83
theorem hmGramErrors84_ok : ∀ x ∈ hmGramErrors84, HOk Tryd.prog x := hmemo_cons hGramErrors83_ok hmGramErrors83_ok
def hGramErrors84 : HE := ⟨64, [(eS [84,32,97])], [], [((.val (.tup [(.agg [(eI 1),(eS [84]),(eI 0),(eI 0)]),(eI 1),eB1])), [])]⟩
theorem hGramErrors84_ok : HOk Tryd.prog hGramErrors84 := hok_eq mmGramErrors_ok hmGramErrors84_ok folGramErrors (lf := 100000) (k := 1000) (by kernel_rfl)
def hmGramErrors85 : List HE := hGramErrors84 :: hmGramErrors84
theorem hmGramErrors85_ok : ∀ x ∈ hmGramErrors85, HOk Tryd.prog x := hmemo_cons hGramErrors84_ok hmGramErrors84_ok
def bgramErrors24 : Blk := ⟨[(eI 1),(eS [83]),(eI 4),(eI 1),(eI 3),(eS [58]),(eI 4),(eI 2),(eI 1),(eS [84]),(eI 4),(eI 4),(eI 2),(eS [97]),(eI 4),(eI 6)],81,[(3,16),(2,12),(1,8),(0,4)],4,0,false,3,none⟩
def hGramErrors85 : HE := ⟨44, [(eS [83,58,32,84,32,97]),(eI 4)], [], [((.val (.tup [(.sl 0 3 0 4 none 4),(eI 0)])), [bgramErrors24])]⟩
theorem hGramErrors85_ok : HOk Tryd.prog hGramErrors85 := hok_eq mmGramErrors_ok hmGramErrors85_ok folGramErrors (lf := 100000) (k := 1000) (by kernel_rfl)
def hmGramErrors86 : List HE := hGramErrors85 :: hmGramErrors85
theorem hmGramErrors86_ok : ∀ x ∈ hmGramErrors86, HOk Tryd.prog x := hmemo_cons hGramErrors85_ok hmGramErrors85_ok
def bgramErrors25 : Blk := ⟨[(eI 5),(eS []),(eI 1),(eI 1),(eI 5),(eS []),(eI 2),(eI 1),(eI 5),(eS []),(eI 3),(eI 1),(eI 1),(eS [83]),(eI 4),(eI 1),(eI 3),(eS [58]),(eI 4),(eI 2),(eI 1),(eS [84]),(eI 4),(eI 4),(eI 2),(eS [97]),(eI 4),(eI 6),(eI 5),(eS []),(eI 4),(eI 7)],81,[(4,32),(3,28),(2,12),(1,8),(0,4)],5,0,false,4,none⟩
def hGramErrors86 : HE := ⟨19, [(eS [10,10,10,83,58,32,84,32,97,10])], [], [((.val (.tup [(.sl 0 4 0 8 none 4),(eI 0),(eI 0),(eI 0)])), [bgramErrors25])]⟩
theorem hGramErrors86_ok : HOk Tryd.prog hGramErrors86 := hok_eq mmGramErrors_ok hmGramErrors86_ok folGramErrors (lf := 100000) (k := 1000) (by kernel_rfl)
def hmGramErrors87 : List HE := hGramErrors86 :: hmGramErrors86
theorem hmGramErrors87_ok : ∀ x ∈ hmGramErrors87, HOk Tryd.prog x := hmemo_cons hGramErrors86_ok hmGramErrors86_ok
def bgramErrors26 : Blk := ⟨[(.sl 2 1 0 2 none 4),(eI 1),(eS [84]),(eI 4),(eI 4)],91,[(0,5)],1,0,false,0,none⟩
def bgramErrors27 : Blk := ⟨[(eI 1),(eS [84]),(eI 4),(eI 4),(eI 2),(eS [97]),(eI 4),(eI 6)],81,[(1,8),(0,4)],2,0,false,1,none⟩
def hGramErrors87 : HE := ⟨48, [(.sl 0 4 12 5 none 4)], [bgramErrors25], [((.val (.agg [(eI 1),(eS [83]),(eI 4),(eI 1),(.sl 1 0 0 1 none 5)])), [bgramErrors26, bgramErrors27])]⟩
theorem hGramErrors87_ok : HOk Tryd.prog hGramErrors87 := hok_eq mmGramErrors_ok hmGramErrors87_ok folGramErrors (lf := 100000) (k := 1000) (by kernel_rfl)
def hmGramErrors88 : List HE := hGramErrors87 :: hmGramErrors87
theorem hmGramErrors88_ok : ∀ x ∈ hmGramErrors88, HOk Tryd.prog x := hmemo_cons hGramErrors87_ok hmGramErrors87_ok
def bgramErrors28 : Blk := ⟨[(eI 1),(eS [83]),(eI 4),(eI 1),(.sl 2 0 0 1 none 5)],87,[(0,5)],1,0,false,0,none⟩
def bgramErrors29 : Blk := ⟨[(.sl 3 1 0 2 none 4),(eI 1),(eS [84]),(eI 4),(eI 4)],91,[(0,5)],1,0,false,0,none⟩
def hGramErrors88 : HE := ⟨22, [(.sl 0 4 0 8 none 4)], [bgramErrors25], [((.val (.sl 1 0 0 1 none 5)), [bgramErrors28, bgramErrors29, bgramErrors27])]⟩
theorem hGramErrors88_ok : HOk Tryd.prog hGramErrors88 := hok_eq mmGramErrors_ok hmGramErrors88_ok folGramErrors (lf := 100000) (k := 1000) (by kernel_rfl)
def hmGramErrors89 : List HE := hGramErrors88 :: hmGramErrors88
theorem hmGramErrors89_ok : ∀ x ∈ hmGramErrors89, HOk Tryd.prog x := hmemo_cons hGramErrors88_ok hmGramErrors88_ok
def bgramErrors30 : Blk := ⟨[(eI 1),(eS [83]),(eI 4),(eI 1),(.sl 1 0 0 1 none 5)],87,[(0,5)],1,0,false,0,none⟩
def hGramErrors89 : HE := ⟨21, [(.sl 0 0 0 1 none 5)], [bgramErrors30, bgramErrors26, bgramErrors27], [((.panic (.iface 51 (.agg [(eI 4),(eI 4),(eI 3)]))), [])]⟩
theorem hGramErrors89_ok : HOk Tryd.prog hGramErrors89 := hok_eq mmGramErrors_ok hmGramErrors89_ok folGramErrors (lf := 100000) (k := 1000) (by kernel_rfl)
def hmGramErrors90 : List HE := hGramErrors89 :: hmGramErrors89
theorem hmGramErrors90_ok : ∀ x ∈ hmGramErrors90, HOk Tryd.prog x := hmemo_cons hGramErrors89_ok hmGramErrors89_ok
def hGramErrors90 : HE := ⟨8, [(eS [10,10,10,83,58,32,84,32,97,10])], [], [((.val (.tup [(.agg [(.lit (.slice none 0 0)),(.lit (.slice none 0 0)),(.lit (.slice none 0 0))]),(eI 4),(eI 4),(eI 3)])), [])]⟩
theorem hGramErrors90_ok : HOk Tryd.prog hGramErrors90 := hok_eq mmGramErrors_ok hmGramErrors90_ok folGramErrors (lf := 100000) (k := 1000) (by kernel_rfl)
def hmGramErrors91 : List HE := hGramErrors90 :: hmGramErrors90
theorem hmGramErrors91_ok : ∀ x ∈ hmGramErrors91, HOk Tryd.prog x := hmemo_cons hGramErrors90_ok hmGramErrors90_ok
def hGramErrors91 : HE := ⟨77, [(eS [83,58,32,97,32,124,32,98,32,124,32,97])], [], [((.val (eI 1)), [])]⟩
theorem hGramErrors91_ok : HOk Tryd.prog hGramErrors91 := hok_eq mmGramErrors_ok hmGramErrors91_ok folGramErrors (lf := 100000) (k := 1000) (by kernel_rfl)
def hmGramErrors92 : List HE := hGramErrors91 :: hmGramErrors91
theorem hmGramErrors92_ok : ∀ x ∈ hmGramErrors92, HOk Tryd.prog x := hmemo_cons hGramErrors91_ok hmGramErrors91_ok
def hGramErrors92 : HE := ⟨64, [(eS [83,58,32,97,32,124,32,98,32,124,32,97])], [], [((.val (.tup [(.agg [(eI 1),(eS [83]),(eI 0),(eI 0)]),(eI 1),eB1])), [])]⟩
theorem hGramErrors92_ok : HOk Tryd.prog hGramErrors92 := hok_eq mmGramErrors_ok hmGramErrors92_ok folGramErrors (lf := 100000) (k := 1000) (by kernel_rfl)
def hmGramErrors93 : List HE := hGramErrors92 :: hmGramErrors92
theorem hmGramErrors93_ok : ∀ x ∈ hmGramErrors93, HOk Tryd.prog x := hmemo_cons hGramErrors92_ok hmGramErrors92_ok
def hGramErrors93 : HE := ⟨64, [(eS [58,32,97,32,124,32,98,32,124,32,97])], [], [((.val (.tup [(.agg [(eI 3),(eS [58]),(eI 0),(eI 0)]),(eI 1),eB1])), [])]⟩
theorem hGramErrors93_ok : HOk Tryd.prog hGramErrors93 := hok_eq mmGramErrors_ok hmGramErrors93_ok folGramErrors (lf := 100000) (k := 1000) (by kernel_rfl)
def hmGramErrors94 : List HE := hGramErrors93 :: hmGramErrors93
theorem hmGramErrors94_ok : ∀ x ∈ hmGramErrors94, HOk Tryd.prog x := hmemo_cons hGramErrors93_ok hmGramErrors93_ok
def hGramErrors94 : HE := ⟨77, [(eS [97,32,124,32,98,32,124,32,97])], [], [((.val (eI 1)), [])]⟩
theorem hGramErrors94_ok : HOk Tryd.prog hGramErrors94 := hok_eq mmGramErrors_ok hmGramErrors94_ok folGramErrors (lf := 100000) (k := 1000) (by kernel_rfl)
def hmGramErrors95 : List HE := hGramErrors94 :: hmGramErrors94
theorem hmGramErrors95_ok : ∀ x ∈ hmGramErrors95, HOk Tryd.prog x := hmemo_cons hGramErrors94_ok hmGramErrors94_ok
def hGramErrors95 : HE := ⟨64, [(eS [97,32,124,32,98,32,124,32,97])], [], [((.val (.tup [(.agg [(eI 2),(eS [97]),(eI 0),(eI 0)]),(eI 1),eB1])), [])]⟩
theorem hGramErrors95_ok : HOk Tryd.prog hGramErrors95 := hok_eq mmGramErrors_ok hmGramErrors95_ok folGramErrors (lf := 100000) (k := 1000) (by kernel_rfl)
def hmGramErrors96 : List HE := hGramErrors95 :: hmGramErrors95
theorem hmGramErrors96_ok : ∀ x ∈ hmGramErrors96, HOk Tryd.prog x := hmemo_cons hGramErrors95_ok hmGramErrors95_ok
def hGramErrors96 : HE := ⟨64, [(eS [124,32,98,32,124,32,97])], [], [((.val (.tup [(.agg [(eI 4),(eS [124]),(eI 0),(eI 0)]),(eI 1),eB1])), [])]⟩
theorem hGramErrors96_ok : HOk Tryd.prog hGramErrors96 := hok_eq mmGramErrors_ok hmGramErrors96_ok folGramErrors (lf := 100000) (k := 1000) (by kernel_rfl)
def hmGramErrors97 : List HE := hGramErrors96 :: hmGramErrors96
theorem hmGramErrors97_ok : ∀ x ∈ hmGramErrors97, HOk Tryd.prog x := hmemo_cons hGramErrors96_ok hmGramErrors96_ok
def hGramErrors97 : HE := ⟨77, [(eS [98,32,124,32,97])], [], [((.val (eI 1)), [])]⟩
theorem hGramErrors97_ok : HOk Tryd.prog hGramErrors97 := hok_eq mmGramErrors_ok hmGramErrors97_ok folGramErrors (lf := 100000) (k := 1000) (by kernel_rfl)
def hmGramErrors98 : List HE := hGramErrors97 :: hmGramErrors97
theorem hmGramErrors98_ok : ∀ x ∈ hmGramErrors98, HOk Tryd.prog x := hmemo_cons hGramErrors97_ok hmGramErrors97_ok
def hGramErrors98 : HE := ⟨64, [(eS [98,32,124,32,97])], [], [((.val (.tup [(.agg [(eI 2),(eS [98]),(eI 0),(eI 0)]),(eI 1),eB1])), [])]⟩
theorem hGramErrors98_ok : HOk Tryd.prog hGramErrors98 := hok_eq mmGramErrors_ok hmGramErrors98_ok folGramErrors (lf := 100000) (k := 1000) (by kernel_rfl)
def hmGramErrors99 : List HE := hGramErrors98 :: hmGramErrors98
theorem hmGramErrors99_ok : ∀ x ∈ hmGramErrors99, HOk Tryd.prog x := hmemo_cons hGramErrors98_ok hmGramErrors98_ok
def bgramErrors31 : Blk := ⟨[(eI 1),(eS [83]),(eI 4),(eI 1),(eI 3),(eS [58]),(eI 4),(eI 2),(eI 2),(eS [97]),(eI 4),(eI 4),(eI 4),(eS [124]),(eI 4),(eI 6),(eI 2),(eS [98]),(eI 4),(eI 8),(eI 4),(eS [124]),(eI 4),(eI 10),(eI 2),(eS [97]),(eI 4),(eI 12)],81,[(6,28),(5,24),(4,20),(3,16),(2,12),(1,8),(0,4)],7,0,false,6,none⟩
def hGramErrors99 : HE := ⟨44, [(eS [83,58,32,97,32,124,32,98,32,124,32,97]),(eI 4)], [], [((.val (.tup [(.sl 0 6 0 7 none 4),(eI 0)])), [bgramErrors31])]⟩
theorem hGramErrors99_ok : HOk Tryd.prog hGramErrors99 := hok_eq mmGramErrors_ok hmGramErrors99_ok folGramErrors (lf := 100000) (k := 1000) (by kernel_rfl)
def hmGramErrors100 : List HE := hGramErrors99 :: hmGramErrors99
theorem hmGramErrors100_ok : ∀ x ∈ hmGramErrors100, HOk Tryd.prog x := hmemo_cons hGramErrors99_ok hmGramErrors99_ok
def bgramErrors32 : Blk := ⟨[(eI 5),(eS []),(eI 1),(eI 1),(eI 5),(eS []),(eI 2),(eI 1),(eI 5),(eS []),(eI 3),(eI 1),(eI 1),(eS [83]),(eI 4),(eI 1),(eI 3),(eS [58]),(eI 4),(eI 2),(eI 2),(eS [97]),(eI 4),(eI 4),(eI 4),(eS [124]),(eI 4),(eI 6),(eI 2),(eS [98]),(eI 4),(eI 8),(eI 4),(eS [124]),(eI 4),(eI 10),(eI 2),(eS [97]),(eI 4),(eI 12),(eI 5),(eS []),(eI 4),(eI 13)],81,[(4,44),(3,40),(2,12),(1,8),(0,4)],5,0,false,4,none⟩
def hGramErrors100 : HE := ⟨19, [(eS [10,10,10,83,58,32,97,32,124,32,98,32,124,32,97,10])], [], [((.val (.tup [(.sl 0 4 0 11 none 4),(eI 0),(eI 0),(eI 0)])), [bgramErrors32])]⟩
theorem hGramErrors100_ok : HOk Tryd.prog hGramErrors100 := hok_eq mmGramErrors_ok hmGramErrors100_ok folGramErrors (lf := 100000) (k := 1000) (by kernel_rfl)
def hmGramErrors101 : List HE := hGramErrors100 :: hmGramErrors100
theorem hmGramErrors101_ok : ∀ x ∈ hmGramErrors101, HOk Tryd.prog x := hmemo_cons hGramErrors100_ok hmGramErrors100_ok
def bgramErrors33 : Blk := ⟨[(.sl 2 0 0 1 none 4),(eI 2),(eS [97]),(eI 4),(eI 4),(.sl 3 0 0 1 none 4),(eI 2),(eS [98]),(eI 4),(eI 8),(.sl 4 0 0 1 none 4),(eI 2),(eS [97]),(eI 4),(eI 12)],91,[(2,15),(1,10),(0,5)],3,0,false,2,none⟩
def bgramErrors34 : Blk := ⟨[(eI 2),(eS [97]),(eI 4),(eI 4)],81,[(0,4)],1,0,false,0,none⟩
def bgramErrors35 : Blk := ⟨[(eI 2),(eS [98]),(eI 4),(eI 8)],81,[(0,4)],1,0,false,0,none⟩
def bgramErrors36 : Blk := ⟨[(eI 2),(eS [97]),(eI 4),(eI 12)],81,[(0,4)],1,0,false,0,none⟩
def hGramErrors101 : HE := ⟨48, [(.sl 0 4 12 8 none 4)], [bgramErrors32], [((.val (.agg [(eI 1),(eS [83]),(eI 4),(eI 1),(.sl 1 2 0 3 none 5)])), [bgramErrors33, bgramErrors34, bgramErrors35, bgramErrors36])]⟩
theorem hGramErrors101_ok : HOk Tryd.prog hGramErrors101 := hok_eq mmGramErrors_ok hmGramErrors101_ok folGramErrors (lf := 100000) (k := 1000) (by kernel_rfl)
def hmGramErrors102 : List HE := hGramErrors101 :: hmGramErrors101
theorem hmGramErrors102_ok : ∀ x ∈ hmGramErrors102, HOk Tryd.prog x := hmemo_cons hGramErrors101_ok hmGramErrors101_ok
def bgramErrors37 : Blk := ⟨[(eI 1),(eS [83]),(eI 4),(eI 1),(.sl 2 2 0 3 none 5)],87,[(0,5)],1,0,false,0,none⟩
def bgramErrors38 : Blk := ⟨[(.sl 3 0 0 1 none 4),(eI 2),(eS [97]),(eI 4),(eI 4),(.sl 4 0 0 1 none 4),(eI 2),(eS [98]),(eI 4),(eI 8),(.sl 5 0 0 1 none 4),(eI 2),(eS [97]),(eI 4),(eI 12)],91,[(2,15),(1,10),(0,5)],3,0,false,2,none⟩
def hGramErrors102 : HE := ⟨22, [(.sl 0 4 0 11 none 4)], [bgramErrors32], [((.val (.sl 1 0 0 1 none 5)), [bgramErrors37, bgramErrors38, bgramErrors34, bgramErrors35, bgramErrors36])]⟩
theorem hGramErrors102_ok : HOk Tryd.prog hGramErrors102 := hok_eq mmGramErrors_ok hmGramErrors102_ok folGramErrors (lf := 100000) (k := 1000) (by kernel_rfl)
def hmGramErrors103 : List HE := hGramErrors102 :: hmGramErrors102
theorem hmGramErrors103_ok : ∀ x ∈ hmGramErrors103, HOk Tryd.prog x := hmemo_cons hGramErrors102_ok hmGramErrors102_ok
def bgramErrors39 : Blk := ⟨[(eI 1)],3,[(0,1)],1,0,false,0,none⟩
def hGramErrors103 : HE := ⟨57, [(.lit (.slice none 0 0)),(.agg [(eI 100),(.sl 0 0 0 1 none 1)])], [bgramErrors39], [((.val eB0), [])]⟩
theorem hGramErrors103_ok : HOk Tryd.prog hGramErrors103 := hok_eq mmGramErrors_ok hmGramErrors103_ok folGramErrors (lf := 100000) (k := 1000) (by kernel_rfl)
def hmGramErrors104 : List HE := hGramErrors103 :: hmGramErrors103
theorem hmGramErrors104_ok : ∀ x ∈ hmGramErrors104, HOk Tryd.prog x := hmemo_cons hGramErrors103_ok hmGramErrors103_ok
def bgramErrors40 : Blk := ⟨[(eI 100),(.sl 1 0 0 1 none 1)],41,[(0,2)],1,0,false,0,none⟩
def bgramErrors41 : Blk := ⟨[(eI 2)],3,[(0,1)],1,0,false,0,none⟩
def hGramErrors104 : HE := ⟨57, [(.sl 0 0 0 1 none 2),(.agg [(eI 100),(.sl 2 0 0 1 none 1)])], [bgramErrors40, bgramErrors39, bgramErrors41], [((.val eB0), [])]⟩
theorem hGramErrors104_ok : HOk Tryd.prog hGramErrors104 := hok_eq mmGramErrors_ok hmGramErrors104_ok folGramErrors (lf := 100000) (k := 1000) (by kernel_rfl)
def hmGramErrors105 : List HE := hGramErrors104 :: hmGramErrors104
theorem hmGramErrors105_ok : ∀ x ∈ hmGramErrors105, HOk Tryd.prog x := hmemo_cons hGramErrors104_ok hmGramErrors104_ok
def bgramErrors42 : Blk := ⟨[(eI 100),(.sl 1 0 0 1 none 1),(eI 100),(.sl 2 0 0 1 none 1)],41,[(1,4),(0,2)],2,0,false,1,none⟩
def hGramErrors105 : HE := ⟨57, [(.sl 0 1 0 2 none 2),(.agg [(eI 100),(.sl 3 0 0 1 none 1)])], [bgramErrors42, bgramErrors39, bgramErrors41, bgramErrors39], [((.val eB1), [])]⟩
theorem hGramErrors105_ok : HOk Tryd.prog hGramErrors105 := hok_eq mmGramErrors_ok hmGramErrors105_ok folGramErrors (lf := 100000) (k := 1000) (by kernel_rfl)
def hmGramErrors106 : List HE := hGramErrors105 :: hmGramErrors105
theorem hmGramErrors106_ok : ∀ x ∈ hmGramErrors106, HOk Tryd.prog x := hmemo_cons hGramErrors105_ok hmGramErrors105_ok
def bgramErrors43 : Blk := ⟨[(eI 1),(eS [83]),(eI 4),(eI 1),(.sl 1 2 0 3 none 5)],87,[(0,5)],1,0,false,0,none⟩
def hGramErrors106 : HE := ⟨21, [(.sl 0 0 0 1 none 5)], [bgramErrors43, bgramErrors33, bgramErrors34, bgramErrors35, bgramErrors36], [((.panic (.iface 51 (.agg [(eI 4),(eI 12),(eI 4)]))), [])]⟩
theorem hGramErrors106_ok : HOk Tryd.prog hGramErrors106 := hok_eq mmGramErrors_ok hmGramErrors106_ok folGramErrors (lf := 100000) (k := 1000) (by kernel_rfl)
def hmGramErrors107 : List HE := hGramErrors106 :: hmGramErrors106
theorem hmGramErrors107_ok : ∀ x ∈ hmGramErrors107, HOk Tryd.prog x := hmemo_cons hGramErrors106_ok hmGramErrors106_ok
def hGramErrors107 : HE := ⟨8, [(eS [10,10,10,83,58,32,97,32,124,32,98,32,124,32,97,10])], [], [((.val (.tup [(.agg [(.lit (.slice none 0 0)),(.lit (.slice none 0 0)),(.lit (.slice none 0 0))]),(eI 4),(eI 12),(eI 4)])), [])]⟩
theorem hGramErrors107_ok : HOk Tryd.prog hGramErrors107 := hok_eq mmGramErrors_ok hmGramErrors107_ok folGramErrors (lf := 100000) (k := 1000) (by kernel_rfl)
def hmGramErrors108 : List HE := hGramErrors107 :: hmGramErrors107
theorem hmGramErrors108_ok : ∀ x ∈ hmGramErrors108, HOk Tryd.prog x := hmemo_cons hGramErrors107_ok hmGramErrors107_ok
def hGramErrors108 : HE := ⟨77, [(eS [83,58,32,124,32,97,32,124])], [], [((.val (eI 1)), [])]⟩
theorem hGramErrors108_ok : HOk Tryd.prog hGramErrors108 := hok_eq mmGramErrors_ok hmGramErrors108_ok folGramErrors (lf := 100000) (k := 1000) (by kernel_rfl)
def hmGramErrors109 : List HE := hGramErrors108 :: hmGramErrors108
theorem hmGramErrors109_ok : ∀ x ∈ hmGramErrors109, HOk Tryd.prog x := hmemo_cons hGramErrors108_ok hmGramErrors108_ok
def hGramErrors109 : HE := ⟨64, [(eS [83,58,32,124,32,97,32,124])], [], [((.val (.tup [(.agg [(eI 1),(eS [83]),(eI 0),(eI 0)]),(eI 1),eB1])), [])]⟩
theorem hGramErrors109_ok : HOk Tryd.prog hGramErrors109 := hok_eq mmGramErrors_ok hmGramErrors109_ok folGramErrors (lf := 100000) (k := 1000) (by kernel_rfl)
def hmGramErrors110 : List HE := hGramErrors109 :: hmGramErrors109
theorem hmGramErrors110_ok : ∀ x ∈ hmGramErrors110, HOk Tryd.prog x := hmemo_cons hGramErrors109_ok hmGramErrors109_ok
def hGramErrors110 : HE := ⟨64, [(eS [58,32,124,32,97,32,124])], [], [((.val (.tup [(.agg [(eI 3),(eS [58]),(eI 0),(eI 0)]),(eI 1),eB1])), [])]⟩
theorem hGramErrors110_ok : HOk Tryd.prog hGramErrors110 := hok_eq mmGramErrors_ok hmGramErrors110_ok folGramErrors (lf := 100000) (k := 1000) (by kernel_rfl)
def hmGramErrors111 : List HE := hGramErrors110 :: hmGramErrors110
theorem hmGramErrors111_ok : ∀ x ∈ hmGramErrors111, HOk Tryd.prog x := hmemo_cons hGramErrors110_ok hmGramErrors110_ok
def hGramErrors111 : HE := ⟨64, [(eS [124,32,97,32,124])], [], [((.val (.tup [(.agg [(eI 4),(eS [124]),(eI 0),(eI 0)]),(eI 1),eB1])), [])]⟩
theorem hGramErrors111_ok : HOk Tryd.prog hGramErrors111 := hok_eq mmGramErrors_ok hmGramErrors111_ok folGramErrors (lf := 100000) (k := 1000) (by kernel_rfl)
def hmGramErrors112 : List HE := hGramErrors111 :: hmGramErrors111
theorem hmGramErrors112_ok : ∀ x ∈ hmGramErrors112, HOk Tryd.prog x := hmemo_cons hGramErrors111_ok hmGramErrors111_ok
def hGramErrors112 : HE := ⟨77, [(eS [97,32,124])], [], [((.val (eI 1)), [])]⟩
theorem hGramErrors112_ok : HOk Tryd.prog hGramErrors112 := hok_eq mmGramErrors_ok hmGramErrors112_ok folGramErrors (lf := 100000) (k := 1000) (by kernel_rfl)
def hmGramErrors113 : List HE := hGramErrors112 :: hmGramErrors112
theorem hmGramErrors113_ok : ∀ x ∈ hmGramErrors113, HOk Tryd.prog x := hmemo_cons hGramErrors112_ok hmGramErrors112_ok
def hGramErrors113 : HE := ⟨64, [(eS [97,32,124])], [], [((.val (.tup [(.agg [(eI 2),(eS [97]),(eI 0),(eI 0)]),(eI 1),eB1])), [])]⟩
theorem hGramErrors113_ok : HOk Tryd.prog hGramErrors113 := hok_eq mmGramErrors_ok hmGramErrors113_ok folGramErrors (lf := 100000) (k := 1000) (by kernel_rfl)
def hmGramErrors114 : List HE := hGramErrors113 :: hmGramErrors113
theorem hmGramErrors114_ok : ∀ x ∈ hmGramErrors114, HOk Tryd.prog x := hmemo_cons hGramErrors113_ok hmGramErrors113_ok
def hGramErrors114 : HE := ⟨64, [(eS [124])], [], [((.val (.tup [(.agg [(eI 4),(eS [124]),(eI 0),(eI 0)]),(eI 1),eB1])), [])]⟩
theorem hGramErrors114_ok : HOk Tryd.prog hGramErrors114 := hok_eq mmGramErrors_ok hmGramErrors114_ok folGramErrors (lf := 100000) (k := 1000) (by kernel_rfl)
def hmGramErrors115 : List HE := hGramErrors114 :: hmGramErrors114
theorem hmGramErrors115_ok : ∀ x ∈ hmGramErrors115, HOk Tryd.prog x := hmemo_cons hGramErrors114_ok hmGramErrors114_ok
def bgramErrors44 : Blk := ⟨[(eI 1),(eS [83]),(eI 4),(eI 1),(eI 3),(eS [58]),(eI 4),(eI 2),(eI 4),(eS [124]),(eI 4),(eI 4),(eI 2),(eS [97]),(eI 4),(eI 6),(eI 4),(eS [124]),(eI 4),(eI 8)],81,[(4,20),(3,16),(2,12),(1,8),(0,4)],5,0,false,4,none⟩
def hGramErrors115 : HE := ⟨44, [(eS [83,58,32,124,32,97,32,124]),(eI 4)], [], [((.val (.tup [(.sl 0 4 0 5 none 4),(eI 0)])), [bgramErrors44])]⟩
theorem hGramErrors115_ok : HOk Tryd.prog hGramErrors115 := hok_eq mmGramErrors_ok hmGramErrors115_ok folGramErrors (lf := 100000) (k := 1000) (by kernel_rfl)
def hmGramErrors116 : List HE := hGramErrors115 :: hmGramErrors115
theorem hmGramErrors116_ok : ∀ x ∈ hmGramErrors116, HOk Tryd.prog x := hmemo_cons hGramErrors115_ok hmGramErrors115_ok
def bgramErrors45 : Blk := ⟨[(eI 5),(eS []),(eI 1),(eI 1),(eI 5),(eS []),(eI 2),(eI 1),(eI 5),(eS []),(eI 3),(eI 1),(eI 1),(eS [83]),(eI 4),(eI 1),(eI 3),(eS [58]),(eI 4),(eI 2),(eI 4),(eS [124]),(eI 4),(eI 4),(eI 2),(eS [97]),(eI 4),(eI 6),(eI 4),(eS [124]),(eI 4),(eI 8),(eI 5),(eS []),(eI 4),(eI 9)],81,[(4,36),(3,32),(2,12),(1,8),(0,4)],5,0,false,4,none⟩
def hGramErrors116 : HE := ⟨19, [(eS [10,10,10,83,58,32,124,32,97,32,124,10])], [], [((.val (.tup [(.sl 0 4 0 9 none 4),(eI 0),(eI 0),(eI 0)])), [bgramErrors45])]⟩
theorem hGramErrors116_ok : HOk Tryd.prog hGramErrors116 := hok_eq mmGramErrors_ok hmGramErrors116_ok folGramErrors (lf := 100000) (k := 1000) (by kernel_rfl)
def hmGramErrors117 : List HE := hGramErrors116 :: hmGramErrors116
theorem hmGramErrors117_ok : ∀ x ∈ hmGramErrors117, HOk Tryd.prog x := hmemo_cons hGramErrors116_ok hmGramErrors116_ok
def bgramErrors46 : Blk := ⟨[(.lit (.slice none 0 0)),(eI 4),(eS [124]),(eI 4),(eI 4),(.sl 2 0 0 1 none 4),(eI 2),(eS [97]),(eI 4),(eI 6),(.lit (.slice none 0 0)),(eI 5),(eS []),(eI 4),(eI 9)],91,[(2,15),(1,10),(0,5)],3,0,false,2,none⟩
def bgramErrors47 : Blk := ⟨[(eI 2),(eS [97]),(eI 4),(eI 6)],81,[(0,4)],1,0,false,0,none⟩
def hGramErrors117 : HE := ⟨48, [(.sl 0 4 12 6 none 4)], [bgramErrors45], [((.val (.agg [(eI 1),(eS [83]),(eI 4),(eI 1),(.sl 1 2 0 3 none 5)])), [bgramErrors46, bgramErrors47])]⟩
theorem hGramErrors117_ok : HOk Tryd.prog hGramErrors117 := hok_eq mmGramErrors_ok hmGramErrors117_ok folGramErrors (lf := 100000) (k := 1000) (by kernel_rfl)
def hmGramErrors118 : List HE := hGramErrors117 :: hmGramErrors117
theorem hmGramErrors118_ok : ∀ x ∈ hmGramErrors118, HOk Tryd.prog x := hmemo_cons hGramErrors117_ok hmGramErrors117_ok
def bgramErrors48 : Blk := ⟨[(.lit (.slice none 0 0)),(eI 4),(eS [124]),(eI 4),(eI 4),(.sl 3 0 0 1 none 4),(eI 2),(eS [97]),(eI 4),(eI 6),(.lit (.slice none 0 0)),(eI 5),(eS []),(eI 4),(eI 9)],91,[(2,15),(1,10),(0,5)],3,0,false,2,none⟩
def hGramErrors118 : HE := ⟨22, [(.sl 0 4 0 9 none 4)], [bgramErrors45], [((.val (.sl 1 0 0 1 none 5)), [bgramErrors37, bgramErrors48, bgramErrors47])]⟩
theorem hGramErrors118_ok : HOk Tryd.prog hGramErrors118 := hok_eq mmGramErrors_ok hmGramErrors118_ok folGramErrors (lf := 100000) (k := 1000) (by kernel_rfl)
def hmGramErrors119 : List HE := hGramErrors118 :: hmGramErrors118
theorem hmGramErrors119_ok : ∀ x ∈ hmGramErrors119, HOk Tryd.prog x := hmemo_cons hGramErrors118_ok hmGramErrors118_ok
def hGramErrors119 : HE := ⟨57, [(.lit (.slice none 0 0)),(.agg [(eI 100),(.lit (.slice none 0 0))])], [], [((.val eB0), [])]⟩
theorem hGramErrors119_ok : HOk Tryd.prog hGramErrors119 := hok_eq mmGramErrors_ok hmGramErrors119_ok folGramErrors (lf := 100000) (k := 1000) (by kernel_rfl)
def hmGramErrors120 : List HE := hGramErrors119 :: hmGramErrors119
theorem hmGramErrors120_ok : ∀ x ∈ hmGramErrors120, HOk Tryd.prog x := hmemo_cons hGramErrors119_ok hmGramErrors119_ok
def bgramErrors49 : Blk := ⟨[(eI 100),(.lit (.slice none 0 0))],41,[(0,2)],1,0,false,0,none⟩
def hGramErrors120 : HE := ⟨57, [(.sl 0 0 0 1 none 2),(.agg [(eI 100),(.sl 1 0 0 1 none 1)])], [bgramErrors49, bgramErrors39], [((.val eB0), [])]⟩
theorem hGramErrors120_ok : HOk Tryd.prog hGramErrors120 := hok_eq mmGramErrors_ok hmGramErrors120_ok folGramErrors (lf := 100000) (k := 1000) (by kernel_rfl)
def hmGramErrors121 : List HE := hGramErrors120 :: hmGramErrors120
theorem hmGramErrors121_ok : ∀ x ∈ hmGramErrors121, HOk Tryd.prog x := hmemo_cons hGramErrors120_ok hmGramErrors120_ok
def bgramErrors50 : Blk := ⟨[(eI 100),(.lit (.slice none 0 0)),(eI 100),(.sl 1 0 0 1 none 1)],41,[(1,4),(0,2)],2,0,false,1,none⟩
def hGramErrors121 : HE := ⟨57, [(.sl 0 1 0 2 none 2),(.agg [(eI 100),(.lit (.slice none 0 0))])], [bgramErrors50, bgramErrors39], [((.val eB1), [])]⟩
theorem hGramErrors121_ok : HOk Tryd.prog hGramErrors121 := hok_eq mmGramErrors_ok hmGramErrors121_ok folGramErrors (lf := 100000) (k := 1000) (by kernel_rfl)
def hmGramErrors122 : List HE := hGramErrors121 :: hmGramErrors121
theorem hmGramErrors122_ok : ∀ x ∈ hmGramErrors122, HOk Tryd.prog x := hmemo_cons hGramErrors121_ok hmGramErrors121_ok
def hGramErrors122 : HE := ⟨21, [(.sl 0 0 0 1 none 5)], [bgramErrors43, bgramErrors46, bgramErrors47], [((.panic (.iface 51 (.agg [(eI 4),(eI 9),(eI 4)]))), [])]⟩
theorem hGramErrors122_ok : HOk Tryd.prog hGramErrors122 := hok_eq mmGramErrors_ok hmGramErrors122_ok folGramErrors (lf := 100000) (k := 1000) (by kernel_rfl)
def hmGramErrors123 : List HE := hGramErrors122 :: hmGramErrors122
theorem hmGramErrors123_ok : ∀ x ∈ hmGramErrors123, HOk Tryd.prog x := hmemo_cons hGramErrors122_ok hmGramErrors122_ok
def hGramErrors123 : HE := ⟨8, [(eS [10,10,10,83,58,32,124,32,97,32,124,10])], [], [((.val (.tup [(.agg [(.lit (.slice none 0 0)),(.lit (.slice none 0 0)),(.lit (.slice none 0 0))]),(eI 4),(eI 9),(eI 4)])), [])]⟩
theorem hGramErrors123_ok : HOk Tryd.prog hGramErrors123 := hok_eq mmGramErrors_ok hmGramErrors123_ok folGramErrors (lf := 100000) (k := 1000) (by kernel_rfl)
def hmGramErrors124 : List HE := hGramErrors123 :: hmGramErrors123
theorem hmGramErrors124_ok : ∀ x ∈ hmGramErrors124, HOk Tryd.prog x := hmemo_cons hGramErrors123_ok hmGramErrors123_ok
def hGramErrors124 : HE := ⟨77, [(eS [83,58,32,124,32,124])], [], [((.val (eI 1)), [])]⟩
theorem hGramErrors124_ok : HOk Tryd.prog hGramErrors124 := hok_eq mmGramErrors_ok hmGramErrors124_ok folGramErrors (lf := 100000) (k := 1000) (by kernel_rfl)
def hmGramErrors125 : List HE := hGramErrors124 :: hmGramErrors124
theorem hmGramErrors125_ok : ∀ x ∈ hmGramErrors125, HOk Tryd.prog x := hmemo_cons hGramErrors124_ok hmGramErrors124_ok
def hGramErrors125 : HE := ⟨64, [(eS [83,58,32,124,32,124])], [], [((.val (.tup [(.agg [(eI 1),(eS [83]),(eI 0),(eI 0)]),(eI 1),eB1])), [])]⟩
theorem hGramErrors125_ok : HOk Tryd.prog hGramErrors125 := hok_eq mmGramErrors_ok hmGramErrors125_ok folGramErrors (lf := 100000) (k := 1000) (by kernel_rfl)
def hmGramErrors126 : List HE := hGramErrors125 :: hmGramErrors125
theorem hmGramErrors126_ok : ∀ x ∈ hmGramErrors126, HOk Tryd.prog x := hmemo_cons hGramErrors125_ok hmGramErrors125_ok
def hGramErrors126 : HE := ⟨64, [(eS [58,32,124,32,124])], [], [((.val (.tup [(.agg [(eI 3),(eS [58]),(eI 0),(eI 0)]),(eI 1),eB1])), [])]⟩
theorem hGramErrors126_ok : HOk Tryd.prog hGramErrors126 := hok_eq mmGramErrors_ok hmGramErrors126_ok folGramErrors (lf := 100000) (k := 1000) (by kernel_rfl)
def hmGramErrors127 : List HE := hGramErrors126 :: hmGramErrors126
theorem hmGramErrors127_ok : ∀ x ∈ hmGramErrors127, HOk Tryd.prog x := hmemo_cons hGramErrors126_ok hmGramErrors126_ok
def hGramErrors127 : HE := ⟨64, [(eS [124,32,124])], [], [((.val (.tup [(.agg [(eI 4),(eS [124]),(eI 0),(eI 0)]),(eI 1),eB1])), [])]⟩
theorem hGramErrors127_ok : HOk Tryd.prog hGramErrors127 := hok_eq mmGramErrors_ok hmGramErrors127_ok folGramErrors (lf := 100000) (k := 1000) (by kernel_rfl)
def hmGramErrors128 : List HE := hGramErrors127 :: hmGramErrors127
theorem hmGramErrors128_ok : ∀ x ∈ hmGramErrors128, HOk Tryd.prog x := hmemo_cons hGramErrors127_ok hmGramErrors127_ok
def bgramErrors51 : Blk := ⟨[(eI 1),(eS [83]),(eI 4),(eI 1),(eI 3),(eS [58]),(eI 4),(eI 2),(eI 4),(eS [124]),(eI 4),(eI 4),(eI 4),(eS [124]),(eI 4),(eI 6)],81,[(3,16),(2,12),(1,8),(0,4)],4,0,false,3,none⟩
def hGramErrors128 : HE := ⟨44, [(eS [83,58,32,124,32,124]),(eI 4)], [], [((.val (.tup [(.sl 0 3 0 4 none 4),(eI 0)])), [bgramErrors51])]⟩
theorem hGramErrors128_ok : HOk Tryd.prog hGramErrors128 := hok_eq mmGramErrors_ok hmGramErrors128_ok folGramErrors (lf := 100000) (k := 1000) (by kernel_rfl)
def hmGramErrors129 : List HE := hGramErrors128 :: hmGramErrors128
theorem hmGramErrors129_ok : ∀ x ∈ hmGramErrors129, HOk Tryd.prog x := hmemo_cons hGramErrors128_ok hmGramErrors128_ok
def bgramErrors52 : Blk := ⟨[(eI 5),(eS []),(eI 1),(eI 1),(eI 5),(eS []),(eI 2),(eI 1),(eI 5),(eS []),(eI 3),(eI 1),(eI 1),(eS [83]),(eI 4),(eI 1),(eI 3),(eS [58]),(eI 4),(eI 2),(eI 4),(eS [124]),(eI 4),(eI 4),(eI 4),(eS [124]),(eI 4),(eI 6),(eI 5),(eS []),(eI 4),(eI 7)],81,[(4,32),(3,28),(2,12),(1,8),(0,4)],5,0,false,4,none⟩
def hGramErrors129 : HE := ⟨19, [(eS [10,10,10,83,58,32,124,32,124,10])], [], [((.val (.tup [(.sl 0 4 0 8 none 4),(eI 0),(eI 0),(eI 0)])), [bgramErrors52])]⟩
theorem hGramErrors129_ok : HOk Tryd.prog hGramErrors129 := hok_eq mmGramErrors_ok hmGramErrors129_ok folGramErrors (lf := 100000) (k := 1000) (by kernel_rfl)
def hmGramErrors130 : List HE := hGramErrors129 :: hmGramErrors129
theorem hmGramErrors130_ok : ∀ x ∈ hmGramErrors130, HOk Tryd.prog x := hmemo_cons hGramErrors129_ok hmGramErrors129_ok
def bgramErrors53 : Blk := ⟨[(.lit (.slice none 0 0)),(eI 4),(eS [124]),(eI 4),(eI 4),(.lit (.slice none 0 0)),(eI 4),(eS [124]),(eI 4),(eI 6),(.lit (.slice none 0 0)),(eI 5),(eS []),(eI 4),(eI 7)],91,[(2,15),(1,10),(0,5)],3,0,false,2,none⟩
def hGramErrors130 : HE := ⟨48, [(.sl 0 4 12 5 none 4)], [bgramErrors52], [((.val (.agg [(eI 1),(eS [83]),(eI 4),(eI 1),(.sl 1 2 0 3 none 5)])), [bgramErrors53])]⟩
theorem hGramErrors130_ok : HOk Tryd.prog hGramErrors130 := hok_eq mmGramErrors_ok hmGramErrors130_ok folGramErrors (lf := 100000) (k := 1000) (by kernel_rfl)
def hmGramErrors131 : List HE := hGramErrors130 :: hmGramErrors130
theorem hmGramErrors131_ok : ∀ x ∈ hmGramErrors131, HOk Tryd.prog x := hmemo_cons hGramErrors130_ok hmGramErrors130_ok
def hGramErrors131 : HE := ⟨22, [(.sl 0 4 0 8 none 4)], [bgramErrors52], [((.val (.sl 1 0 0 1 none 5)), [bgramErrors37, bgramErrors53])]⟩
theorem hGramErrors131_ok : HOk Tryd.prog hGramErrors131 := hok_eq mmGramErrors_ok hmGramErrors131_ok folGramErrors (lf := 100000) (k := 1000) (by kernel_rfl)
def hmGramErrors132 : List HE := hGramErrors131 :: hmGramErrors131
theorem hmGramErrors132_ok : ∀ x ∈ hmGramErrors132, HOk Tryd.prog x := hmemo_cons hGramErrors131_ok hmGramErrors131_ok
def hGramErrors132 : HE := ⟨57, [(.sl 0 0 0 1 none 2),(.agg [(eI 100),(.lit (.slice none 0 0))])], [bgramErrors49], [((.val eB1), [])]⟩
theorem hGramErrors132_ok : HOk Tryd.prog hGramErrors132 := hok_eq mmGramErrors_ok hmGramErrors132_ok folGramErrors (lf := 100000) (k := 1000) (by kernel_rfl)
def hmGramErrors133 : List HE := hGramErrors132 :: hmGramErrors132
theorem hmGramErrors133_ok : ∀ x ∈ hmGramErrors133, HOk Tryd.prog x := hmemo_cons hGramErrors132_ok hmGramErrors132_ok
def hGramErrors133 : HE := ⟨21, [(.sl 0 0 0 1 none 5)], [bgramErrors43, bgramErrors53], [((.panic (.iface 51 (.agg [(eI 4),(eI 6),(eI 4)]))), [])]⟩
theorem hGramErrors133_ok : HOk Tryd.prog hGramErrors133 := hok_eq mmGramErrors_ok hmGramErrors133_ok folGramErrors (lf := 100000) (k := 1000) (by kernel_rfl)
def hmGramErrors134 : List HE := hGramErrors133 :: hmGramErrors133
theorem hmGramErrors134_ok : ∀ x ∈ hmGramErrors134, HOk Tryd.prog x := hmemo_cons hGramErrors133_ok hmGramErrors133_ok
def hGramErrors134 : HE := ⟨8, [(eS [10,10,10,83,58,32,124,32,124,10])], [], [((.val (.tup [(.agg [(.lit (.slice none 0 0)),(.lit (.slice none 0 0)),(.lit (.slice none 0 0))]),(eI 4),(eI 6),(eI 4)])), [])]⟩
theorem hGramErrors134_ok : HOk Tryd.prog hGramErrors134 := hok_eq mmGramErrors_ok hmGramErrors134_ok folGramErrors (lf := 100000) (k := 1000) (by kernel_rfl)
def hmGramErrors135 : List HE := hGramErrors134 :: hmGramErrors134
theorem hmGramErrors135_ok : ∀ x ∈ hmGramErrors135, HOk Tryd.prog x := hmemo_cons hGramErrors134_ok hmGramErrors134_ok
def hGramErrors135 : HE := ⟨77, [(eS [83,58,32,97,32,98,32,99,32,100,32,101,32,102,32,97])], [], [((.val (eI 1)), [])]⟩
theorem hGramErrors135_ok : HOk Tryd.prog hGramErrors135 := hok_eq mmGramErrors_ok hmGramErrors135_ok folGramErrors (lf := 100000) (k := 1000) (by kernel_rfl)
def hmGramErrors136 : List HE := hGramErrors135 :: hmGramErrors135
theorem hmGramErrors136_ok : ∀ x ∈ hmGramErrors136, HOk Tryd.prog x := hmemo_cons hGramErrors135_ok hmGramErrors135_ok
def hGramErrors136 : HE := ⟨64, [(eS [83,58,32,97,32,98,32,99,32,100,32,101,32,102,32,97])], [], [((.val (.tup [(.agg [(eI 1),(eS [83]),(eI 0),(eI 0)]),(eI 1),eB1])), [])]⟩
theorem hGramErrors136_ok : HOk Tryd.prog hGramErrors136 := hok_eq mmGramErrors_ok hmGramErrors136_ok folGramErrors (lf := 100000) (k := 1000) (by kernel_rfl)
def hmGramErrors137 : List HE := hGramErrors136 :: hmGramErrors136
theorem hmGramErrors137_ok : ∀ x ∈ hmGramErrors137, HOk Tryd.prog x := hmemo_cons hGramErrors136_ok hmGramErrors136_ok
def hGramErrors137 : HE := ⟨64, [(eS [58,32,97,32,98,32,99,32,100,32,101,32,102,32,97])], [], [((.val (.tup [(.agg [(eI 3),(eS [58]),(eI 0),(eI 0)]),(eI 1),eB1])), [])]⟩
theorem hGramErrors137_ok : HOk Tryd.prog hGramErrors137 := hok_eq mmGramErrors_ok hmGramErrors137_ok folGramErrors (lf := 100000) (k := 1000) (by kernel_rfl)
def hmGramErrors138 : List HE := hGramErrors137 :: hmGramErrors137
theorem hmGramErrors138_ok : ∀ x ∈ hmGramErrors138, HOk Tryd.prog x := hmemo_cons hGramErrors137_ok hmGramErrors137_ok
def hGramErrors138 : HE := ⟨77, [(eS [97,32,98,32,99,32,100,32,101,32,102,32,97])], [], [((.val (eI 1)), [])]⟩
theorem hGramErrors138_ok : HOk Tryd.prog hGramErrors138 := hok_eq mmGramErrors_ok hmGramErrors138_ok folGramErrors (lf := 100000) (k := 1000) (by kernel_rfl)
def hmGramErrors139 : List HE := hGramErrors138 :: hmGramErrors138
theorem hmGramErrors139_ok : ∀ x ∈ hmGramErrors139, HOk Tryd.prog x := hmemo_cons hGramErrors138_ok hmGramErrors138_ok
def hGramErrors139 : HE := ⟨64, [(eS [97,32,98,32,99,32,100,32,101,32,102,32,97])], [], [((.val (.tup [(.agg [(eI 2),(eS [97]),(eI 0),(eI 0)]),(eI 1),eB1])), [])]⟩
theorem hGramErrors139_ok : HOk Tryd.prog hGramErrors139 := hok_eq mmGramErrors_ok hmGramErrors139_ok folGramErrors (lf := 100000) (k := 1000) (by kernel_rfl)
def hmGramErrors140 : List HE := hGramErrors139 :: hmGramErrors139
theorem hmGramErrors140_ok : ∀ x ∈ hmGramErrors140, HOk Tryd.prog x := hmemo_cons hGramErrors139_ok hmGramErrors139_ok
def hGramErrors140 : HE := ⟨77, [(eS [98,32,99,32,100,32,101,32,102,32,97])], [], [((.val (eI 1)), [])]⟩
theorem hGramErrors140_ok : HOk Tryd.prog hGramErrors140 := hok_eq mmGramErrors_ok hmGramErrors140_ok folGramErrors (lf := 100000) (k := 1000) (by kernel_rfl)
def hmGramErrors141 : List HE := hGramErrors140 :: hmGramErrors140
theorem hmGramErrors141_ok : ∀ x ∈ hmGramErrors141, HOk Tryd.prog x := hmemo_cons hGramErrors140_ok hmGramErrors140_ok
def hGramErrors141 : HE := ⟨64, [(eS [98,32,99,32,100,32,101,32,102,32,97])], [], [((.val (.tup [(.agg [(eI 2),(eS [98]),(eI 0),(eI 0)]),(eI 1),eB1])), [])]⟩
theorem hGramErrors141_ok : HOk Tryd.prog hGramErrors141 := hok_eq mmGramErrors_ok hmGramErrors141_ok folGramErrors (lf := 100000) (k := 1000) (by kernel_rfl)
def hmGramErrors142 : List HE := hGramErrors141 :: hmGramErrors141
theorem hmGramErrors142_ok : ∀ x ∈ hmGramErrors142, HOk Tryd.prog x := hmemo_cons hGramErrors141_ok hmGramErrors141_ok
def hGramErrors142 : HE := ⟨77, [(eS [99,32,100,32,101,32,102,32,97])], [], [((.val (eI 1)), [])]⟩
theorem hGramErrors142_ok : HOk Tryd.prog hGramErrors142 := hok_eq mmGramErrors_ok hmGramErrors142_ok folGramErrors (lf := 100000) (k := 1000) (by kernel_rfl)
def hmGramErrors143 : List HE := hGramErrors142 :: hmGramErrors142
theorem hmGramErrors143_ok : ∀ x ∈ hmGramErrors143, HOk Tryd.prog x := hmemo_cons hGramErrors142_ok hmGramErrors142_ok
def hGramErrors143 : HE := ⟨53, [(eS [99])], [], [((.val eB1), [])]⟩
theorem hGramErrors143_ok : HOk Tryd.prog hGramErrors143 := hok_eq mmGramErrors_ok hmGramErrors143_ok folGramErrors (lf := 100000) (k := 1000) (by kernel_rfl)
def hmGramErrors144 : List HE := hGramErrors143 :: hmGramErrors143
theorem hmGramErrors144_ok : ∀ x ∈ hmGramErrors144, HOk Tryd.prog x := hmemo_cons hGramErrors143_ok hmGramErrors143_ok
def hGramErrors144 : HE := ⟨64, [(eS [99,32,100,32,101,32,102,32,97])], [], [((.val (.tup [(.agg [(eI 2),(eS [99]),(eI 0),(eI 0)]),(eI 1),eB1])), [])]⟩
theorem hGramErrors144_ok : HOk Tryd.prog hGramErrors144 := hok_eq mmGramErrors_ok hmGramErrors144_ok folGramErrors (lf := 100000) (k := 1000) (by kernel_rfl)
def hmGramErrors145 : List HE := hGramErrors144 :: hmGramErrors144
theorem hmGramErrors145_ok : ∀ x ∈ hmGramErrors145, HOk Tryd.prog x := hmemo_cons hGramErrors144_ok hmGramErrors144_ok
def hGramErrors145 : HE := ⟨77, [(eS [100,32,101,32,102,32,97])], [], [((.val (eI 1)), [])]⟩
theorem hGramErrors145_ok : HOk Tryd.prog hGramErrors145 := hok_eq mmGramErrors_ok hmGramErrors145_ok folGramErrors (lf := 100000) (k := 1000) (by kernel_rfl)
def hmGramErrors146 : List HE := hGramErrors145 :: hmGramErrors145
theorem hmGramErrors146_ok : ∀ x ∈ hmGramErrors146, HOk Tryd.prog x := hmemo_cons hGramErrors145_ok hmGramErrors145_ok
def hGramErrors146 : HE := ⟨53, [(eS [100])], [], [((.val eB1), [])]⟩
theorem hGramErrors146_ok : HOk Tryd.prog hGramErrors146 := hok_eq mmGramErrors_ok hmGramErrors146_ok folGramErrors (lf := 100000) (k := 1000) (by kernel_rfl)
def hmGramErrors147 : List HE := hGramErrors146 :: hmGramErrors146
theorem hmGramErrors147_ok : ∀ x ∈ hmGramErrors147, HOk Tryd.prog x := hmemo_cons hGramErrors146_ok hmGramErrors146_ok
def hGramErrors147 : HE := ⟨64, [(eS [100,32,101,32,102,32,97])], [], [((.val (.tup [(.agg [(eI 2),(eS [100]),(eI 0),(eI 0)]),(eI 1),eB1])), [])]⟩
theorem hGramErrors147_ok : HOk Tryd.prog hGramErrors147 := hok_eq mmGramErrors_ok hmGramErrors147_ok folGramErrors (lf := 100000) (k := 1000) (by kernel_rfl)
def hmGramErrors148 : List HE := hGramErrors147 :: hmGramErrors147
theorem hmGramErrors148_ok : ∀ x ∈ hmGramErrors148, HOk Tryd.prog x := hmemo_cons hGramErrors147_ok hmGramErrors147_ok
def hGramErrors148 : HE := ⟨77, [(eS [101,32,102,32,97])], [], [((.val (eI 1)), [])]⟩
theorem hGramErrors148_ok : HOk Tryd.prog hGramErrors148 := hok_eq mmGramErrors_ok hmGramErrors148_ok folGramErrors (lf := 100000) (k := 1000) (by kernel_rfl)
def hmGramErrors149 : List HE := hGramErrors148 :: hmGramErrors148
theorem hmGramErrors149_ok : ∀ x ∈ hmGramErrors149, HOk Tryd.prog x := hmemo_cons hGramErrors148_ok hmGramErrors148_ok
def hGramErrors149 : HE := ⟨53, [(eS [101])], [], [((.val eB1), [])]⟩
theorem hGramErrors149_ok : HOk Tryd.prog hGramErrors149 := hok_eq mmGramErrors_ok hmGramErrors149_ok folGramErrors (lf := 100000) (k := 1000) (by kernel_rfl)
def hmGramErrors150 : List HE := hGramErrors149 :: hmGramErrors149
theorem hmGramErrors150_ok : ∀ x ∈ hmGramErrors150, HOk Tryd.prog x := hmemo_cons hGramErrors149_ok hmGramErrors149_ok
def hGramErrors150 : HE := ⟨64, [(eS [101,32,102,32,97])], [], [((.val (.tup [(.agg [(eI 2),(eS [101]),(eI 0),(eI 0)]),(eI 1),eB1])), [])]⟩
theorem hGramErrors150_ok : HOk Tryd.prog hGramErrors150 := hok_eq mmGramErrors_ok hmGramErrors150_ok folGramErrors (lf := 100000) (k := 1000) (by kernel_rfl)
def hmGramErrors151 : List HE := hGramErrors150 :: hmGramErrors150
theorem hmGramErrors151_ok : ∀ x ∈ hmGramErrors151, HOk Tryd.prog x := hmemo_cons hGramErrors150_ok hmGramErrors150_ok
def hGramErrors151 : HE := ⟨77, [(eS [102,32,97])], [], [((.val (eI 1)), [])]⟩
theorem hGramErrors151_ok : HOk Tryd.prog hGramErrors151 := hok_eq mmGramErrors_ok hmGramErrors151_ok folGramErrors (lf := 100000) (k := 1000) (by kernel_rfl)
def hmGramErrors152 : List HE := hGramErrors151 :: hmGramErrors151
theorem hmGramErrors152_ok : ∀ x ∈ hmGramErrors152, HOk Tryd.prog x := hmemo_cons hGramErrors151_ok hmGramErrors151_ok
def hGramErrors152 : HE := ⟨53, [(eS [102])], [], [((.val eB1), [])]⟩
theorem hGramErrors152_ok : HOk Tryd.prog hGramErrors152 := hok_eq mmGramErrors_ok hmGramErrors152_ok folGramErrors (lf := 100000) (k := 1000) (by kernel_rfl)
def hmGramErrors153 : List HE := hGramErrors152 :: hmGramErrors152
theorem hmGramErrors153_ok : ∀ x ∈ hmGramErrors153, HOk Tryd.prog x := hmemo_cons hGramErrors152_ok hmGramErrors152_ok
def hGramErrors153 : HE := ⟨64, [(eS [102,32,97])], [], [((.val (.tup [(.agg [(eI 2),(eS [102]),(eI 0),(eI 0)]),(eI 1),eB1])), [])]⟩
theorem hGramErrors153_ok : HOk Tryd.prog hGramErrors153 := hok_eq mmGramErrors_ok hmGramErrors153_ok folGramErrors (lf := 100000) (k := 1000) (by kernel_rfl)
def hmGramErrors154 : List HE := hGramErrors153 :: hmGramErrors153
theorem hmGramErrors154_ok : ∀ x ∈ hmGramErrors154, HOk Tryd.prog x := hmemo_cons hGramErrors153_ok hmGramErrors153_ok
def bgramErrors54 : Blk := ⟨[(eI 1),(eS [83]),(eI 4),(eI 1),(eI 3),(eS [58]),(eI 4),(eI 2),(eI 2),(eS [97]),(eI 4),(eI 4),(eI 2),(eS [98]),(eI 4),(eI 6),(eI 2),(eS [99]),(eI 4),(eI 8),(eI 2),(eS [100]),(eI 4),(eI 10),(eI 2),(eS [101]),(eI 4),(eI 12),(eI 2),(eS [102]),(eI 4),(eI 14),(eI 2),(eS [97]),(eI 4),(eI 16)],81,[(8,36),(7,32),(6,28),(5,24),(4,20),(3,16),(2,12),(1,8),(0,4)],9,0,false,8,none⟩
def hGramErrors154 : HE := ⟨44, [(eS [83,58,32,97,32,98,32,99,32,100,32,101,32,102,32,97]),(eI 4)], [], [((.val (.tup [(.sl 0 8 0 9 none 4),(eI 0)])), [bgramErrors54])]⟩
theorem hGramErrors154_ok : HOk Tryd.prog hGramErrors154 := hok_eq mmGramErrors_ok hmGramErrors154_ok folGramErrors (lf := 100000) (k := 1000) (by kernel_rfl)
def hmGramErrors155 : List HE := hGramErrors154 :: hmGramErrors154
theorem hmGramErrors155_ok : ∀ x ∈ hmGramErrors155, HOk Tryd.prog x := hmemo_cons hGramErrors154_ok hmGramErrors154_ok
def bgramErrors55 : Blk := ⟨[(eI 5),(eS []),(eI 1),(eI 1),(eI 5),(eS []),(eI 2),(eI 1),(eI 5),(eS []),(eI 3),(eI 1),(eI 1),(eS [83]),(eI 4),(eI 1),(eI 3),(eS [58]),(eI 4),(eI 2),(eI 2),(eS [97]),(eI 4),(eI 4),(eI 2),(eS [98]),(eI 4),(eI 6),(eI 2),(eS [99]),(eI 4),(eI 8),(eI 2),(eS [100]),(eI 4),(eI 10),(eI 2),(eS [101]),(eI 4),(eI 12),(eI 2),(eS [102]),(eI 4),(eI 14),(eI 2),(eS [97]),(eI 4),(eI 16),(eI 5),(eS []),(eI 4),(eI 17)],81,[(4,52),(3,48),(2,12),(1,8),(0,4)],5,0,false,4,none⟩
def tgramErrors2 : List Nat := [10,10,10,83,58,32,97,32,98,32,99,32,100,32,101,32,102,32,97,10]
def hGramErrors155 : HE := ⟨19, [(eT tgramErrors2)], [], [((.val (.tup [(.sl 0 4 0 13 none 4),(eI 0),(eI 0),(eI 0)])), [bgramErrors55])]⟩
theorem hGramErrors155_ok : HOk Tryd.prog hGramErrors155 := hok_eq mmGramErrors_ok hmGramErrors155_ok folGramErrors (lf := 100000) (k := 1000) (by kernel_rfl)
def hmGramErrors156 : List HE := hGramErrors155 :: hmGramErrors155
theorem hmGramErrors156_ok : ∀ x ∈ hmGramErrors156, HOk Tryd.prog x := hmemo_cons hGramErrors155_ok hmGramErrors155_ok
def bgramErrors56 : Blk := ⟨[(.sl 2 6 0 7 none 4),(eI 2),(eS [97]),(eI 4),(eI 4)],91,[(0,5)],1,0,false,0,none⟩
def bgramErrors57 : Blk := ⟨[(eI 2),(eS [97]),(eI 4),(eI 4),(eI 2),(eS [98]),(eI 4),(eI 6),(eI 2),(eS [99]),(eI 4),(eI 8),(eI 2),(eS [100]),(eI 4),(eI 10),(eI 2),(eS [101]),(eI 4),(eI 12),(eI 2),(eS [102]),(eI 4),(eI 14),(eI 2),(eS [97]),(eI 4),(eI 16)],81,[(6,28),(5,24),(4,20),(3,16),(2,12),(1,8),(0,4)],7,0,false,6,none⟩
def hGramErrors156 : HE := ⟨48, [(.sl 0 4 12 10 none 4)], [bgramErrors55], [((.val (.agg [(eI 1),(eS [83]),(eI 4),(eI 1),(.sl 1 0 0 1 none 5)])), [bgramErrors56, bgramErrors57])]⟩
theorem hGramErrors156_ok : HOk Tryd.prog hGramErrors156 := hok_eq mmGramErrors_ok hmGramErrors156_ok folGramErrors (lf := 100000) (k := 1000) (by kernel_rfl)
def hmGramErrors157 : List HE := hGramErrors156 :: hmGramErrors156
theorem hmGramErrors157_ok : ∀ x ∈ hmGramErrors157, HOk Tryd.prog x := hmemo_cons hGramErrors156_ok hmGramErrors156_ok
def bgramErrors58 : Blk := ⟨[(.sl 3 6 0 7 none 4),(eI 2),(eS [97]),(eI 4),(eI 4)],91,[(0,5)],1,0,false,0,none⟩
def hGramErrors157 : HE := ⟨22, [(.sl 0 4 0 13 none 4)], [bgramErrors55], [((.val (.sl 1 0 0 1 none 5)), [bgramErrors28, bgramErrors58, bgramErrors57])]⟩
theorem hGramErrors157_ok : HOk Tryd.prog hGramErrors157 := hok_eq mmGramErrors_ok hmGramErrors157_ok folGramErrors (lf := 100000) (k := 1000) (by kernel_rfl)
def hmGramErrors158 : List HE := hGramErrors157 :: hmGramErrors157
theorem hmGramErrors158_ok : ∀ x ∈ hmGramErrors158, HOk Tryd.prog x := hmemo_cons hGramErrors157_ok hmGramErrors157_ok
def hGramErrors158 : HE := ⟨21, [(.sl 0 0 0 1 none 5)], [bgramErrors30, bgramErrors56, bgramErrors57], [((.panic (.iface 51 (.agg [(eI 4),(eI 16),(eI 5)]))), [])]⟩
theorem hGramErrors158_ok : HOk Tryd.prog hGramErrors158 := hok_eq mmGramErrors_ok hmGramErrors158_ok folGramErrors (lf := 100000) (k := 1000) (by kernel_rfl)
def hmGramErrors159 : List HE := hGramErrors158 :: hmGramErrors158
theorem hmGramErrors159_ok : ∀ x ∈ hmGramErrors159, HOk Tryd.prog x := hmemo_cons hGramErrors158_ok hmGramErrors158_ok
def hGramErrors159 : HE := ⟨8, [(eT tgramErrors2)], [], [((.val (.tup [(.agg [(.lit (.slice none 0 0)),(.lit (.slice none 0 0)),(.lit (.slice none 0 0))]),(eI 4),(eI 16),(eI 5)])), [])]⟩
theorem hGramErrors159_ok : HOk Tryd.prog hGramErrors159 := hok_eq mmGramErrors_ok hmGramErrors159_ok folGramErrors (lf := 100000) (k := 1000) (by kernel_rfl)
def hmGramErrors160 : List HE := hGramErrors159 :: hmGramErrors159
theorem hmGramErrors160_ok : ∀ x ∈ hmGramErrors160, HOk Tryd.prog x := hmemo_cons hGramErrors159_ok hmGramErrors159_ok
def hGramErrors160 : HE := ⟨77, [(eS [83,58,32,97,32,98,32,99,32,100,32,101,32,102,32,84])], [], [((.val (eI 1)), [])]⟩
theorem hGramErrors160_ok : HOk Tryd.prog hGramErrors160 := hok_eq mmGramErrors_ok hmGramErrors160_ok folGramErrors (lf := 100000) (k := 1000) (by kernel_rfl)
def hmGramErrors161 : List HE := hGramErrors160 :: hmGramErrors160
theorem hmGramErrors161_ok : ∀ x ∈ hmGramErrors161, HOk Tryd.prog x := hmemo_cons hGramErrors160_ok hmGramErrors160_ok
def hGramErrors161 : HE := ⟨64, [(eS [83,58,32,97,32,98,32,99,32,100,32,101,32,102,32,84])], [], [((.val (.tup [(.agg [(eI 1),(eS [83]),(eI 0),(eI 0)]),(eI 1),eB1])), [])]⟩
theorem hGramErrors161_ok : HOk Tryd.prog hGramErrors161 := hok_eq mmGramErrors_ok hmGramErrors161_ok folGramErrors (lf := 100000) (k := 1000) (by kernel_rfl)
def hmGramErrors162 : List HE := hGramErrors161 :: hmGramErrors161
theorem hmGramErrors162_ok : ∀ x ∈ hmGramErrors162, HOk Tryd.prog x := hmemo_cons hGramErrors161_ok hmGramErrors161_ok
def hGramErrors162 : HE := ⟨64, [(eS [58,32,97,32,98,32,99,32,100,32,101,32,102,32,84])], [], [((.val (.tup [(.agg [(eI 3),(eS [58]),(eI 0),(eI 0)]),(eI 1),eB1])), [])]⟩
theorem hGramErrors162_ok : HOk Tryd.prog hGramErrors162 := hok_eq mmGramErrors_ok hmGramErrors162_ok folGramErrors (lf := 100000) (k := 1000) (by kernel_rfl)
def hmGramErrors163 : List HE := hGramErrors162 :: hmGramErrors162
theorem hmGramErrors163_ok : ∀ x ∈ hmGramErrors163, HOk Tryd.prog x := hmemo_cons hGramErrors162_ok hmGramErrors162_ok
def hGramErrors163 : HE := ⟨77, [(eS [97,32,98,32,99,32,100,32,101,32,102,32,84])], [], [((.val (eI 1)), [])]⟩
theorem hGramErrors163_ok : HOk Tryd.prog hGramErrors163 := hok_eq mmGramErrors_ok hmGramErrors163_ok folGramErrors (lf := 100000) (k := 1000) (by kernel_rfl)
def hmGramErrors164 : List HE := hGramErrors163 :: hmGramErrors163
theorem hmGramErrors164_ok : ∀ x ∈ hmGramErrors164, HOk Tryd.prog x := hmemo_cons hGramErrors163_ok hmGramErrors163_ok
def hGramErrors164 : HE := ⟨64, [(eS [97,32,98,32,99,32,100,32,101,32,102,32,84])], [], [((.val (.tup [(.agg [(eI 2),(eS [97]),(eI 0),(eI 0)]),(eI 1),eB1])), [])]⟩
theorem hGramErrors164_ok : HOk Tryd.prog hGramErrors164 := hok_eq mmGramErrors_ok hmGramErrors164_ok folGramErrors (lf := 100000) (k := 1000) (by kernel_rfl)
def hmGramErrors165 : List HE := hGramErrors164 :: hmGramErrors164
theorem hmGramErrors165_ok : ∀ x ∈ hmGramErrors165, HOk Tryd.prog x := hmemo_cons hGramErrors164_ok hmGramErrors164_ok
def hGramErrors165 : HE := ⟨77, [(eS [98,32,99,32,100,32,101,32,102,32,84])], [], [((.val (eI 1)), [])]⟩
theorem hGramErrors165_ok : HOk Tryd.prog hGramErrors165 := hok_eq mmGramErrors_ok hmGramErrors165_ok folGramErrors (lf := 100000) (k := 1000) (by kernel_rfl)
def hmGramErrors166 : List HE := hGramErrors165 :: hmGramErrors165
theorem hmGramErrors166_ok : ∀ x ∈ hmGramErrors166, HOk Tryd.prog x := hmemo_cons hGramErrors165_ok hmGramErrors165_ok
def hGramErrors166 : HE := ⟨64, [(eS [98,32,99,32,100,32,101,32,102,32,84])], [], [((.val (.tup [(.agg [(eI 2),(eS [98]),(eI 0),(eI 0)]),(eI 1),eB1])), [])]⟩
theorem hGramErrors166_ok : HOk Tryd.prog hGramErrors166 := hok_eq mmGramErrors_ok hmGramErrors166_ok folGramErrors (lf := 100000) (k := 1000) (by kernel_rfl)
def hmGramErrors167 : List HE := hGramErrors166 :: hmGramErrors166
theorem hmGramErrors167_ok : ∀ x ∈ hmGramErrors167, HOk Tryd.prog x := hmemo_cons hGramErrors166_ok hmGramErrors166_ok
def hGramErrors167 : HE := ⟨77, [(eS [99,32,100,32,101,32,102,32,84])], [], [((.val (eI 1)), [])]⟩
theorem hGramErrors167_ok : HOk Tryd.prog hGramErrors167 := hok_eq mmGramErrors_ok hmGramErrors167_ok folGramErrors (lf := 100000) (k := 1000) (by kernel_rfl)
def hmGramErrors168 : List HE := hGramErrors167 :: hmGramErrors167
theorem hmGramErrors168_ok : ∀ x ∈ hmGramErrors168, HOk Tryd.prog x := hmemo_cons hGramErrors167_ok hmGramErrors167_ok
def hGramErrors168 : HE := ⟨64, [(eS [99,32,100,32,101,32,102,32,84])], [], [((.val (.tup [(.agg [(eI 2),(eS [99]),(eI 0),(eI 0)]),(eI 1),eB1])), [])]⟩
theorem hGramErrors168_ok : HOk Tryd.prog hGramErrors168 := hok_eq mmGramErrors_ok hmGramErrors168_ok folGramErrors (lf := 100000) (k := 1000) (by kernel_rfl)
def hmGramErrors169 : List HE := hGramErrors168 :: hmGramErrors168
theorem hmGramErrors169_ok : ∀ x ∈ hmGramErrors169, HOk Tryd.prog x := hmemo_cons hGramErrors168_ok hmGramErrors168_ok
def hGramErrors169 : HE := ⟨77, [(eS [100,32,101,32,102,32,84])], [], [((.val (eI 1)), [])]⟩
theorem hGramErrors169_ok : HOk Tryd.prog hGramErrors169 := hok_eq mmGramErrors_ok hmGramErrors169_ok folGramErrors (lf := 100000) (k := 1000) (by kernel_rfl)
def hmGramErrors170 : List HE := hGramErrors169 :: hmGramErrors169
theorem hmGramErrors170_ok : ∀ x ∈ hmGramErrors170, HOk Tryd.prog x := hmemo_cons hGramErrors169_ok hmGramErrors169_ok
def hGramErrors170 : HE := ⟨64, [(eS [100,32,101,32,102,32,84])], [], [((.val (.tup [(.agg [(eI 2),(eS [100]),(eI 0),(eI 0)]),(eI 1),eB1])), [])]⟩
theorem hGramErrors170_ok : HOk Tryd.prog hGramErrors170 := hok_eq mmGramErrors_ok hmGramErrors170_ok folGramErrors (lf := 100000) (k := 1000) (by kernel_rfl)
def hmGramErrors171 : List HE := hGramErrors170 :: hmGramErrors170
theorem hmGramErrors171_ok : ∀ x ∈ hmGramErrors171, HOk Tryd.prog x := hmemo_cons hGramErrors170_ok hmGramErrors170_ok
def hGramErrors171 : HE := ⟨77, [(eS [101,32,102,32,84])], [], [((.val (eI 1)), [])]⟩
theorem hGramErrors171_ok : HOk Tryd.prog hGramErrors171 := hok_eq mmGramErrors_ok hmGramErrors171_ok folGramErrors (lf := 100000) (k := 1000) (by kernel_rfl)
def hmGramErrors172 : List HE := hGramErrors171 :: hmGramErrors171
theorem hmGramErrors172_ok : ∀ x ∈ hmGramErrors172, HOk Tryd.prog x := hmemo_cons hGramErrors171_ok hmGramErrors171_ok
def hGramErrors172 : HE := ⟨64, [(eS [101,32,102,32,84])], [], [((.val (.tup [(.agg [(eI 2),(eS [101]),(eI 0),(eI 0)]),(eI 1),eB1])), [])]⟩
theorem hGramErrors172_ok : HOk Tryd.prog hGramErrors172 := hok_eq mmGramErrors_ok hmGramErrors172_ok folGramErrors (lf := 100000) (k := 1000) (by kernel_rfl)
def hmGramErrors173 : List HE := hGramErrors172 :: hmGramErrors172
theorem hmGramErrors173_ok : ∀ x ∈ hmGramErrors173, HOk Tryd.prog x := hmemo_cons hGramErrors172_ok hmGramErrors172_ok
def hGramErrors173 : HE := ⟨77, [(eS [102,32,84])], [], [((.val (eI 1)), [])]⟩
theorem hGramErrors173_ok : HOk Tryd.prog hGramErrors173 := hok_eq mmGramErrors_ok hmGramErrors173_ok folGramErrors (lf := 100000) (k := 1000) (by kernel_rfl)
def hmGramErrors174 : List HE := hGramErrors173 :: hmGramErrors173
theorem hmGramErrors174_ok : ∀ x ∈ hmGramErrors174, HOk Tryd.prog x := hmemo_cons hGramErrors173_ok hmGramErrors173_ok
def hGramErrors174 : HE := ⟨64, [(eS [102,32,84])], [], [((.val (.tup [(.agg [(eI 2),(eS [102]),(eI 0),(eI 0)]),(eI 1),eB1])), [])]⟩
theorem hGramErrors174_ok : HOk Tryd.prog hGramErrors174 := hok_eq mmGramErrors_ok hmGramErrors174_ok folGramErrors (lf := 100000) (k := 1000) (by kernel_rfl)
def hmGramErrors175 : List HE := hGramErrors174 :: hmGramErrors174
theorem hmGramErrors175_ok : ∀ x ∈ hmGramErrors175, HOk Tryd.prog x := hmemo_cons hGramErrors174_ok hmGramErrors174_ok
def bgramErrors59 : Blk := ⟨[(eI 1),(eS [83]),(eI 4),(eI 1),(eI 3),(eS [58]),(eI 4),(eI 2),(eI 2),(eS [97]),(eI 4),(eI 4),(eI 2),(eS [98]),(eI 4),(eI 6),(eI 2),(eS [99]),(eI 4),(eI 8),(eI 2),(eS [100]),(eI 4),(eI 10),(eI 2),(eS [101]),(eI 4),(eI 12),(eI 2),(eS [102]),(eI 4),(eI 14),(eI 1),(eS [84]),(eI 4),(eI 16)],81,[(8,36),(7,32),(6,28),(5,24),(4,20),(3,16),(2,12),(1,8),(0,4)],9,0,false,8,none⟩
def hGramErrors175 : HE := ⟨44, [(eS [83,58,32,97,32,98,32,99,32,100,32,101,32,102,32,84]),(eI 4)], [], [((.val (.tup [(.sl 0 8 0 9 none 4),(eI 0)])), [bgramErrors59])]⟩
theorem hGramErrors175_ok : HOk Tryd.prog hGramErrors175 := hok_eq mmGramErrors_ok hmGramErrors175_ok folGramErrors (lf := 100000) (k := 1000) (by kernel_rfl)
def hmGramErrors176 : List HE := hGramErrors175 :: hmGramErrors175
theorem hmGramErrors176_ok : ∀ x ∈ hmGramErrors176, HOk Tryd.prog x := hmemo_cons hGramErrors175_ok hmGramErrors175_ok
def bgramErrors60 : Blk := ⟨[(eI 5),(eS []),(eI 1),(eI 1),(eI 5),(eS []),(eI 2),(eI 1),(eI 5),(eS []),(eI 3),(eI 1),(eI 1),(eS [83]),(eI 4),(eI 1),(eI 3),(eS [58]),(eI 4),(eI 2),(eI 2),(eS [97]),(eI 4),(eI 4),(eI 2),(eS [98]),(eI 4),(eI 6),(eI 2),(eS [99]),(eI 4),(eI 8),(eI 2),(eS [100]),(eI 4),(eI 10),(eI 2),(eS [101]),(eI 4),(eI 12),(eI 2),(eS [102]),(eI 4),(eI 14),(eI 1),(eS [84]),(eI 4),(eI 16),(eI 5),(eS []),(eI 4),(eI 17)],81,[(4,52),(3,48),(2,12),(1,8),(0,4)],5,0,false,4,none⟩
def tgramErrors3 : List Nat := [10,10,10,83,58,32,97,32,98,32,99,32,100,32,101,32,102,32,84,10]
def hGramErrors176 : HE := ⟨19, [(eT tgramErrors3)], [], [((.val (.tup [(.sl 0 4 0 13 none 4),(eI 0),(eI 0),(eI 0)])), [bgramErrors60])]⟩
theorem hGramErrors176_ok : HOk Tryd.prog hGramErrors176 := hok_eq mmGramErrors_ok hmGramErrors176_ok folGramErrors (lf := 100000) (k := 1000) (by kernel_rfl)
def hmGramErrors177 : List HE := hGramErrors176 :: hmGramErrors176
theorem hmGramErrors177_ok : ∀ x ∈ hmGramErrors177, HOk Tryd.prog x := hmemo_cons hGramErrors176_ok hmGramErrors176_ok
def bgramErrors61 : Blk := ⟨[(eI 2),(eS [97]),(eI 4),(eI 4),(eI 2),(eS [98]),(eI 4),(eI 6),(eI 2),(eS [99]),(eI 4),(eI 8),(eI 2),(eS [100]),(eI 4),(eI 10),(eI 2),(eS [101]),(eI 4),(eI 12),(eI 2),(eS [102]),(eI 4),(eI 14),(eI 1),(eS [84]),(eI 4),(eI 16)],81,[(6,28),(5,24),(4,20),(3,16),(2,12),(1,8),(0,4)],7,0,false,6,none⟩
def hGramErrors177 : HE := ⟨48, [(.sl 0 4 12 10 none 4)], [bgramErrors60], [((.val (.agg [(eI 1),(eS [83]),(eI 4),(eI 1),(.sl 1 0 0 1 none 5)])), [bgramErrors56, bgramErrors61])]⟩
theorem hGramErrors177_ok : HOk Tryd.prog hGramErrors177 := hok_eq mmGramErrors_ok hmGramErrors177_ok folGramErrors (lf := 100000) (k := 1000) (by kernel_rfl)
def hmGramErrors178 : List HE := hGramErrors177 :: hmGramErrors177
theorem hmGramErrors178_ok : ∀ x ∈ hmGramErrors178, HOk Tryd.prog x := hmemo_cons hGramErrors177_ok hmGramErrors177_ok
def hGramErrors178 : HE := ⟨22, [(.sl 0 4 0 13 none 4)], [bgramErrors60], [((.val (.sl 1 0 0 1 none 5)), [bgramErrors28, bgramErrors58, bgramErrors61])]⟩
theorem hGramErrors178_ok : HOk Tryd.prog hGramErrors178 := hok_eq mmGramErrors_ok hmGramErrors178_ok folGramErrors (lf := 100000) (k := 1000) (by kernel_rfl)
def hmGramErrors179 : List HE := hGramErrors178 :: hmGramErrors178
theorem hmGramErrors179_ok : ∀ x ∈ hmGramErrors179, HOk Tryd.prog x := hmemo_cons hGramErrors178_ok hmGramErrors178_ok
def hGramErrors179 : HE := ⟨21, [(.sl 0 0 0 1 none 5)], [bgramErrors30, bgramErrors56, bgramErrors61], [((.panic (.iface 51 (.agg [(eI 4),(eI 16),(eI 5)]))), [])]⟩
theorem hGramErrors179_ok : HOk Tryd.prog hGramErrors179 := hok_eq mmGramErrors_ok hmGramErrors179_ok folGramErrors (lf := 100000) (k := 1000) (by kernel_rfl)
def hmGramErrors180 : List HE := hGramErrors179 :: hmGramErrors179
theorem hmGramErrors180_ok : ∀ x ∈ hmGramErrors180, HOk Tryd.prog x := hmemo_cons hGramErrors179_ok hmGramErrors179_ok
def hGramErrors180 : HE := ⟨8, [(eT tgramErrors3)], [], [((.val (.tup [(.agg [(.lit (.slice none 0 0)),(.lit (.slice none 0 0)),(.lit (.slice none 0 0))]),(eI 4),(eI 16),(eI 5)])), [])]⟩
theorem hGramErrors180_ok : HOk Tryd.prog hGramErrors180 := hok_eq mmGramErrors_ok hmGramErrors180_ok folGramErrors (lf := 100000) (k := 1000) (by kernel_rfl)
def hmGramErrors181 : List HE := hGramErrors180 :: hmGramErrors180
theorem hmGramErrors181_ok : ∀ x ∈ hmGramErrors181, HOk Tryd.prog x := hmemo_cons hGramErrors180_ok hmGramErrors180_ok
def hGramErrors181 : HE := ⟨77, [(eS [83,58,32,97,32,98,32,99,32,100])], [], [((.val (eI 1)), [])]⟩
theorem hGramErrors181_ok : HOk Tryd.prog hGramErrors181 := hok_eq mmGramErrors_ok hmGramErrors181_ok folGramErrors (lf := 100000) (k := 1000) (by kernel_rfl)
def hmGramErrors182 : List HE := hGramErrors181 :: hmGramErrors181
theorem hmGramErrors182_ok : ∀ x ∈ hmGramErrors182, HOk Tryd.prog x := hmemo_cons hGramErrors181_ok hmGramErrors181_ok
def hGramErrors182 : HE := ⟨64, [(eS [83,58,32,97,32,98,32,99,32,100])], [], [((.val (.tup [(.agg [(eI 1),(eS [83]),(eI 0),(eI 0)]),(eI 1),eB1])), [])]⟩
theorem hGramErrors182_ok : HOk Tryd.prog hGramErrors182 := hok_eq mmGramErrors_ok hmGramErrors182_ok folGramErrors (lf := 100000) (k := 1000) (by kernel_rfl)
def hmGramErrors183 : List HE := hGramErrors182 :: hmGramErrors182
theorem hmGramErrors183_ok : ∀ x ∈ hmGramErrors183, HOk Tryd.prog x := hmemo_cons hGramErrors182_ok hmGramErrors182_ok
def hGramErrors183 : HE := ⟨64, [(eS [58,32,97,32,98,32,99,32,100])], [], [((.val (.tup [(.agg [(eI 3),(eS [58]),(eI 0),(eI 0)]),(eI 1),eB1])), [])]⟩
theorem hGramErrors183_ok : HOk Tryd.prog hGramErrors183 := hok_eq mmGramErrors_ok hmGramErrors183_ok folGramErrors (lf := 100000) (k := 1000) (by kernel_rfl)
def hmGramErrors184 : List HE := hGramErrors183 :: hmGramErrors183
theorem hmGramErrors184_ok : ∀ x ∈ hmGramErrors184, HOk Tryd.prog x := hmemo_cons hGramErrors183_ok hmGramErrors183_ok
def hGramErrors184 : HE := ⟨77, [(eS [97,32,98,32,99,32,100])], [], [((.val (eI 1)), [])]⟩
theorem hGramErrors184_ok : HOk Tryd.prog hGramErrors184 := hok_eq mmGramErrors_ok hmGramErrors184_ok folGramErrors (lf := 100000) (k := 1000) (by kernel_rfl)
def hmGramErrors185 : List HE := hGramErrors184 :: hmGramErrors184
theorem hmGramErrors185_ok : ∀ x ∈ hmGramErrors185, HOk Tryd.prog x := hmemo_cons hGramErrors184_ok hmGramErrors184_ok
def hGramErrors185 : HE := ⟨64, [(eS [97,32,98,32,99,32,100])], [], [((.val (.tup [(.agg [(eI 2),(eS [97]),(eI 0),(eI 0)]),(eI 1),eB1])), [])]⟩
theorem hGramErrors185_ok : HOk Tryd.prog hGramErrors185 := hok_eq mmGramErrors_ok hmGramErrors185_ok folGramErrors (lf := 100000) (k := 1000) (by kernel_rfl)
def hmGramErrors186 : List HE := hGramErrors185 :: hmGramErrors185
theorem hmGramErrors186_ok : ∀ x ∈ hmGramErrors186, HOk Tryd.prog x := hmemo_cons hGramErrors185_ok hmGramErrors185_ok
def hGramErrors186 : HE := ⟨77, [(eS [98,32,99,32,100])], [], [((.val (eI 1)), [])]⟩
theorem hGramErrors186_ok : HOk Tryd.prog hGramErrors186 := hok_eq mmGramErrors_ok hmGramErrors186_ok folGramErrors (lf := 100000) (k := 1000) (by kernel_rfl)
def hmGramErrors187 : List HE := hGramErrors186 :: hmGramErrors186
theorem hmGramErrors187_ok : ∀ x ∈ hmGramErrors187, HOk Tryd.prog x := hmemo_cons hGramErrors186_ok hmGramErrors186_ok
def hGramErrors187 : HE := ⟨64, [(eS [98,32,99,32,100])], [], [((.val (.tup [(.agg [(eI 2),(eS [98]),(eI 0),(eI 0)]),(eI 1),eB1])), [])]⟩
theorem hGramErrors187_ok : HOk Tryd.prog hGramErrors187 := hok_eq mmGramErrors_ok hmGramErrors187_ok folGramErrors (lf := 100000) (k := 1000) (by kernel_rfl)
def hmGramErrors188 : List HE := hGramErrors187 :: hmGramErrors187
theorem hmGramErrors188_ok : ∀ x ∈ hmGramErrors188, HOk Tryd.prog x := hmemo_cons hGramErrors187_ok hmGramErrors187_ok
def hGramErrors188 : HE := ⟨77, [(eS [99,32,100])], [], [((.val (eI 1)), [])]⟩
theorem hGramErrors188_ok : HOk Tryd.prog hGramErrors188 := hok_eq mmGramErrors_ok hmGramErrors188_ok folGramErrors (lf := 100000) (k := 1000) (by kernel_rfl)
def hmGramErrors189 : List HE := hGramErrors188 :: hmGramErrors188
theorem hmGramErrors189_ok : ∀ x ∈ hmGramErrors189, HOk Tryd.prog x := hmemo_cons hGramErrors188_ok hmGramErrors188_ok
def hGramErrors189 : HE := ⟨64, [(eS [99,32,100])], [], [((.val (.tup [(.agg [(eI 2),(eS [99]),(eI 0),(eI 0)]),(eI 1),eB1])), [])]⟩
theorem hGramErrors189_ok : HOk Tryd.prog hGramErrors189 := hok_eq mmGramErrors_ok hmGramErrors189_ok folGramErrors (lf := 100000) (k := 1000) (by kernel_rfl)
def hmGramErrors190 : List HE := hGramErrors189 :: hmGramErrors189
theorem hmGramErrors190_ok : ∀ x ∈ hmGramErrors190, HOk Tryd.prog x := hmemo_cons hGramErrors189_ok hmGramErrors189_ok
def hGramErrors190 : HE := ⟨77, [(eS [100])], [], [((.val (eI 1)), [])]⟩
theorem hGramErrors190_ok : HOk Tryd.prog hGramErrors190 := hok_eq mmGramErrors_ok hmGramErrors190_ok folGramErrors (lf := 100000) (k := 1000) (by kernel_rfl)
def hmGramErrors191 : List HE := hGramErrors190 :: hmGramErrors190
theorem hmGramErrors191_ok : ∀ x ∈ hmGramErrors191, HOk Tryd.prog x := hmemo_cons hGramErrors190_ok hmGramErrors190_ok
def hGramErrors191 : HE := ⟨64, [(eS [100])], [], [((.val (.tup [(.agg [(eI 2),(eS [100]),(eI 0),(eI 0)]),(eI 1),eB1])), [])]⟩
theorem hGramErrors191_ok : HOk Tryd.prog hGramErrors191 := hok_eq mmGramErrors_ok hmGramErrors191_ok folGramErrors (lf := 100000) (k := 1000) (by kernel_rfl)
def hmGramErrors192 : List HE := hGramErrors191 :: hmGramErrors191
theorem hmGramErrors192_ok : ∀ x ∈ hmGramErrors192, HOk Tryd.prog x := hmemo_cons hGramErrors191_ok hmGramErrors191_ok
def bgramErrors62 : Blk := ⟨[(eI 1),(eS [83]),(eI 4),(eI 1),(eI 3),(eS [58]),(eI 4),(eI 2),(eI 2),(eS [97]),(eI 4),(eI 4),(eI 2),(eS [98]),(eI 4),(eI 6),(eI 2),(eS [99]),(eI 4),(eI 8),(eI 2),(eS [100]),(eI 4),(eI 10)],81,[(5,24),(4,20),(3,16),(2,12),(1,8),(0,4)],6,0,false,5,none⟩
def hGramErrors192 : HE := ⟨44, [(eS [83,58,32,97,32,98,32,99,32,100]),(eI 4)], [], [((.val (.tup [(.sl 0 5 0 6 none 4),(eI 0)])), [bgramErrors62])]⟩
theorem hGramErrors192_ok : HOk Tryd.prog hGramErrors192 := hok_eq mmGramErrors_ok hmGramErrors192_ok folGramErrors (lf := 100000) (k := 1000) (by kernel_rfl)
def hmGramErrors193 : List HE := hGramErrors192 :: hmGramErrors192
theorem hmGramErrors193_ok : ∀ x ∈ hmGramErrors193, HOk Tryd.prog x := hmemo_cons hGramErrors192_ok hmGramErrors192_ok
def hGramErrors193 : HE := ⟨77, [(eS [84,58,32,101,32,102,32,103,32,104,32,105])], [], [((.val (eI 1)), [])]⟩
theorem hGramErrors193_ok : HOk Tryd.prog hGramErrors193 := hok_eq mmGramErrors_ok hmGramErrors193_ok folGramErrors (lf := 100000) (k := 1000) (by kernel_rfl)
def hmGramErrors194 : List HE := hGramErrors193 :: hmGramErrors193
theorem hmGramErrors194_ok : ∀ x ∈ hmGramErrors194, HOk Tryd.prog x := hmemo_cons hGramErrors193_ok hmGramErrors193_ok
def hGramErrors194 : HE := ⟨64, [(eS [84,58,32,101,32,102,32,103,32,104,32,105])], [], [((.val (.tup [(.agg [(eI 1),(eS [84]),(eI 0),(eI 0)]),(eI 1),eB1])), [])]⟩
theorem hGramErrors194_ok : HOk Tryd.prog hGramErrors194 := hok_eq mmGramErrors_ok hmGramErrors194_ok folGramErrors (lf := 100000) (k := 1000) (by kernel_rfl)
def hmGramErrors195 : List HE := hGramErrors194 :: hmGramErrors194
theorem hmGramErrors195_ok : ∀ x ∈ hmGramErrors195, HOk Tryd.prog x := hmemo_cons hGramErrors194_ok hmGramErrors194_ok
def hGramErrors195 : HE := ⟨64, [(eS [58,32,101,32,102,32,103,32,104,32,105])], [], [((.val (.tup [(.agg [(eI 3),(eS [58]),(eI 0),(eI 0)]),(eI 1),eB1])), [])]⟩
theorem hGramErrors195_ok : HOk Tryd.prog hGramErrors195 := hok_eq mmGramErrors_ok hmGramErrors195_ok folGramErrors (lf := 100000) (k := 1000) (by kernel_rfl)
def hmGramErrors196 : List HE := hGramErrors195 :: hmGramErrors195
theorem hmGramErrors196_ok : ∀ x ∈ hmGramErrors196, HOk Tryd.prog x := hmemo_cons hGramErrors195_ok hmGramErrors195_ok
def hGramErrors196 : HE := ⟨77, [(eS [101,32,102,32,103,32,104,32,105])], [], [((.val (eI 1)), [])]⟩
theorem hGramErrors196_ok : HOk Tryd.prog hGramErrors196 := hok_eq mmGramErrors_ok hmGramErrors196_ok folGramErrors (lf := 100000) (k := 1000) (by kernel_rfl)
def hmGramErrors197 : List HE := hGramErrors196 :: hmGramErrors196
theorem hmGramErrors197_ok : ∀ x ∈ hmGramErrors197, HOk Tryd.prog x := hmemo_cons hGramErrors196_ok hmGramErrors196_ok
def hGramErrors197 : HE := ⟨64, [(eS [101,32,102,32,103,32,104,32,105])], [], [((.val (.tup [(.agg [(eI 2),(eS [101]),(eI 0),(eI 0)]),(eI 1),eB1])), [])]⟩
theorem hGramErrors197_ok : HOk Tryd.prog hGramErrors197 := hok_eq mmGramErrors_ok hmGramErrors197_ok folGramErrors (lf := 100000) (k := 1000) (by kernel_rfl)
def hmGramErrors198 : List HE := hGramErrors197 :: hmGramErrors197
theorem hmGramErrors198_ok : ∀ x ∈ hmGramErrors198, HOk Tryd.prog x := hmemo_cons hGramErrors197_ok hmGramErrors197_ok
def hGramErrors198 : HE := ⟨77, [(eS [102,32,103,32,104,32,105])], [], [((.val (eI 1)), [])]⟩
theorem hGramErrors198_ok : HOk Tryd.prog hGramErrors198 := hok_eq mmGramErrors_ok hmGramErrors198_ok folGramErrors (lf := 100000) (k := 1000) (by kernel_rfl)
def hmGramErrors199 : List HE := hGramErrors198 :: hmGramErrors198
theorem hmGramErrors199_ok : ∀ x ∈ hmGramErrors199, HOk Tryd.prog x := hmemo_cons hGramErrors198_ok hmGramErrors198_ok
def hGramErrors199 : HE := ⟨64, [(eS [102,32,103,32,104,32,105])], [], [((.val (.tup [(.agg [(eI 2),(eS [102]),(eI 0),(eI 0)]),(eI 1),eB1])), [])]⟩
theorem hGramErrors199_ok : HOk Tryd.prog hGramErrors199 := hok_eq mmGramErrors_ok hmGramErrors199_ok folGramErrors (lf := 100000) (k := 1000) (by kernel_rfl)
def hmGramErrors200 : List HE := hGramErrors199 :: hmGramErrors199
theorem hmGramErrors200_ok : ∀ x ∈ hmGramErrors200, HOk Tryd.prog x := hmemo_cons hGramErrors199_ok hmGramErrors199_ok
def hGramErrors200 : HE := ⟨77, [(eS [103,32,104,32,105])], [], [((.val (eI 1)), [])]⟩
theorem hGramErrors200_ok : HOk Tryd.prog hGramErrors200 := hok_eq mmGramErrors_ok hmGramErrors200_ok folGramErrors (lf := 100000) (k := 1000) (by kernel_rfl)
def hmGramErrors201 : List HE := hGramErrors200 :: hmGramErrors200
theorem hmGramErrors201_ok : ∀ x ∈ hmGramErrors201, HOk Tryd.prog x := hmemo_cons hGramErrors200_ok hmGramErrors200_ok
def hGramErrors201 : HE := ⟨53, [(eS [103])], [], [((.val eB1), [])]⟩
theorem hGramErrors201_ok : HOk Tryd.prog hGramErrors201 := hok_eq mmGramErrors_ok hmGramErrors201_ok folGramErrors (lf := 100000) (k := 1000) (by kernel_rfl)
def hmGramErrors202 : List HE := hGramErrors201 :: hmGramErrors201
theorem hmGramErrors202_ok : ∀ x ∈ hmGramErrors202, HOk Tryd.prog x := hmemo_cons hGramErrors201_ok hmGramErrors201_ok
def hGramErrors202 : HE := ⟨64, [(eS [103,32,104,32,105])], [], [((.val (.tup [(.agg [(eI 2),(eS [103]),(eI 0),(eI 0)]),(eI 1),eB1])), [])]⟩
theorem hGramErrors202_ok : HOk Tryd.prog hGramErrors202 := hok_eq mmGramErrors_ok hmGramErrors202_ok folGramErrors (lf := 100000) (k := 1000) (by kernel_rfl)
def hmGramErrors203 : List HE := hGramErrors202 :: hmGramErrors202
theorem hmGramErrors203_ok : ∀ x ∈ hmGramErrors203, HOk Tryd.prog x := hmemo_cons hGramErrors202_ok hmGramErrors202_ok
def hGramErrors203 : HE := ⟨77, [(eS [104,32,105])], [], [((.val (eI 1)), [])]⟩
theorem hGramErrors203_ok : HOk Tryd.prog hGramErrors203 := hok_eq mmGramErrors_ok hmGramErrors203_ok folGramErrors (lf := 100000) (k := 1000) (by kernel_rfl)
def hmGramErrors204 : List HE := hGramErrors203 :: hmGramErrors203
theorem hmGramErrors204_ok : ∀ x ∈ hmGramErrors204, HOk Tryd.prog x := hmemo_cons hGramErrors203_ok hmGramErrors203_ok
def hGramErrors204 : HE := ⟨53, [(eS [104])], [], [((.val eB1), [])]⟩
theorem hGramErrors204_ok : HOk Tryd.prog hGramErrors204 := hok_eq mmGramErrors_ok hmGramErrors204_ok folGramErrors (lf := 100000) (k := 1000) (by kernel_rfl)
def hmGramErrors205 : List HE := hGramErrors204 :: hmGramErrors204
theorem hmGramErrors205_ok : ∀ x ∈ hmGramErrors205, HOk Tryd.prog x := hmemo_cons hGramErrors204_ok hmGramErrors204_ok
def hGramErrors205 : HE := ⟨64, [(eS [104,32,105])], [], [((.val (.tup [(.agg [(eI 2),(eS [104]),(eI 0),(eI 0)]),(eI 1),eB1])), [])]⟩
theorem hGramErrors205_ok : HOk Tryd.prog hGramErrors205 := hok_eq mmGramErrors_ok hmGramErrors205_ok folGramErrors (lf := 100000) (k := 1000) (by kernel_rfl)
def hmGramErrors206 : List HE := hGramErrors205 :: hmGramErrors205
theorem hmGramErrors206_ok : ∀ x ∈ hmGramErrors206, HOk Tryd.prog x := hmemo_cons hGramErrors205_ok hmGramErrors205_ok
def hGramErrors206 : HE := ⟨77, [(eS [105])], [], [((.val (eI 1)), [])]⟩
theorem hGramErrors206_ok : HOk Tryd.prog hGramErrors206 := hok_eq mmGramErrors_ok hmGramErrors206_ok folGramErrors (lf := 100000) (k := 1000) (by kernel_rfl)
def hmGramErrors207 : List HE := hGramErrors206 :: hmGramErrors206
theorem hmGramErrors207_ok : ∀ x ∈ hmGramErrors207, HOk Tryd.prog x := hmemo_cons hGramErrors206_ok hmGramErrors206_ok
def hGramErrors207 : HE := ⟨53, [(eS [105])], [], [((.val eB1), [])]⟩
theorem hGramErrors207_ok : HOk Tryd.prog hGramErrors207 := hok_eq mmGramErrors_ok hmGramErrors207_ok folGramErrors (lf := 100000) (k := 1000) (by kernel_rfl)
def hmGramErrors208 : List HE := hGramErrors207 :: hmGramErrors207
theorem hmGramErrors208_ok : ∀ x ∈ hmGramErrors208, HOk Tryd.prog x := hmemo_cons hGramErrors207_ok hmGramErrors207_ok
def hGramErrors208 : HE := ⟨64, [(eS [105])], [], [((.val (.tup [(.agg [(eI 2),(eS [105]),(eI 0),(eI 0)]),(eI 1),eB1])), [])]⟩
theorem hGramErrors208_ok : HOk Tryd.prog hGramErrors208 := hok_eq mmGramErrors_ok hmGramErrors208_ok folGramErrors (lf := 100000) (k := 1000) (by kernel_rfl)
def hmGramErrors209 : List HE := hGramErrors208 :: hmGramErrors208
theorem hmGramErrors209_ok : ∀ x ∈ hmGramErrors209, HOk Tryd.prog x := hmemo_cons hGramErrors208_ok hmGramErrors208_ok
def bgramErrors63 : Blk := ⟨[(eI 1),(eS [84]),(eI 5),(eI 1),(eI 3),(eS [58]),(eI 5),(eI 2),(eI 2),(eS [101]),(eI 5),(eI 4),(eI 2),(eS [102]),(eI 5),(eI 6),(eI 2),(eS [103]),(eI 5),(eI 8),(eI 2),(eS [104]),(eI 5),(eI 10),(eI 2),(eS [105]),(eI 5),(eI 12)],81,[(6,28),(5,24),(4,20),(3,16),(2,12),(1,8),(0,4)],7,0,false,6,none⟩
def hGramErrors209 : HE := ⟨44, [(eS [84,58,32,101,32,102,32,103,32,104,32,105]),(eI 5)], [], [((.val (.tup [(.sl 0 6 0 7 none 4),(eI 0)])), [bgramErrors63])]⟩
theorem hGramErrors209_ok : HOk Tryd.prog hGramErrors209 := hok_eq mmGramErrors_ok hmGramErrors209_ok folGramErrors (lf := 100000) (k := 1000) (by kernel_rfl)
def hmGramErrors210 : List HE := hGramErrors209 :: hmGramErrors209
theorem hmGramErrors210_ok : ∀ x ∈ hmGramErrors210, HOk Tryd.prog x := hmemo_cons hGramErrors209_ok hmGramErrors209_ok
def bgramErrors64 : Blk := ⟨[(eI 5),(eS []),(eI 1),(eI 1),(eI 5),(eS []),(eI 2),(eI 1),(eI 5),(eS []),(eI 3),(eI 1),(eI 1),(eS [83]),(eI 4),(eI 1),(eI 3),(eS [58]),(eI 4),(eI 2),(eI 2),(eS [97]),(eI 4),(eI 4),(eI 2),(eS [98]),(eI 4),(eI 6),(eI 2),(eS [99]),(eI 4),(eI 8),(eI 2),(eS [100]),(eI 4),(eI 10),(eI 5),(eS []),(eI 4),(eI 11),(eI 1),(eS [84]),(eI 5),(eI 1),(eI 3),(eS [58]),(eI 5),(eI 2),(eI 2),(eS [101]),(eI 5),(eI 4),(eI 2),(eS [102]),(eI 5),(eI 6),(eI 2),(eS [103]),(eI 5),(eI 8),(eI 2),(eS [104]),(eI 5),(eI 10),(eI 2),(eS [105]),(eI 5),(eI 12),(eI 5),(eS []),(eI 5),(eI 13)],81,[(6,72),(5,68),(4,40),(3,36),(2,12),(1,8),(0,4)],7,0,false,6,none⟩
def tgramErrors4 : List Nat := [10,10,10,83,58,32,97,32,98,32,99,32,100,10,84,58,32,101,32,102,32,103,32,104,32,105,10]
def hGramErrors210 : HE := ⟨19, [(eT tgramErrors4)], [], [((.val (.tup [(.sl 0 6 0 18 none 4),(eI 0),(eI 0),(eI 0)])), [bgramErrors64])]⟩
theorem hGramErrors210_ok : HOk Tryd.prog hGramErrors210 := hok_eq mmGramErrors_ok hmGramErrors210_ok folGramErrors (lf := 100000) (k := 1000) (by kernel_rfl)
def hmGramErrors211 : List HE := hGramErrors210 :: hmGramErrors210
theorem hmGramErrors211_ok : ∀ x ∈ hmGramErrors211, HOk Tryd.prog x := hmemo_cons hGramErrors210_ok hmGramErrors210_ok
def bgramErrors65 : Blk := ⟨[(.sl 2 3 0 4 none 4),(eI 2),(eS [97]),(eI 4),(eI 4)],91,[(0,5)],1,0,false,0,none⟩
def bgramErrors66 : Blk := ⟨[(eI 2),(eS [97]),(eI 4),(eI 4),(eI 2),(eS [98]),(eI 4),(eI 6),(eI 2),(eS [99]),(eI 4),(eI 8),(eI 2),(eS [100]),(eI 4),(eI 10)],81,[(3,16),(2,12),(1,8),(0,4)],4,0,false,3,none⟩
def hGramErrors211 : HE := ⟨48, [(.sl 0 6 12 7 none 4)], [bgramErrors64], [((.val (.agg [(eI 1),(eS [83]),(eI 4),(eI 1),(.sl 1 0 0 1 none 5)])), [bgramErrors65, bgramErrors66])]⟩
theorem hGramErrors211_ok : HOk Tryd.prog hGramErrors211 := hok_eq mmGramErrors_ok hmGramErrors211_ok folGramErrors (lf := 100000) (k := 1000) (by kernel_rfl)
def hmGramErrors212 : List HE := hGramErrors211 :: hmGramErrors211
theorem hmGramErrors212_ok : ∀ x ∈ hmGramErrors212, HOk Tryd.prog x := hmemo_cons hGramErrors211_ok hmGramErrors211_ok
def bgramErrors67 : Blk := ⟨[(.sl 2 4 0 5 none 4),(eI 2),(eS [101]),(eI 5),(eI 4)],91,[(0,5)],1,0,false,0,none⟩
def bgramErrors68 : Blk := ⟨[(eI 2),(eS [101]),(eI 5),(eI 4),(eI 2),(eS [102]),(eI 5),(eI 6),(eI 2),(eS [103]),(eI 5),(eI 8),(eI 2),(eS [104]),(eI 5),(eI 10),(eI 2),(eS [105]),(eI 5),(eI 12)],81,[(4,20),(3,16),(2,12),(1,8),(0,4)],5,0,false,4,none⟩
def hGramErrors212 : HE := ⟨48, [(.sl 0 6 40 8 none 4)], [bgramErrors64], [((.val (.agg [(eI 1),(eS [84]),(eI 5),(eI 1),(.sl 1 0 0 1 none 5)])), [bgramErrors67, bgramErrors68])]⟩
theorem hGramErrors212_ok : HOk Tryd.prog hGramErrors212 := hok_eq mmGramErrors_ok hmGramErrors212_ok folGramErrors (lf := 100000) (k := 1000) (by kernel_rfl)
def hmGramErrors213 : List HE := hGramErrors212 :: hmGramErrors212
theorem hmGramErrors213_ok : ∀ x ∈ hmGramErrors213, HOk Tryd.prog x := hmemo_cons hGramErrors212_ok hmGramErrors212_ok
def bgramErrors69 : Blk := ⟨[(eI 1),(eS [83]),(eI 4),(eI 1),(.sl 2 0 0 1 none 5),(eI 1),(eS [84]),(eI 5),(eI 1),(.sl 4 0 0 1 none 5)],87,[(1,10),(0,5)],2,0,false,1,none⟩
def bgramErrors70 : Blk := ⟨[(.sl 3 3 0 4 none 4),(eI 2),(eS [97]),(eI 4),(eI 4)],91,[(0,5)],1,0,false,0,none⟩
def bgramErrors71 : Blk := ⟨[(.sl 5 4 0 5 none 4),(eI 2),(eS [101]),(eI 5),(eI 4)],91,[(0,5)],1,0,false,0,none⟩
def hGramErrors213 : HE := ⟨22, [(.sl 0 6 0 18 none 4)], [bgramErrors64], [((.val (.sl 1 1 0 2 none 5)), [bgramErrors69, bgramErrors70, bgramErrors66, bgramErrors71, bgramErrors68])]⟩
theorem hGramErrors213_ok : HOk Tryd.prog hGramErrors213 := hok_eq mmGramErrors_ok hmGramErrors213_ok folGramErrors (lf := 100000) (k := 1000) (by kernel_rfl)
def hmGramErrors214 : List HE := hGramErrors213 :: hmGramErrors213
theorem hmGramErrors214_ok : ∀ x ∈ hmGramErrors214, HOk Tryd.prog x := hmemo_cons hGramErrors213_ok hmGramErrors213_ok
def hGramErrors214 : HE := ⟨46, [(.sl 0 0 0 1 none 1),(eS [84])], [bgramErrors21], [((.val eB0), [])]⟩
theorem hGramErrors214_ok : HOk Tryd.prog hGramErrors214 := hok_eq mmGramErrors_ok hmGramErrors214_ok folGramErrors (lf := 100000) (k := 1000) (by kernel_rfl)
def hmGramErrors215 : List HE := hGramErrors214 :: hmGramErrors214
theorem hmGramErrors215_ok : ∀ x ∈ hmGramErrors215, HOk Tryd.prog x := hmemo_cons hGramErrors214_ok hmGramErrors214_ok
def bgramErrors72 : Blk := ⟨[(eI 1),(eI 2),(eI 3),(eI 4)],3,[(3,4),(2,3),(1,2),(0,1)],4,0,false,3,none⟩
def hGramErrors215 : HE := ⟨57, [(.lit (.slice none 0 0)),(.agg [(eI 100),(.sl 0 3 0 4 none 1)])], [bgramErrors72], [((.val eB0), [])]⟩
theorem hGramErrors215_ok : HOk Tryd.prog hGramErrors215 := hok_eq mmGramErrors_ok hmGramErrors215_ok folGramErrors (lf := 100000) (k := 1000) (by kernel_rfl)
def hmGramErrors216 : List HE := hGramErrors215 :: hmGramErrors215
theorem hmGramErrors216_ok : ∀ x ∈ hmGramErrors216, HOk Tryd.prog x := hmemo_cons hGramErrors215_ok hmGramErrors215_ok
def bgramErrors73 : Blk := ⟨[(eI 1),(eS [83]),(eI 4),(eI 1),(.sl 1 0 0 1 none 5),(eI 1),(eS [84]),(eI 5),(eI 1),(.sl 3 0 0 1 none 5)],87,[(1,10),(0,5)],2,0,false,1,none⟩
def bgramErrors74 : Blk := ⟨[(.sl 4 4 0 5 none 4),(eI 2),(eS [101]),(eI 5),(eI 4)],91,[(0,5)],1,0,false,0,none⟩
def hGramErrors216 : HE := ⟨21, [(.sl 0 1 0 2 none 5)], [bgramErrors73, bgramErrors65, bgramErrors66, bgramErrors74, bgramErrors68], [((.panic (.iface 51 (.agg [(eI 5),(eI 12),(eI 5)]))), [])]⟩
theorem hGramErrors216_ok : HOk Tryd.prog hGramErrors216 := hok_eq mmGramErrors_ok hmGramErrors216_ok folGramErrors (lf := 100000) (k := 1000) (by kernel_rfl)
def hmGramErrors217 : List HE := hGramErrors216 :: hmGramErrors216
theorem hmGramErrors217_ok : ∀ x ∈ hmGramErrors217, HOk Tryd.prog x := hmemo_cons hGramErrors216_ok hmGramErrors216_ok
def hGramErrors217 : HE := ⟨8, [(eT tgramErrors4)], [], [((.val (.tup [(.agg [(.lit (.slice none 0 0)),(.lit (.slice none 0 0)),(.lit (.slice none 0 0))]),(eI 5),(eI 12),(eI 5)])), [])]⟩
theorem hGramErrors217_ok : HOk Tryd.prog hGramErrors217 := hok_eq mmGramErrors_ok hmGramErrors217_ok folGramErrors (lf := 100000) (k := 1000) (by kernel_rfl)
def hmGramErrors218 : List HE := hGramErrors217 :: hmGramErrors217
theorem hmGramErrors218_ok : ∀ x ∈ hmGramErrors218, HOk Tryd.prog x := hmemo_cons hGramErrors217_ok hmGramErrors217_ok
def hGramErrors218 : HE := ⟨77, [(eS [84,58,32,83])], [], [((.val (eI 1)), [])]⟩
theorem hGramErrors218_ok : HOk Tryd.prog hGramErrors218 := hok_eq mmGramErrors_ok hmGramErrors218_ok folGramErrors (lf := 100000) (k := 1000) (by kernel_rfl)
def hmGramErrors219 : List HE := hGramErrors218 :: hmGramErrors218
theorem hmGramErrors219_ok : ∀ x ∈ hmGramErrors219, HOk Tryd.prog x := hmemo_cons hGramErrors218_ok hmGramErrors218_ok
def hGramErrors219 : HE := ⟨64, [(eS [84,58,32,83])], [], [((.val (.tup [(.agg [(eI 1),(eS [84]),(eI 0),(eI 0)]),(eI 1),eB1])), [])]⟩
theorem hGramErrors219_ok : HOk Tryd.prog hGramErrors219 := hok_eq mmGramErrors_ok hmGramErrors219_ok folGramErrors (lf := 100000) (k := 1000) (by kernel_rfl)
def hmGramErrors220 : List HE := hGramErrors219 :: hmGramErrors219
theorem hmGramErrors220_ok : ∀ x ∈ hmGramErrors220, HOk Tryd.prog x := hmemo_cons hGramErrors219_ok hmGramErrors219_ok
def hGramErrors220 : HE := ⟨64, [(eS [58,32,83])], [], [((.val (.tup [(.agg [(eI 3),(eS [58]),(eI 0),(eI 0)]),(eI 1),eB1])), [])]⟩
theorem hGramErrors220_ok : HOk Tryd.prog hGramErrors220 := hok_eq mmGramErrors_ok hmGramErrors220_ok folGramErrors (lf := 100000) (k := 1000) (by kernel_rfl)
def hmGramErrors221 : List HE := hGramErrors220 :: hmGramErrors220
theorem hmGramErrors221_ok : ∀ x ∈ hmGramErrors221, HOk Tryd.prog x := hmemo_cons hGramErrors220_ok hmGramErrors220_ok
def bgramErrors75 : Blk := ⟨[(eI 1),(eS [84]),(eI 5),(eI 1),(eI 3),(eS [58]),(eI 5),(eI 2),(eI 1),(eS [83]),(eI 5),(eI 4)],81,[(2,12),(1,8),(0,4)],3,0,false,2,none⟩
def hGramErrors221 : HE := ⟨44, [(eS [84,58,32,83]),(eI 5)], [], [((.val (.tup [(.sl 0 2 0 3 none 4),(eI 0)])), [bgramErrors75])]⟩
theorem hGramErrors221_ok : HOk Tryd.prog hGramErrors221 := hok_eq mmGramErrors_ok hmGramErrors221_ok folGramErrors (lf := 100000) (k := 1000) (by kernel_rfl)
def hmGramErrors222 : List HE := hGramErrors221 :: hmGramErrors221
theorem hmGramErrors222_ok : ∀ x ∈ hmGramErrors222, HOk Tryd.prog x := hmemo_cons hGramErrors221_ok hmGramErrors221_ok
def hGramErrors222 : HE := ⟨77, [(eS [85,58,32,59])], [], [((.val (eI 1)), [])]⟩
theorem hGramErrors222_ok : HOk Tryd.prog hGramErrors222 := hok_eq mmGramErrors_ok hmGramErrors222_ok folGramErrors (lf := 100000) (k := 1000) (by kernel_rfl)
def hmGramErrors223 : List HE := hGramErrors222 :: hmGramErrors222
theorem hmGramErrors223_ok : ∀ x ∈ hmGramErrors223, HOk Tryd.prog x := hmemo_cons hGramErrors222_ok hmGramErrors222_ok
def hGramErrors223 : HE := ⟨53, [(eS [85])], [], [((.val eB1), [])]⟩
theorem hGramErrors223_ok : HOk Tryd.prog hGramErrors223 := hok_eq mmGramErrors_ok hmGramErrors223_ok folGramErrors (lf := 100000) (k := 1000) (by kernel_rfl)
def hmGramErrors224 : List HE := hGramErrors223 :: hmGramErrors223
theorem hmGramErrors224_ok : ∀ x ∈ hmGramErrors224, HOk Tryd.prog x := hmemo_cons hGramErrors223_ok hmGramErrors223_ok
def hGramErrors224 : HE := ⟨64, [(eS [85,58,32,59])], [], [((.val (.tup [(.agg [(eI 1),(eS [85]),(eI 0),(eI 0)]),(eI 1),eB1])), [])]⟩
theorem hGramErrors224_ok : HOk Tryd.prog hGramErrors224 := hok_eq mmGramErrors_ok hmGramErrors224_ok folGramErrors (lf := 100000) (k := 1000) (by kernel_rfl)
def hmGramErrors225 : List HE := hGramErrors224 :: hmGramErrors224
theorem hmGramErrors225_ok : ∀ x ∈ hmGramErrors225, HOk Tryd.prog x := hmemo_cons hGramErrors224_ok hmGramErrors224_ok
def hGramErrors225 : HE := ⟨64, [(eS [58,32,59])], [], [((.val (.tup [(.agg [(eI 3),(eS [58]),(eI 0),(eI 0)]),(eI 1),eB1])), [])]⟩
theorem hGramErrors225_ok : HOk Tryd.prog hGramErrors225 := hok_eq mmGramErrors_ok hmGramErrors225_ok folGramErrors (lf := 100000) (k := 1000) (by kernel_rfl)
def hmGramErrors226 : List HE := hGramErrors225 :: hmGramErrors225
theorem hmGramErrors226_ok : ∀ x ∈ hmGramErrors226, HOk Tryd.prog x := hmemo_cons hGramErrors225_ok hmGramErrors225_ok
def hGramErrors226 : HE := ⟨44, [(eS [85,58,32,59]),(eI 6)], [], [((.val (.tup [(.lit (.slice none 0 0)),(eI 4)])), [])]⟩
theorem hGramErrors226_ok : HOk Tryd.prog hGramErrors226 := hok_eq mmGramErrors_ok hmGramErrors226_ok folGramErrors (lf := 100000) (k := 1000) (by kernel_rfl)
def hmGramErrors227 : List HE := hGramErrors226 :: hmGramErrors226
theorem hmGramErrors227_ok : ∀ x ∈ hmGramErrors227, HOk Tryd.prog x := hmemo_cons hGramErrors226_ok hmGramErrors226_ok
def hGramErrors227 : HE := ⟨19, [(eS [10,10,10,83,58,32,84,10,84,58,32,83,10,85,58,32,59,10])], [], [((.val (.tup [(.lit (.slice none 0 0)),(eI 6),(eI 4),(eI 2)])), [])]⟩
theorem hGramErrors227_ok : HOk Tryd.prog hGramErrors227 := hok_eq mmGramErrors_ok hmGramErrors227_ok folGramErrors (lf := 100000) (k := 1000) (by kernel_rfl)
def hmGramErrors228 : List HE := hGramErrors227 :: hmGramErrors227
theorem hmGramErrors228_ok : ∀ x ∈ hmGramErrors228, HOk Tryd.prog x := hmemo_cons hGramErrors227_ok hmGramErrors227_ok
def hGramErrors228 : HE := ⟨8, [(eS [10,10,10,83,58,32,84,10,84,58,32,83,10,85,58,32,59,10])], [], [((.val (.tup [(.agg [(.lit (.slice none 0 0)),(.lit (.slice none 0 0)),(.lit (.slice none 0 0))]),(eI 6),(eI 4),(eI 2)])), [])]⟩
theorem hGramErrors228_ok : HOk Tryd.prog hGramErrors228 := hok_eq mmGramErrors_ok hmGramErrors228_ok folGramErrors (lf := 100000) (k := 1000) (by kernel_rfl)
def hmGramErrors229 : List HE := hGramErrors228 :: hmGramErrors228
theorem hmGramErrors229_ok : ∀ x ∈ hmGramErrors229, HOk Tryd.prog x := hmemo_cons hGramErrors228_ok hmGramErrors228_ok
def bgramErrors76 : Blk := ⟨[(eI 5),(eS []),(eI 1),(eI 1),(eI 5),(eS []),(eI 2),(eI 1),(eI 5),(eS []),(eI 3),(eI 1)],81,[(2,12),(1,8),(0,4)],3,0,false,2,none⟩
def hGramErrors229 : HE := ⟨19, [(eS [10,10,10])], [], [((.val (.tup [(.sl 0 2 0 3 none 4),(eI 0),(eI 0),(eI 0)])), [bgramErrors76])]⟩
theorem hGramErrors229_ok : HOk Tryd.prog hGramErrors229 := hok_eq mmGramErrors_ok hmGramErrors229_ok folGramErrors (lf := 100000) (k := 1000) (by kernel_rfl)
def hmGramErrors230 : List HE := hGramErrors229 :: hmGramErrors229
theorem hmGramErrors230_ok : ∀ x ∈ hmGramErrors230, HOk Tryd.prog x := hmemo_cons hGramErrors229_ok hmGramErrors229_ok
def hGramErrors230 : HE := ⟨22, [(.sl 0 2 0 3 none 4)], [bgramErrors76], [((.val (.lit (.slice none 0 0))), [])]⟩
theorem hGramErrors230_ok : HOk Tryd.prog hGramErrors230 := hok_eq mmGramErrors_ok hmGramErrors230_ok folGramErrors (lf := 100000) (k := 1000) (by kernel_rfl)
def hmGramErrors231 : List HE := hGramErrors230 :: hmGramErrors230
theorem hmGramErrors231_ok : ∀ x ∈ hmGramErrors231, HOk Tryd.prog x := hmemo_cons hGramErrors230_ok hmGramErrors230_ok
def hGramErrors231 : HE := ⟨21, [(.lit (.slice none 0 0))], [], [((.panic (.iface 51 (.agg [(eI 0),(eI 0),(eI 2)]))), [])]⟩
theorem hGramErrors231_ok : HOk Tryd.prog hGramErrors231 := hok_eq mmGramErrors_ok hmGramErrors231_ok folGramErrors (lf := 100000) (k := 1000) (by kernel_rfl)
def hmGramErrors232 : List HE := hGramErrors231 :: hmGramErrors231
theorem hmGramErrors232_ok : ∀ x ∈ hmGramErrors232, HOk Tryd.prog x := hmemo_cons hGramErrors231_ok hmGramErrors231_ok
def hGramErrors232 : HE := ⟨8, [(eS [10,10,10])], [], [((.val (.tup [(.agg [(.lit (.slice none 0 0)),(.lit (.slice none 0 0)),(.lit (.slice none 0 0))]),(eI 0),(eI 0),(eI 2)])), [])]⟩
theorem hGramErrors232_ok : HOk Tryd.prog hGramErrors232 := hok_eq mmGramErrors_ok hmGramErrors232_ok folGramErrors (lf := 100000) (k := 1000) (by kernel_rfl)
def hmGramErrors233 : List HE := hGramErrors232 :: hmGramErrors232
theorem hmGramErrors233_ok : ∀ x ∈ hmGramErrors233, HOk Tryd.prog x := hmemo_cons hGramErrors232_ok hmGramErrors232_ok
def hGramErrors233 : HE := ⟨44, [(eS []),(eI 4)], [], [((.val (.tup [(.lit (.slice none 0 0)),(eI 0)])), [])]⟩
theorem hGramErrors233_ok : HOk Tryd.prog hGramErrors233 := hok_eq mmGramErrors_ok hmGramErrors233_ok folGramErrors (lf := 100000) (k := 1000) (by kernel_rfl)
def hmGramErrors234 : List HE := hGramErrors233 :: hmGramErrors233
theorem hmGramErrors234_ok : ∀ x ∈ hmGramErrors234, HOk Tryd.prog x := hmemo_cons hGramErrors233_ok hmGramErrors233_ok
def bgramErrors77 : Blk := ⟨[(eI 5),(eS []),(eI 1),(eI 1),(eI 5),(eS []),(eI 2),(eI 1),(eI 5),(eS []),(eI 3),(eI 1),(eI 5),(eS []),(eI 4),(eI 1)],81,[(3,16),(2,12),(1,8),(0,4)],4,0,false,3,none⟩
def hGramErrors234 : HE := ⟨19, [(eS [10,10,10,10])], [], [((.val (.tup [(.sl 0 3 0 4 none 4),(eI 0),(eI 0),(eI 0)])), [bgramErrors77])]⟩
theorem hGramErrors234_ok : HOk Tryd.prog hGramErrors234 := hok_eq mmGramErrors_ok hmGramErrors234_ok folGramErrors (lf := 100000) (k := 1000) (by kernel_rfl)
def hmGramErrors235 : List HE := hGramErrors234 :: hmGramErrors234
theorem hmGramErrors235_ok : ∀ x ∈ hmGramErrors235, HOk Tryd.prog x := hmemo_cons hGramErrors234_ok hmGramErrors234_ok
def hGramErrors235 : HE := ⟨22, [(.sl 0 3 0 4 none 4)], [bgramErrors77], [((.val (.lit (.slice none 0 0))), [])]⟩
theorem hGramErrors235_ok : HOk Tryd.prog hGramErrors235 := hok_eq mmGramErrors_ok hmGramErrors235_ok folGramErrors (lf := 100000) (k := 1000) (by kernel_rfl)
def hmGramErrors236 : List HE := hGramErrors235 :: hmGramErrors235
theorem hmGramErrors236_ok : ∀ x ∈ hmGramErrors236, HOk Tryd.prog x := hmemo_cons hGramErrors235_ok hmGramErrors235_ok
def hGramErrors236 : HE := ⟨8, [(eS [10,10,10,10])], [], [((.val (.tup [(.agg [(.lit (.slice none 0 0)),(.lit (.slice none 0 0)),(.lit (.slice none 0 0))]),(eI 0),(eI 0),(eI 2)])), [])]⟩
theorem hGramErrors236_ok : HOk Tryd.prog hGramErrors236 := hok_eq mmGramErrors_ok hmGramErrors236_ok folGramErrors (lf := 100000) (k := 1000) (by kernel_rfl)
def hmGramErrors237 : List HE := hGramErrors236 :: hmGramErrors236
theorem hmGramErrors237_ok : ∀ x ∈ hmGramErrors237, HOk Tryd.prog x := hmemo_cons hGramErrors236_ok hmGramErrors236_ok
def hGramErrors237 : HE := ⟨44, [(eS [35,32,97]),(eI 4)], [], [((.val (.tup [(.lit (.slice none 0 0)),(eI 0)])), [])]⟩
theorem hGramErrors237_ok : HOk Tryd.prog hGramErrors237 := hok_eq mmGramErrors_ok hmGramErrors237_ok folGramErrors (lf := 100000) (k := 1000) (by kernel_rfl)
def hmGramErrors238 : List HE := hGramErrors237 :: hmGramErrors237
theorem hmGramErrors238_ok : ∀ x ∈ hmGramErrors238, HOk Tryd.prog x := hmemo_cons hGramErrors237_ok hmGramErrors237_ok
def bgramErrors78 : Blk := ⟨[(eI 5),(eS []),(eI 1),(eI 1),(eI 5),(eS []),(eI 2),(eI 1),(eI 5),(eS []),(eI 3),(eI 1),(eI 5),(eS []),(eI 4),(eI 4)],81,[(3,16),(2,12),(1,8),(0,4)],4,0,false,3,none⟩
def hGramErrors238 : HE := ⟨19, [(eS [10,10,10,35,32,97,10])], [], [((.val (.tup [(.sl 0 3 0 4 none 4),(eI 0),(eI 0),(eI 0)])), [bgramErrors78])]⟩
theorem hGramErrors238_ok : HOk Tryd.prog hGramErrors238 := hok_eq mmGramErrors_ok hmGramErrors238_ok folGramErrors (lf := 100000) (k := 1000) (by kernel_rfl)
def hmGramErrors239 : List HE := hGramErrors238 :: hmGramErrors238
theorem hmGramErrors239_ok : ∀ x ∈ hmGramErrors239, HOk Tryd.prog x := hmemo_cons hGramErrors238_ok hmGramErrors238_ok
def hGramErrors239 : HE := ⟨22, [(.sl 0 3 0 4 none 4)], [bgramErrors78], [((.val (.lit (.slice none 0 0))), [])]⟩
theorem hGramErrors239_ok : HOk Tryd.prog hGramErrors239 := hok_eq mmGramErrors_ok hmGramErrors239_ok folGramErrors (lf := 100000) (k := 1000) (by kernel_rfl)
def hmGramErrors240 : List HE := hGramErrors239 :: hmGramErrors239
theorem hmGramErrors240_ok : ∀ x ∈ hmGramErrors240, HOk Tryd.prog x := hmemo_cons hGramErrors239_ok hmGramErrors239_ok
def hGramErrors240 : HE := ⟨8, [(eS [10,10,10,35,32,97,10])], [], [((.val (.tup [(.agg [(.lit (.slice none 0 0)),(.lit (.slice none 0 0)),(.lit (.slice none 0 0))]),(eI 0),(eI 0),(eI 2)])), [])]⟩
theorem hGramErrors240_ok : HOk Tryd.prog hGramErrors240 := hok_eq mmGramErrors_ok hmGramErrors240_ok folGramErrors (lf := 100000) (k := 1000) (by kernel_rfl)
def hmGramErrors241 : List HE := hGramErrors240 :: hmGramErrors240
theorem hmGramErrors241_ok : ∀ x ∈ hmGramErrors241, HOk Tryd.prog x := hmemo_cons hGramErrors240_ok hmGramErrors240_ok
def hGramErrors241 : HE := ⟨77, [(eS [83,58,32,83])], [], [((.val (eI 1)), [])]⟩
theorem hGramErrors241_ok : HOk Tryd.prog hGramErrors241 := hok_eq mmGramErrors_ok hmGramErrors241_ok folGramErrors (lf := 100000) (k := 1000) (by kernel_rfl)
def hmGramErrors242 : List HE := hGramErrors241 :: hmGramErrors241
theorem hmGramErrors242_ok : ∀ x ∈ hmGramErrors242, HOk Tryd.prog x := hmemo_cons hGramErrors241_ok hmGramErrors241_ok
def hGramErrors242 : HE := ⟨64, [(eS [83,58,32,83])], [], [((.val (.tup [(.agg [(eI 1),(eS [83]),(eI 0),(eI 0)]),(eI 1),eB1])), [])]⟩
theorem hGramErrors242_ok : HOk Tryd.prog hGramErrors242 := hok_eq mmGramErrors_ok hmGramErrors242_ok folGramErrors (lf := 100000) (k := 1000) (by kernel_rfl)
def hmGramErrors243 : List HE := hGramErrors242 :: hmGramErrors242
theorem hmGramErrors243_ok : ∀ x ∈ hmGramErrors243, HOk Tryd.prog x := hmemo_cons hGramErrors242_ok hmGramErrors242_ok
def bgramErrors79 : Blk := ⟨[(eI 1),(eS [83]),(eI 4),(eI 1),(eI 3),(eS [58]),(eI 4),(eI 2),(eI 1),(eS [83]),(eI 4),(eI 4)],81,[(2,12),(1,8),(0,4)],3,0,false,2,none⟩
def hGramErrors243 : HE := ⟨44, [(eS [83,58,32,83]),(eI 4)], [], [((.val (.tup [(.sl 0 2 0 3 none 4),(eI 0)])), [bgramErrors79])]⟩
theorem hGramErrors243_ok : HOk Tryd.prog hGramErrors243 := hok_eq mmGramErrors_ok hmGramErrors243_ok folGramErrors (lf := 100000) (k := 1000) (by kernel_rfl)
def hmGramErrors244 : List HE := hGramErrors243 :: hmGramErrors243
theorem hmGramErrors244_ok : ∀ x ∈ hmGramErrors244, HOk Tryd.prog x := hmemo_cons hGramErrors243_ok hmGramErrors243_ok
def bgramErrors80 : Blk := ⟨[(eI 5),(eS []),(eI 1),(eI 1),(eI 5),(eS []),(eI 2),(eI 1),(eI 5),(eS []),(eI 3),(eI 1),(eI 1),(eS [83]),(eI 4),(eI 1),(eI 3),(eS [58]),(eI 4),(eI 2),(eI 1),(eS [83]),(eI 4),(eI 4),(eI 5),(eS []),(eI 4),(eI 5)],81,[(4,28),(3,24),(2,12),(1,8),(0,4)],5,0,false,4,none⟩
def hGramErrors244 : HE := ⟨19, [(eS [10,10,10,83,58,32,83,10])], [], [((.val (.tup [(.sl 0 4 0 7 none 4),(eI 0),(eI 0),(eI 0)])), [bgramErrors80])]⟩
theorem hGramErrors244_ok : HOk Tryd.prog hGramErrors244 := hok_eq mmGramErrors_ok hmGramErrors244_ok folGramErrors (lf := 100000) (k := 1000) (by kernel_rfl)
def hmGramErrors245 : List HE := hGramErrors244 :: hmGramErrors244
theorem hmGramErrors245_ok : ∀ x ∈ hmGramErrors245, HOk Tryd.prog x := hmemo_cons hGramErrors244_ok hmGramErrors244_ok
def bgramErrors81 : Blk := ⟨[(.sl 2 0 0 1 none 4),(eI 1),(eS [83]),(eI 4),(eI 4)],91,[(0,5)],1,0,false,0,none⟩
def bgramErrors82 : Blk := ⟨[(eI 1),(eS [83]),(eI 4),(eI 4)],81,[(0,4)],1,0,false,0,none⟩
def hGramErrors245 : HE := ⟨48, [(.sl 0 4 12 4 none 4)], [bgramErrors80], [((.val (.agg [(eI 1),(eS [83]),(eI 4),(eI 1),(.sl 1 0 0 1 none 5)])), [bgramErrors81, bgramErrors82])]⟩
theorem hGramErrors245_ok : HOk Tryd.prog hGramErrors245 := hok_eq mmGramErrors_ok hmGramErrors245_ok folGramErrors (lf := 100000) (k := 1000) (by kernel_rfl)
def hmGramErrors246 : List HE := hGramErrors245 :: hmGramErrors245
theorem hmGramErrors246_ok : ∀ x ∈ hmGramErrors246, HOk Tryd.prog x := hmemo_cons hGramErrors245_ok hmGramErrors245_ok
def bgramErrors83 : Blk := ⟨[(.sl 3 0 0 1 none 4),(eI 1),(eS [83]),(eI 4),(eI 4)],91,[(0,5)],1,0,false,0,none⟩
def hGramErrors246 : HE := ⟨22, [(.sl 0 4 0 7 none 4)], [bgramErrors80], [((.val (.sl 1 0 0 1 none 5)), [bgramErrors28, bgramErrors83, bgramErrors82])]⟩
theorem hGramErrors246_ok : HOk Tryd.prog hGramErrors246 := hok_eq mmGramErrors_ok hmGramErrors246_ok folGramErrors (lf := 100000) (k := 1000) (by kernel_rfl)
def hmGramErrors247 : List HE := hGramErrors246 :: hmGramErrors246
theorem hmGramErrors247_ok : ∀ x ∈ hmGramErrors247, HOk Tryd.prog x := hmemo_cons hGramErrors246_ok hmGramErrors246_ok
def bgramErrors84 : Blk := ⟨[(eI 100)],3,[(0,1)],1,0,false,0,none⟩
def hGramErrors247 : HE := ⟨57, [(.lit (.slice none 0 0)),(.agg [(eI 100),(.sl 0 0 0 1 none 1)])], [bgramErrors84], [((.val eB0), [])]⟩
theorem hGramErrors247_ok : HOk Tryd.prog hGramErrors247 := hok_eq mmGramErrors_ok hmGramErrors247_ok folGramErrors (lf := 100000) (k := 1000) (by kernel_rfl)
def hmGramErrors248 : List HE := hGramErrors247 :: hmGramErrors247
theorem hmGramErrors248_ok : ∀ x ∈ hmGramErrors248, HOk Tryd.prog x := hmemo_cons hGramErrors247_ok hmGramErrors247_ok
def hGramErrors248 : HE := ⟨21, [(.sl 0 0 0 1 none 5)], [bgramErrors30, bgramErrors81, bgramErrors82], [((.panic (.iface 51 (.agg [(eI 0),(eI 0),(eI 2)]))), [])]⟩
theorem hGramErrors248_ok : HOk Tryd.prog hGramErrors248 := hok_eq mmGramErrors_ok hmGramErrors248_ok folGramErrors (lf := 100000) (k := 1000) (by kernel_rfl)
def hmGramErrors249 : List HE := hGramErrors248 :: hmGramErrors248
theorem hmGramErrors249_ok : ∀ x ∈ hmGramErrors249, HOk Tryd.prog x := hmemo_cons hGramErrors248_ok hmGramErrors248_ok
def hGramErrors249 : HE := ⟨8, [(eS [10,10,10,83,58,32,83,10])], [], [((.val (.tup [(.agg [(.lit (.slice none 0 0)),(.lit (.slice none 0 0)),(.lit (.slice none 0 0))]),(eI 0),(eI 0),(eI 2)])), [])]⟩
theorem hGramErrors249_ok : HOk Tryd.prog hGramErrors249 := hok_eq mmGramErrors_ok hmGramErrors249_ok folGramErrors (lf := 100000) (k := 1000) (by kernel_rfl)
def hmGramErrors250 : List HE := hGramErrors249 :: hmGramErrors249
theorem hmGramErrors250_ok : ∀ x ∈ hmGramErrors250, HOk Tryd.prog x := hmemo_cons hGramErrors249_ok hmGramErrors249_ok
def hGramErrors250 : HE := ⟨77, [(eS [83,58])], [], [((.val (eI 1)), [])]⟩
theorem hGramErrors250_ok : HOk Tryd.prog hGramErrors250 := hok_eq mmGramErrors_ok hmGramErrors250_ok folGramErrors (lf := 100000) (k := 1000) (by kernel_rfl)
def hmGramErrors251 : List HE := hGramErrors250 :: hmGramErrors250
theorem hmGramErrors251_ok : ∀ x ∈ hmGramErrors251, HOk Tryd.prog x := hmemo_cons hGramErrors250_ok hmGramErrors250_ok
def hGramErrors251 : HE := ⟨64, [(eS [83,58])], [], [((.val (.tup [(.agg [(eI 1),(eS [83]),(eI 0),(eI 0)]),(eI 1),eB1])), [])]⟩
theorem hGramErrors251_ok : HOk Tryd.prog hGramErrors251 := hok_eq mmGramErrors_ok hmGramErrors251_ok folGramErrors (lf := 100000) (k := 1000) (by kernel_rfl)
def hmGramErrors252 : List HE := hGramErrors251 :: hmGramErrors251
theorem hmGramErrors252_ok : ∀ x ∈ hmGramErrors252, HOk Tryd.prog x := hmemo_cons hGramErrors251_ok hmGramErrors251_ok
def hGramErrors252 : HE := ⟨64, [(eS [58])], [], [((.val (.tup [(.agg [(eI 3),(eS [58]),(eI 0),(eI 0)]),(eI 1),eB1])), [])]⟩
theorem hGramErrors252_ok : HOk Tryd.prog hGramErrors252 := hok_eq mmGramErrors_ok hmGramErrors252_ok folGramErrors (lf := 100000) (k := 1000) (by kernel_rfl)
def hmGramErrors253 : List HE := hGramErrors252 :: hmGramErrors252
theorem hmGramErrors253_ok : ∀ x ∈ hmGramErrors253, HOk Tryd.prog x := hmemo_cons hGramErrors252_ok hmGramErrors252_ok
def bgramErrors85 : Blk := ⟨[(eI 1),(eS [83]),(eI 4),(eI 1),(eI 3),(eS [58]),(eI 4),(eI 2)],81,[(1,8),(0,4)],2,0,false,1,none⟩
def hGramErrors253 : HE := ⟨44, [(eS [83,58]),(eI 4)], [], [((.val (.tup [(.sl 0 1 0 2 none 4),(eI 0)])), [bgramErrors85])]⟩
theorem hGramErrors253_ok : HOk Tryd.prog hGramErrors253 := hok_eq mmGramErrors_ok hmGramErrors253_ok folGramErrors (lf := 100000) (k := 1000) (by kernel_rfl)
def hmGramErrors254 : List HE := hGramErrors253 :: hmGramErrors253
theorem hmGramErrors254_ok : ∀ x ∈ hmGramErrors254, HOk Tryd.prog x := hmemo_cons hGramErrors253_ok hmGramErrors253_ok
def bgramErrors86 : Blk := ⟨[(eI 5),(eS []),(eI 1),(eI 1),(eI 5),(eS []),(eI 2),(eI 1),(eI 5),(eS []),(eI 3),(eI 1),(eI 1),(eS [83]),(eI 4),(eI 1),(eI 3),(eS [58]),(eI 4),(eI 2),(eI 5),(eS []),(eI 4),(eI 3)],81,[(4,24),(3,20),(2,12),(1,8),(0,4)],5,0,false,4,none⟩
def hGramErrors254 : HE := ⟨19, [(eS [10,10,10,83,58,10])], [], [((.val (.tup [(.sl 0 4 0 6 none 4),(eI 0),(eI 0),(eI 0)])), [bgramErrors86])]⟩
theorem hGramErrors254_ok : HOk Tryd.prog hGramErrors254 := hok_eq mmGramErrors_ok hmGramErrors254_ok folGramErrors (lf := 100000) (k := 1000) (by kernel_rfl)
def hmGramErrors255 : List HE := hGramErrors254 :: hmGramErrors254
theorem hmGramErrors255_ok : ∀ x ∈ hmGramErrors255, HOk Tryd.prog x := hmemo_cons hGramErrors254_ok hmGramErrors254_ok
def bgramErrors87 : Blk := ⟨[(.lit (.slice none 0 0)),(eI 5),(eS []),(eI 4),(eI 3)],91,[(0,5)],1,0,false,0,none⟩
def hGramErrors255 : HE := ⟨48, [(.sl 0 4 12 3 none 4)], [bgramErrors86], [((.val (.agg [(eI 1),(eS [83]),(eI 4),(eI 1),(.sl 1 0 0 1 none 5)])), [bgramErrors87])]⟩
theorem hGramErrors255_ok : HOk Tryd.prog hGramErrors255 := hok_eq mmGramErrors_ok hmGramErrors255_ok folGramErrors (lf := 100000) (k := 1000) (by kernel_rfl)
def hmGramErrors256 : List HE := hGramErrors255 :: hmGramErrors255
theorem hmGramErrors256_ok : ∀ x ∈ hmGramErrors256, HOk Tryd.prog x := hmemo_cons hGramErrors255_ok hmGramErrors255_ok
def hGramErrors256 : HE := ⟨22, [(.sl 0 4 0 6 none 4)], [bgramErrors86], [((.val (.sl 1 0 0 1 none 5)), [bgramErrors28, bgramErrors87])]⟩
theorem hGramErrors256_ok : HOk Tryd.prog hGramErrors256 := hok_eq mmGramErrors_ok hmGramErrors256_ok folGramErrors (lf := 100000) (k := 1000) (by kernel_rfl)
def hmGramErrors257 : List HE := hGramErrors256 :: hmGramErrors256
theorem hmGramErrors257_ok : ∀ x ∈ hmGramErrors257, HOk Tryd.prog x := hmemo_cons hGramErrors256_ok hmGramErrors256_ok
def hGramErrors257 : HE := ⟨21, [(.sl 0 0 0 1 none 5)], [bgramErrors30, bgramErrors87], [((.panic (.iface 51 (.agg [(eI 0),(eI 0),(eI 2)]))), [])]⟩
theorem hGramErrors257_ok : HOk Tryd.prog hGramErrors257 := hok_eq mmGramErrors_ok hmGramErrors257_ok folGramErrors (lf := 100000) (k := 1000) (by kernel_rfl)
def hmGramErrors258 : List HE := hGramErrors257 :: hmGramErrors257
theorem hmGramErrors258_ok : ∀ x ∈ hmGramErrors258, HOk Tryd.prog x := hmemo_cons hGramErrors257_ok hmGramErrors257_ok
def hGramErrors258 : HE := ⟨8, [(eS [10,10,10,83,58,10])], [], [((.val (.tup [(.agg [(.lit (.slice none 0 0)),(.lit (.slice none 0 0)),(.lit (.slice none 0 0))]),(eI 0),(eI 0),(eI 2)])), [])]⟩
theorem hGramErrors258_ok : HOk Tryd.prog hGramErrors258 := hok_eq mmGramErrors_ok hmGramErrors258_ok folGramErrors (lf := 100000) (k := 1000) (by kernel_rfl)
def hmGramErrors259 : List HE := hGramErrors258 :: hmGramErrors258
theorem hmGramErrors259_ok : ∀ x ∈ hmGramErrors259, HOk Tryd.prog x := hmemo_cons hGramErrors258_ok hmGramErrors258_ok
def hGramErrors259 : HE := ⟨77, [(eS [83,58,32,84,32,124])], [], [((.val (eI 1)), [])]⟩
theorem hGramErrors259_ok : HOk Tryd.prog hGramErrors259 := hok_eq mmGramErrors_ok hmGramErrors259_ok folGramErrors (lf := 100000) (k := 1000) (by kernel_rfl)
def hmGramErrors260 : List HE := hGramErrors259 :: hmGramErrors259
theorem hmGramErrors260_ok : ∀ x ∈ hmGramErrors260, HOk Tryd.prog x := hmemo_cons hGramErrors259_ok hmGramErrors259_ok
def hGramErrors260 : HE := ⟨64, [(eS [83,58,32,84,32,124])], [], [((.val (.tup [(.agg [(eI 1),(eS [83]),(eI 0),(eI 0)]),(eI 1),eB1])), [])]⟩
theorem hGramErrors260_ok : HOk Tryd.prog hGramErrors260 := hok_eq mmGramErrors_ok hmGramErrors260_ok folGramErrors (lf := 100000) (k := 1000) (by kernel_rfl)
def hmGramErrors261 : List HE := hGramErrors260 :: hmGramErrors260
theorem hmGramErrors261_ok : ∀ x ∈ hmGramErrors261, HOk Tryd.prog x := hmemo_cons hGramErrors260_ok hmGramErrors260_ok
def hGramErrors261 : HE := ⟨64, [(eS [58,32,84,32,124])], [], [((.val (.tup [(.agg [(eI 3),(eS [58]),(eI 0),(eI 0)]),(eI 1),eB1])), [])]⟩
theorem hGramErrors261_ok : HOk Tryd.prog hGramErrors261 := hok_eq mmGramErrors_ok hmGramErrors261_ok folGramErrors (lf := 100000) (k := 1000) (by kernel_rfl)
def hmGramErrors262 : List HE := hGramErrors261 :: hmGramErrors261
theorem hmGramErrors262_ok : ∀ x ∈ hmGramErrors262, HOk Tryd.prog x := hmemo_cons hGramErrors261_ok hmGramErrors261_ok
def hGramErrors262 : HE := ⟨77, [(eS [84,32,124])], [], [((.val (eI 1)), [])]⟩
theorem hGramErrors262_ok : HOk Tryd.prog hGramErrors262 := hok_eq mmGramErrors_ok hmGramErrors262_ok folGramErrors (lf := 100000) (k := 1000) (by kernel_rfl)
def hmGramErrors263 : List HE := hGramErrors262 :: hmGramErrors262
theorem hmGramErrors263_ok : ∀ x ∈ hmGramErrors263, HOk Tryd.prog x := hmemo_cons hGramErrors262_ok hmGramErrors262_ok
def hGramErrors263 : HE := ⟨64, [(eS [84,32,124])], [], [((.val (.tup [(.agg [(eI 1),(eS [84]),(eI 0),(eI 0)]),(eI 1),eB1])), [])]⟩
theorem hGramErrors263_ok : HOk Tryd.prog hGramErrors263 := hok_eq mmGramErrors_ok hmGramErrors263_ok folGramErrors (lf := 100000) (k := 1000) (by kernel_rfl)
def hmGramErrors264 : List HE := hGramErrors263 :: hmGramErrors263
theorem hmGramErrors264_ok : ∀ x ∈ hmGramErrors264, HOk Tryd.prog x := hmemo_cons hGramErrors263_ok hmGramErrors263_ok
def bgramErrors88 : Blk := ⟨[(eI 1),(eS [83]),(eI 4),(eI 1),(eI 3),(eS [58]),(eI 4),(eI 2),(eI 1),(eS [84]),(eI 4),(eI 4),(eI 4),(eS [124]),(eI 4),(eI 6)],81,[(3,16),(2,12),(1,8),(0,4)],4,0,false,3,none⟩
def hGramErrors264 : HE := ⟨44, [(eS [83,58,32,84,32,124]),(eI 4)], [], [((.val (.tup [(.sl 0 3 0 4 none 4),(eI 0)])), [bgramErrors88])]⟩
theorem hGramErrors264_ok : HOk Tryd.prog hGramErrors264 := hok_eq mmGramErrors_ok hmGramErrors264_ok folGramErrors (lf := 100000) (k := 1000) (by kernel_rfl)
def hmGramErrors265 : List HE := hGramErrors264 :: hmGramErrors264
theorem hmGramErrors265_ok : ∀ x ∈ hmGramErrors265, HOk Tryd.prog x := hmemo_cons hGramErrors264_ok hmGramErrors264_ok
def bgramErrors89 : Blk := ⟨[(eI 5),(eS []),(eI 1),(eI 1),(eI 5),(eS []),(eI 2),(eI 1),(eI 5),(eS []),(eI 3),(eI 1),(eI 1),(eS [83]),(eI 4),(eI 1),(eI 3),(eS [58]),(eI 4),(eI 2),(eI 1),(eS [84]),(eI 4),(eI 4),(eI 4),(eS [124]),(eI 4),(eI 6),(eI 5),(eS []),(eI 4),(eI 7),(eI 1),(eS [84]),(eI 5),(eI 1),(eI 3),(eS [58]),(eI 5),(eI 2),(eI 1),(eS [83]),(eI 5),(eI 4),(eI 5),(eS []),(eI 5),(eI 5)],81,[(6,48),(5,44),(4,32),(3,28),(2,12),(1,8),(0,4)],7,0,false,6,none⟩
def hGramErrors265 : HE := ⟨19, [(eS [10,10,10,83,58,32,84,32,124,10,84,58,32,83,10])], [], [((.val (.tup [(.sl 0 6 0 12 none 4),(eI 0),(eI 0),(eI 0)])), [bgramErrors89])]⟩
theorem hGramErrors265_ok : HOk Tryd.prog hGramErrors265 := hok_eq mmGramErrors_ok hmGramErrors265_ok folGramErrors (lf := 100000) (k := 1000) (by kernel_rfl)
def hmGramErrors266 : List HE := hGramErrors265 :: hmGramErrors265
theorem hmGramErrors266_ok : ∀ x ∈ hmGramErrors266, HOk Tryd.prog x := hmemo_cons hGramErrors265_ok hmGramErrors265_ok
def bgramErrors90 : Blk := ⟨[(.sl 2 0 0 1 none 4),(eI 1),(eS [84]),(eI 4),(eI 4),(.lit (.slice none 0 0)),(eI 5),(eS []),(eI 4),(eI 7)],91,[(1,10),(0,5)],2,0,false,1,none⟩
def hGramErrors266 : HE := ⟨48, [(.sl 0 6 12 5 none 4)], [bgramErrors89], [((.val (.agg [(eI 1),(eS [83]),(eI 4),(eI 1),(.sl 1 1 0 2 none 5)])), [bgramErrors90, bgramErrors15])]⟩
theorem hGramErrors266_ok : HOk Tryd.prog hGramErrors266 := hok_eq mmGramErrors_ok hmGramErrors266_ok folGramErrors (lf := 100000) (k := 1000) (by kernel_rfl)
def hmGramErrors267 : List HE := hGramErrors266 :: hmGramErrors266
theorem hmGramErrors267_ok : ∀ x ∈ hmGramErrors267, HOk Tryd.prog x := hmemo_cons hGramErrors266_ok hmGramErrors266_ok
def bgramErrors91 : Blk := ⟨[(.sl 2 0 0 1 none 4),(eI 1),(eS [83]),(eI 5),(eI 4)],91,[(0,5)],1,0,false,0,none⟩
def bgramErrors92 : Blk := ⟨[(eI 1),(eS [83]),(eI 5),(eI 4)],81,[(0,4)],1,0,false,0,none⟩
def hGramErrors267 : HE := ⟨48, [(.sl 0 6 32 4 none 4)], [bgramErrors89], [((.val (.agg [(eI 1),(eS [84]),(eI 5),(eI 1),(.sl 1 0 0 1 none 5)])), [bgramErrors91, bgramErrors92])]⟩
theorem hGramErrors267_ok : HOk Tryd.prog hGramErrors267 := hok_eq mmGramErrors_ok hmGramErrors267_ok folGramErrors (lf := 100000) (k := 1000) (by kernel_rfl)
def hmGramErrors268 : List HE := hGramErrors267 :: hmGramErrors267
theorem hmGramErrors268_ok : ∀ x ∈ hmGramErrors268, HOk Tryd.prog x := hmemo_cons hGramErrors267_ok hmGramErrors267_ok
def bgramErrors93 : Blk := ⟨[(eI 1),(eS [83]),(eI 4),(eI 1),(.sl 2 1 0 2 none 5),(eI 1),(eS [84]),(eI 5),(eI 1),(.sl 4 0 0 1 none 5)],87,[(1,10),(0,5)],2,0,false,1,none⟩
def bgramErrors94 : Blk := ⟨[(.sl 3 0 0 1 none 4),(eI 1),(eS [84]),(eI 4),(eI 4),(.lit (.slice none 0 0)),(eI 5),(eS []),(eI 4),(eI 7)],91,[(1,10),(0,5)],2,0,false,1,none⟩
def bgramErrors95 : Blk := ⟨[(.sl 5 0 0 1 none 4),(eI 1),(eS [83]),(eI 5),(eI 4)],91,[(0,5)],1,0,false,0,none⟩
def hGramErrors268 : HE := ⟨22, [(.sl 0 6 0 12 none 4)], [bgramErrors89], [((.val (.sl 1 1 0 2 none 5)), [bgramErrors93, bgramErrors94, bgramErrors15, bgramErrors95, bgramErrors92])]⟩
theorem hGramErrors268_ok : HOk Tryd.prog hGramErrors268 := hok_eq mmGramErrors_ok hmGramErrors268_ok folGramErrors (lf := 100000) (k := 1000) (by kernel_rfl)
def hmGramErrors269 : List HE := hGramErrors268 :: hmGramErrors268
theorem hmGramErrors269_ok : ∀ x ∈ hmGramErrors269, HOk Tryd.prog x := hmemo_cons hGramErrors268_ok hmGramErrors268_ok
def bgramErrors96 : Blk := ⟨[(eI 101)],3,[(0,1)],1,0,false,0,none⟩
def hGramErrors269 : HE := ⟨57, [(.lit (.slice none 0 0)),(.agg [(eI 100),(.sl 0 0 0 1 none 1)])], [bgramErrors96], [((.val eB0), [])]⟩
theorem hGramErrors269_ok : HOk Tryd.prog hGramErrors269 := hok_eq mmGramErrors_ok hmGramErrors269_ok folGramErrors (lf := 100000) (k := 1000) (by kernel_rfl)
def hmGramErrors270 : List HE := hGramErrors269 :: hmGramErrors269
theorem hmGramErrors270_ok : ∀ x ∈ hmGramErrors270, HOk Tryd.prog x := hmemo_cons hGramErrors269_ok hmGramErrors269_ok
def hGramErrors270 : HE := ⟨57, [(.sl 0 0 0 1 none 2),(.agg [(eI 100),(.lit (.slice none 0 0))])], [bgramErrors40, bgramErrors96], [((.val eB0), [])]⟩
theorem hGramErrors270_ok : HOk Tryd.prog hGramErrors270 := hok_eq mmGramErrors_ok hmGramErrors270_ok folGramErrors (lf := 100000) (k := 1000) (by kernel_rfl)
def hmGramErrors271 : List HE := hGramErrors270 :: hmGramErrors270
theorem hmGramErrors271_ok : ∀ x ∈ hmGramErrors271, HOk Tryd.prog x := hmemo_cons hGramErrors270_ok hmGramErrors270_ok
def bgramErrors97 : Blk := ⟨[(eI 100),(.sl 1 0 0 1 none 1),(eI 100),(.lit (.slice none 0 0))],41,[(1,4),(0,2)],2,0,false,1,none⟩
def hGramErrors271 : HE := ⟨57, [(.sl 0 1 0 2 none 2),(.agg [(eI 101),(.sl 2 0 0 1 none 1)])], [bgramErrors97, bgramErrors96, bgramErrors84], [((.val eB0), [])]⟩
theorem hGramErrors271_ok : HOk Tryd.prog hGramErrors271 := hok_eq mmGramErrors_ok hmGramErrors271_ok folGramErrors (lf := 100000) (k := 1000) (by kernel_rfl)
def hmGramErrors272 : List HE := hGramErrors271 :: hmGramErrors271
theorem hmGramErrors272_ok : ∀ x ∈ hmGramErrors272, HOk Tryd.prog x := hmemo_cons hGramErrors271_ok hmGramErrors271_ok
def bgramErrors98 : Blk := ⟨[(eI 1),(eS [83]),(eI 4),(eI 1),(.sl 1 1 0 2 none 5),(eI 1),(eS [84]),(eI 5),(eI 1),(.sl 3 0 0 1 none 5)],87,[(1,10),(0,5)],2,0,false,1,none⟩
def bgramErrors99 : Blk := ⟨[(.sl 4 0 0 1 none 4),(eI 1),(eS [83]),(eI 5),(eI 4)],91,[(0,5)],1,0,false,0,none⟩
def hGramErrors272 : HE := ⟨21, [(.sl 0 1 0 2 none 5)], [bgramErrors98, bgramErrors90, bgramErrors15, bgramErrors99, bgramErrors92], [((.panic (.iface 51 (.agg [(eI 0),(eI 0),(eI 2)]))), [])]⟩
theorem hGramErrors272_ok : HOk Tryd.prog hGramErrors272 := hok_eq mmGramErrors_ok hmGramErrors272_ok folGramErrors (lf := 100000) (k := 1000) (by kernel_rfl)
def hmGramErrors273 : List HE := hGramErrors272 :: hmGramErrors272
theorem hmGramErrors273_ok : ∀ x ∈ hmGramErrors273, HOk Tryd.prog x := hmemo_cons hGramErrors272_ok hmGramErrors272_ok
def hGramErrors273 : HE := ⟨8, [(eS [10,10,10,83,58,32,84,32,124,10,84,58,32,83,10])], [], [((.val (.tup [(.agg [(.lit (.slice none 0 0)),(.lit (.slice none 0 0)),(.lit (.slice none 0 0))]),(eI 0),(eI 0),(eI 2)])), [])]⟩
theorem hGramErrors273_ok : HOk Tryd.prog hGramErrors273 := hok_eq mmGramErrors_ok hmGramErrors273_ok folGramErrors (lf := 100000) (k := 1000) (by kernel_rfl)
def hmGramErrors274 : List HE := hGramErrors273 :: hmGramErrors273
theorem hmGramErrors274_ok : ∀ x ∈ hmGramErrors274, HOk Tryd.prog x := hmemo_cons hGramErrors273_ok hmGramErrors273_ok
def hGramErrors274 : HE := ⟨77, [(eS [83,58,32,97,32,83,32,124,32,98])], [], [((.val (eI 1)), [])]⟩
theorem hGramErrors274_ok : HOk Tryd.prog hGramErrors274 := hok_eq mmGramErrors_ok hmGramErrors274_ok folGramErrors (lf := 100000) (k := 1000) (by kernel_rfl)
def hmGramErrors275 : List HE := hGramErrors274 :: hmGramErrors274
theorem hmGramErrors275_ok : ∀ x ∈ hmGramErrors275, HOk Tryd.prog x := hmemo_cons hGramErrors274_ok hmGramErrors274_ok
def hGramErrors275 : HE := ⟨64, [(eS [83,58,32,97,32,83,32,124,32,98])], [], [((.val (.tup [(.agg [(eI 1),(eS [83]),(eI 0),(eI 0)]),(eI 1),eB1])), [])]⟩
theorem hGramErrors275_ok : HOk Tryd.prog hGramErrors275 := hok_eq mmGramErrors_ok hmGramErrors275_ok folGramErrors (lf := 100000) (k := 1000) (by kernel_rfl)
def hmGramErrors276 : List HE := hGramErrors275 :: hmGramErrors275
theorem hmGramErrors276_ok : ∀ x ∈ hmGramErrors276, HOk Tryd.prog x := hmemo_cons hGramErrors275_ok hmGramErrors275_ok
def hGramErrors276 : HE := ⟨64, [(eS [58,32,97,32,83,32,124,32,98])], [], [((.val (.tup [(.agg [(eI 3),(eS [58]),(eI 0),(eI 0)]),(eI 1),eB1])), [])]⟩
theorem hGramErrors276_ok : HOk Tryd.prog hGramErrors276 := hok_eq mmGramErrors_ok hmGramErrors276_ok folGramErrors (lf := 100000) (k := 1000) (by kernel_rfl)
def hmGramErrors277 : List HE := hGramErrors276 :: hmGramErrors276
theorem hmGramErrors277_ok : ∀ x ∈ hmGramErrors277, HOk Tryd.prog x := hmemo_cons hGramErrors276_ok hmGramErrors276_ok
def hGramErrors277 : HE := ⟨77, [(eS [97,32,83,32,124,32,98])], [], [((.val (eI 1)), [])]⟩
theorem hGramErrors277_ok : HOk Tryd.prog hGramErrors277 := hok_eq mmGramErrors_ok hmGramErrors277_ok folGramErrors (lf := 100000) (k := 1000) (by kernel_rfl)
def hmGramErrors278 : List HE := hGramErrors277 :: hmGramErrors277
theorem hmGramErrors278_ok : ∀ x ∈ hmGramErrors278, HOk Tryd.prog x := hmemo_cons hGramErrors277_ok hmGramErrors277_ok
def hGramErrors278 : HE := ⟨64, [(eS [97,32,83,32,124,32,98])], [], [((.val (.tup [(.agg [(eI 2),(eS [97]),(eI 0),(eI 0)]),(eI 1),eB1])), [])]⟩
theorem hGramErrors278_ok : HOk Tryd.prog hGramErrors278 := hok_eq mmGramErrors_ok hmGramErrors278_ok folGramErrors (lf := 100000) (k := 1000) (by kernel_rfl)
def hmGramErrors279 : List HE := hGramErrors278 :: hmGramErrors278
theorem hmGramErrors279_ok : ∀ x ∈ hmGramErrors279, HOk Tryd.prog x := hmemo_cons hGramErrors278_ok hmGramErrors278_ok
def hGramErrors279 : HE := ⟨77, [(eS [83,32,124,32,98])], [], [((.val (eI 1)), [])]⟩
theorem hGramErrors279_ok : HOk Tryd.prog hGramErrors279 := hok_eq mmGramErrors_ok hmGramErrors279_ok folGramErrors (lf := 100000) (k := 1000) (by kernel_rfl)
def hmGramErrors280 : List HE := hGramErrors279 :: hmGramErrors279
theorem hmGramErrors280_ok : ∀ x ∈ hmGramErrors280, HOk Tryd.prog x := hmemo_cons hGramErrors279_ok hmGramErrors279_ok
def hGramErrors280 : HE := ⟨64, [(eS [83,32,124,32,98])], [], [((.val (.tup [(.agg [(eI 1),(eS [83]),(eI 0),(eI 0)]),(eI 1),eB1])), [])]⟩
theorem hGramErrors280_ok : HOk Tryd.prog hGramErrors280 := hok_eq mmGramErrors_ok hmGramErrors280_ok folGramErrors (lf := 100000) (k := 1000) (by kernel_rfl)
def hmGramErrors281 : List HE := hGramErrors280 :: hmGramErrors280
theorem hmGramErrors281_ok : ∀ x ∈ hmGramErrors281, HOk Tryd.prog x := hmemo_cons hGramErrors280_ok hmGramErrors280_ok
def hGramErrors281 : HE := ⟨64, [(eS [124,32,98])], [], [((.val (.tup [(.agg [(eI 4),(eS [124]),(eI 0),(eI 0)]),(eI 1),eB1])), [])]⟩
theorem hGramErrors281_ok : HOk Tryd.prog hGramErrors281 := hok_eq mmGramErrors_ok hmGramErrors281_ok folGramErrors (lf := 100000) (k := 1000) (by kernel_rfl)
def hmGramErrors282 : List HE := hGramErrors281 :: hmGramErrors281
theorem hmGramErrors282_ok : ∀ x ∈ hmGramErrors282, HOk Tryd.prog x := hmemo_cons hGramErrors281_ok hmGramErrors281_ok
def bgramErrors100 : Blk := ⟨[(eI 1),(eS [83]),(eI 1),(eI 1),(eI 3),(eS [58]),(eI 1),(eI 2),(eI 2),(eS [97]),(eI 1),(eI 4),(eI 1),(eS [83]),(eI 1),(eI 6),(eI 4),(eS [124]),(eI 1),(eI 8),(eI 2),(eS [98]),(eI 1),(eI 10)],81,[(5,24),(4,20),(3,16),(2,12),(1,8),(0,4)],6,0,false,5,none⟩
def hGramErrors282 : HE := ⟨44, [(eS [83,58,32,97,32,83,32,124,32,98]),(eI 1)], [], [((.val (.tup [(.sl 0 5 0 6 none 4),(eI 0)])), [bgramErrors100])]⟩
theorem hGramErrors282_ok : HOk Tryd.prog hGramErrors282 := hok_eq mmGramErrors_ok hmGramErrors282_ok folGramErrors (lf := 100000) (k := 1000) (by kernel_rfl)
def hmGramErrors283 : List HE := hGramErrors282 :: hmGramErrors282
theorem hmGramErrors283_ok : ∀ x ∈ hmGramErrors283, HOk Tryd.prog x := hmemo_cons hGramErrors282_ok hmGramErrors282_ok
def bgramErrors101 : Blk := ⟨[(eI 1),(eS [83]),(eI 1),(eI 1),(eI 3),(eS [58]),(eI 1),(eI 2),(eI 2),(eS [97]),(eI 1),(eI 4),(eI 1),(eS [83]),(eI 1),(eI 6),(eI 4),(eS [124]),(eI 1),(eI 8),(eI 2),(eS [98]),(eI 1),(eI 10),(eI 5),(eS []),(eI 1),(eI 11)],81,[(1,28),(0,24)],2,0,false,1,none⟩
def hGramErrors283 : HE := ⟨19, [(eS [83,58,32,97,32,83,32,124,32,98])], [], [((.val (.tup [(.sl 0 1 0 7 none 4),(eI 0),(eI 0),(eI 0)])), [bgramErrors101])]⟩
theorem hGramErrors283_ok : HOk Tryd.prog hGramErrors283 := hok_eq mmGramErrors_ok hmGramErrors283_ok folGramErrors (lf := 100000) (k := 1000) (by kernel_rfl)
def hmGramErrors284 : List HE := hGramErrors283 :: hmGramErrors283
theorem hmGramErrors284_ok : ∀ x ∈ hmGramErrors284, HOk Tryd.prog x := hmemo_cons hGramErrors283_ok hmGramErrors283_ok
def bgramErrors102 : Blk := ⟨[(.sl 2 1 0 2 none 4),(eI 2),(eS [97]),(eI 1),(eI 4),(.sl 3 0 0 1 none 4),(eI 2),(eS [98]),(eI 1),(eI 10)],91,[(1,10),(0,5)],2,0,false,1,none⟩
def bgramErrors103 : Blk := ⟨[(eI 2),(eS [97]),(eI 1),(eI 4),(eI 1),(eS [83]),(eI 1),(eI 6)],81,[(1,8),(0,4)],2,0,false,1,none⟩
def bgramErrors104 : Blk := ⟨[(eI 2),(eS [98]),(eI 1),(eI 10)],81,[(0,4)],1,0,false,0,none⟩
def hGramErrors284 : HE := ⟨48, [(.sl 0 1 0 7 none 4)], [bgramErrors101], [((.val (.agg [(eI 1),(eS [83]),(eI 1),(eI 1),(.sl 1 1 0 2 none 5)])), [bgramErrors102, bgramErrors103, bgramErrors104])]⟩
theorem hGramErrors284_ok : HOk Tryd.prog hGramErrors284 := hok_eq mmGramErrors_ok hmGramErrors284_ok folGramErrors (lf := 100000) (k := 1000) (by kernel_rfl)
def hmGramErrors285 : List HE := hGramErrors284 :: hmGramErrors284
theorem hmGramErrors285_ok : ∀ x ∈ hmGramErrors285, HOk Tryd.prog x := hmemo_cons hGramErrors284_ok hmGramErrors284_ok
def bgramErrors105 : Blk := ⟨[(eI 1),(eS [83]),(eI 1),(eI 1),(.sl 2 1 0 2 none 5)],87,[(0,5)],1,0,false,0,none⟩
def bgramErrors106 : Blk := ⟨[(.sl 3 1 0 2 none 4),(eI 2),(eS [97]),(eI 1),(eI 4),(.sl 4 0 0 1 none 4),(eI 2),(eS [98]),(eI 1),(eI 10)],91,[(1,10),(0,5)],2,0,false,1,none⟩
def hGramErrors285 : HE := ⟨22, [(.sl 0 1 0 7 none 4)], [bgramErrors101], [((.val (.sl 1 0 0 1 none 5)), [bgramErrors105, bgramErrors106, bgramErrors103, bgramErrors104])]⟩
theorem hGramErrors285_ok : HOk Tryd.prog hGramErrors285 := hok_eq mmGramErrors_ok hmGramErrors285_ok folGramErrors (lf := 100000) (k := 1000) (by kernel_rfl)
def hmGramErrors286 : List HE := hGramErrors285 :: hmGramErrors285
theorem hmGramErrors286_ok : ∀ x ∈ hmGramErrors286, HOk Tryd.prog x := hmemo_cons hGramErrors285_ok hmGramErrors285_ok
def bgramErrors107 : Blk := ⟨[(eI 1),(eI 100)],3,[(1,2),(0,1)],2,0,false,1,none⟩
def hGramErrors286 : HE := ⟨57, [(.lit (.slice none 0 0)),(.agg [(eI 100),(.sl 0 1 0 2 none 1)])], [bgramErrors107], [((.val eB0), [])]⟩
theorem hGramErrors286_ok : HOk Tryd.prog hGramErrors286 := hok_eq mmGramErrors_ok hmGramErrors286_ok folGramErrors (lf := 100000) (k := 1000) (by kernel_rfl)
def hmGramErrors287 : List HE := hGramErrors286 :: hmGramErrors286
theorem hmGramErrors287_ok : ∀ x ∈ hmGramErrors287, HOk Tryd.prog x := hmemo_cons hGramErrors286_ok hmGramErrors286_ok
def bgramErrors108 : Blk := ⟨[(eI 100),(.sl 1 1 0 2 none 1)],41,[(0,2)],1,0,false,0,none⟩
def hGramErrors287 : HE := ⟨57, [(.sl 0 0 0 1 none 2),(.agg [(eI 100),(.sl 2 0 0 1 none 1)])], [bgramErrors108, bgramErrors107, bgramErrors41], [((.val eB0), [])]⟩
theorem hGramErrors287_ok : HOk Tryd.prog hGramErrors287 := hok_eq mmGramErrors_ok hmGramErrors287_ok folGramErrors (lf := 100000) (k := 1000) (by kernel_rfl)
def hmGramErrors288 : List HE := hGramErrors287 :: hmGramErrors287
theorem hmGramErrors288_ok : ∀ x ∈ hmGramErrors288, HOk Tryd.prog x := hmemo_cons hGramErrors287_ok hmGramErrors287_ok
def bgramErrors109 : Blk := ⟨[(eI 1),(eS [83]),(eI 1),(eI 1),(.sl 1 1 0 2 none 5)],87,[(0,5)],1,0,false,0,none⟩
def bgramErrors110 : Blk := ⟨[(eS [97]),(eS [98])],9,[(1,2),(0,1)],2,0,false,1,none⟩
def bgramErrors111 : Blk := ⟨[(eI 100),(.sl 7 1 0 2 none 1),(eI 100),(.sl 8 0 0 1 none 1)],41,[(1,4),(0,2)],2,0,false,1,none⟩
def hGramErrors288 : HE := ⟨21, [(.sl 0 0 0 1 none 5)], [bgramErrors109, bgramErrors102, bgramErrors103, bgramErrors104], [((.val (.agg [(.sl 4 1 0 2 none 1),(.sl 5 0 0 1 none 1),(.sl 6 1 0 2 none 2)])), [bgramErrors110, bgramErrors21, bgramErrors111, bgramErrors107, bgramErrors41])]⟩
theorem hGramErrors288_ok : HOk Tryd.prog hGramErrors288 := hok_eq mmGramErrors_ok hmGramErrors288_ok folGramErrors (lf := 100000) (k := 1000) (by kernel_rfl)
def hmGramErrors289 : List HE := hGramErrors288 :: hmGramErrors288
theorem hmGramErrors289_ok : ∀ x ∈ hmGramErrors289, HOk Tryd.prog x := hmemo_cons hGramErrors288_ok hmGramErrors288_ok
def bgramErrors112 : Blk := ⟨[(eI 100),(.sl 3 1 0 2 none 1),(eI 100),(.sl 4 0 0 1 none 1)],41,[(1,4),(0,2)],2,0,false,1,none⟩
def hGramErrors289 : HE := ⟨8, [(eS [83,58,32,97,32,83,32,124,32,98])], [], [((.val (.tup [(.agg [(.sl 0 1 0 2 none 1),(.sl 1 0 0 1 none 1),(.sl 2 1 0 2 none 2)]),(eI 0),(eI 0),(eI 0)])), [bgramErrors110, bgramErrors21, bgramErrors112, bgramErrors107, bgramErrors41])]⟩
theorem hGramErrors289_ok : HOk Tryd.prog hGramErrors289 := hok_eq mmGramErrors_ok hmGramErrors289_ok folGramErrors (lf := 100000) (k := 1000) (by kernel_rfl)
def hmGramErrors290 : List HE := hGramErrors289 :: hmGramErrors289
theorem hmGramErrors290_ok : ∀ x ∈ hmGramErrors290, HOk Tryd.prog x := hmemo_cons hGramErrors289_ok hmGramErrors289_ok
def hGramErrors290 : HE := ⟨11, [], [], [((.val eB1), [])]⟩
theorem hGramErrors290_ok : HOk Tryd.prog hGramErrors290 := hok_eq mmGramErrors_ok hmGramErrors290_ok folGramErrors (lf := 100000) (k := 1000) (by kernel_rfl)
def hmGramErrors291 : List HE := hGramErrors290 :: hmGramErrors290
theorem hmGramErrors291_ok : ∀ x ∈ hmGramErrors291, HOk Tryd.prog x := hmemo_cons hGramErrors290_ok hmGramErrors290_ok
def hGramErrors291 : HE := ⟨44, [(eS [83,58,32,97,32,59]),(eI 3)], [], [((.val (.tup [(.lit (.slice none 0 0)),(eI 6)])), [])]⟩
theorem hGramErrors291_ok : HOk Tryd.prog hGramErrors291 := hok_eq mmGramErrors_ok hmGramErrors291_ok folGramErrors (lf := 100000) (k := 1000) (by kernel_rfl)
def hmGramErrors292 : List HE := hGramErrors291 :: hmGramErrors291
theorem hmGramErrors292_ok : ∀ x ∈ hmGramErrors292, HOk Tryd.prog x := hmemo_cons hGramErrors291_ok hmGramErrors291_ok
def hGramErrors292 : HE := ⟨19, [(eS [10,10,83,58,32,97,32,59])], [], [((.val (.tup [(.lit (.slice none 0 0)),(eI 3),(eI 6),(eI 2)])), [])]⟩
theorem hGramErrors292_ok : HOk Tryd.prog hGramErrors292 := hok_eq mmGramErrors_ok hmGramErrors292_ok folGramErrors (lf := 100000) (k := 1000) (by kernel_rfl)
def hmGramErrors293 : List HE := hGramErrors292 :: hmGramErrors292
theorem hmGramErrors293_ok : ∀ x ∈ hmGramErrors293, HOk Tryd.prog x := hmemo_cons hGramErrors292_ok hmGramErrors292_ok
def hGramErrors293 : HE := ⟨8, [(eS [10,10,83,58,32,97,32,59])], [], [((.val (.tup [(.agg [(.lit (.slice none 0 0)),(.lit (.slice none 0 0)),(.lit (.slice none 0 0))]),(eI 3),(eI 6),(eI 2)])), [])]⟩
theorem hGramErrors293_ok : HOk Tryd.prog hGramErrors293 := hok_eq mmGramErrors_ok hmGramErrors293_ok folGramErrors (lf := 100000) (k := 1000) (by kernel_rfl)
def hmGramErrors294 : List HE := hGramErrors293 :: hmGramErrors293
theorem hmGramErrors294_ok : ∀ x ∈ hmGramErrors294, HOk Tryd.prog x := hmemo_cons hGramErrors293_ok hmGramErrors293_ok
def bgramErrors113 : Blk := ⟨[(eI 2),(eS [97]),(eI 3),(eI 1),(eI 3),(eS [58]),(eI 3),(eI 2),(eI 2),(eS [98]),(eI 3),(eI 4)],81,[(2,12),(1,8),(0,4)],3,0,false,2,none⟩
def hGramErrors294 : HE := ⟨44, [(eS [97,58,32,98]),(eI 3)], [], [((.val (.tup [(.sl 0 2 0 3 none 4),(eI 0)])), [bgramErrors113])]⟩
theorem hGramErrors294_ok : HOk Tryd.prog hGramErrors294 := hok_eq mmGramErrors_ok hmGramErrors294_ok folGramErrors (lf := 100000) (k := 1000) (by kernel_rfl)
def hmGramErrors295 : List HE := hGramErrors294 :: hmGramErrors294
theorem hmGramErrors295_ok : ∀ x ∈ hmGramErrors295, HOk Tryd.prog x := hmemo_cons hGramErrors294_ok hmGramErrors294_ok
def bgramErrors114 : Blk := ⟨[(eI 5),(eS []),(eI 1),(eI 1),(eI 5),(eS []),(eI 2),(eI 1),(eI 2),(eS [97]),(eI 3),(eI 1),(eI 3),(eS [58]),(eI 3),(eI 2),(eI 2),(eS [98]),(eI 3),(eI 4),(eI 5),(eS []),(eI 3),(eI 5)],81,[(3,24),(2,20),(1,8),(0,4)],4,0,false,3,none⟩
def hGramErrors295 : HE := ⟨19, [(eS [10,10,97,58,32,98,10])], [], [((.val (.tup [(.sl 0 3 0 6 none 4),(eI 0),(eI 0),(eI 0)])), [bgramErrors114])]⟩
theorem hGramErrors295_ok : HOk Tryd.prog hGramErrors295 := hok_eq mmGramErrors_ok hmGramErrors295_ok folGramErrors (lf := 100000) (k := 1000) (by kernel_rfl)
def hmGramErrors296 : List HE := hGramErrors295 :: hmGramErrors295
theorem hmGramErrors296_ok : ∀ x ∈ hmGramErrors296, HOk Tryd.prog x := hmemo_cons hGramErrors295_ok hmGramErrors295_ok
def hGramErrors296 : HE := ⟨48, [(.sl 0 3 8 4 none 4)], [bgramErrors114], [((.panic (.iface 51 (.agg [(eI 3),(eI 1),(eI 2)]))), [])]⟩
theorem hGramErrors296_ok : HOk Tryd.prog hGramErrors296 := hok_eq mmGramErrors_ok hmGramErrors296_ok folGramErrors (lf := 100000) (k := 1000) (by kernel_rfl)
def hmGramErrors297 : List HE := hGramErrors296 :: hmGramErrors296
theorem hmGramErrors297_ok : ∀ x ∈ hmGramErrors297, HOk Tryd.prog x := hmemo_cons hGramErrors296_ok hmGramErrors296_ok
def hGramErrors297 : HE := ⟨22, [(.sl 0 3 0 6 none 4)], [bgramErrors114], [((.panic (.iface 51 (.agg [(eI 3),(eI 1),(eI 2)]))), [])]⟩
theorem hGramErrors297_ok : HOk Tryd.prog hGramErrors297 := hok_eq mmGramErrors_ok hmGramErrors297_ok folGramErrors (lf := 100000) (k := 1000) (by kernel_rfl)
def hmGramErrors298 : List HE := hGramErrors297 :: hmGramErrors297
theorem hmGramErrors298_ok : ∀ x ∈ hmGramErrors298, HOk Tryd.prog x := hmemo_cons hGramErrors297_ok hmGramErrors297_ok
def hGramErrors298 : HE := ⟨8, [(eS [10,10,97,58,32,98,10])], [], [((.val (.tup [(.agg [(.lit (.slice none 0 0)),(.lit (.slice none 0 0)),(.lit (.slice none 0 0))]),(eI 3),(eI 1),(eI 2)])), [])]⟩
theorem hGramErrors298_ok : HOk Tryd.prog hGramErrors298 := hok_eq mmGramErrors_ok hmGramErrors298_ok folGramErrors (lf := 100000) (k := 1000) (by kernel_rfl)
def hmGramErrors299 : List HE := hGramErrors298 :: hmGramErrors298
theorem hmGramErrors299_ok : ∀ x ∈ hmGramErrors299, HOk Tryd.prog x := hmemo_cons hGramErrors298_ok hmGramErrors298_ok
def bgramErrors115 : Blk := ⟨[(eI 1),(eS [83]),(eI 3),(eI 1),(eI 2),(eS [97]),(eI 3),(eI 3)],81,[(1,8),(0,4)],2,0,false,1,none⟩
def hGramErrors299 : HE := ⟨44, [(eS [83,32,97]),(eI 3)], [], [((.val (.tup [(.sl 0 1 0 2 none 4),(eI 0)])), [bgramErrors115])]⟩
theorem hGramErrors299_ok : HOk Tryd.prog hGramErrors299 := hok_eq mmGramErrors_ok hmGramErrors299_ok folGramErrors (lf := 100000) (k := 1000) (by kernel_rfl)
def hmGramErrors300 : List HE := hGramErrors299 :: hmGramErrors299
theorem hmGramErrors300_ok : ∀ x ∈ hmGramErrors300, HOk Tryd.prog x := hmemo_cons hGramErrors299_ok hmGramErrors299_ok
def bgramErrors116 : Blk := ⟨[(eI 5),(eS []),(eI 1),(eI 1),(eI 5),(eS []),(eI 2),(eI 1),(eI 1),(eS [83]),(eI 3),(eI 1),(eI 2),(eS [97]),(eI 3),(eI 3),(eI 5),(eS []),(eI 3),(eI 4)],81,[(3,20),(2,16),(1,8),(0,4)],4,0,false,3,none⟩
def hGramErrors300 : HE := ⟨19, [(eS [10,10,83,32,97,10])], [], [((.val (.tup [(.sl 0 3 0 5 none 4),(eI 0),(eI 0),(eI 0)])), [bgramErrors116])]⟩
theorem hGramErrors300_ok : HOk Tryd.prog hGramErrors300 := hok_eq mmGramErrors_ok hmGramErrors300_ok folGramErrors (lf := 100000) (k := 1000) (by kernel_rfl)
def hmGramErrors301 : List HE := hGramErrors300 :: hmGramErrors300
theorem hmGramErrors301_ok : ∀ x ∈ hmGramErrors301, HOk Tryd.prog x := hmemo_cons hGramErrors300_ok hmGramErrors300_ok
def hGramErrors301 : HE := ⟨48, [(.sl 0 3 8 3 none 4)], [bgramErrors116], [((.panic (.iface 51 (.agg [(eI 3),(eI 3),(eI 2)]))), [])]⟩
theorem hGramErrors301_ok : HOk Tryd.prog hGramErrors301 := hok_eq mmGramErrors_ok hmGramErrors301_ok folGramErrors (lf := 100000) (k := 1000) (by kernel_rfl)
def hmGramErrors302 : List HE := hGramErrors301 :: hmGramErrors301
theorem hmGramErrors302_ok : ∀ x ∈ hmGramErrors302, HOk Tryd.prog x := hmemo_cons hGramErrors301_ok hmGramErrors301_ok
def hGramErrors302 : HE := ⟨22, [(.sl 0 3 0 5 none 4)], [bgramErrors116], [((.panic (.iface 51 (.agg [(eI 3),(eI 3),(eI 2)]))), [])]⟩
theorem hGramErrors302_ok : HOk Tryd.prog hGramErrors302 := hok_eq mmGramErrors_ok hmGramErrors302_ok folGramErrors (lf := 100000) (k := 1000) (by kernel_rfl)
def hmGramErrors303 : List HE := hGramErrors302 :: hmGramErrors302
theorem hmGramErrors303_ok : ∀ x ∈ hmGramErrors303, HOk Tryd.prog x := hmemo_cons hGramErrors302_ok hmGramErrors302_ok
def hGramErrors303 : HE := ⟨8, [(eS [10,10,83,32,97,10])], [], [((.val (.tup [(.agg [(.lit (.slice none 0 0)),(.lit (.slice none 0 0)),(.lit (.slice none 0 0))]),(eI 3),(eI 3),(eI 2)])), [])]⟩
theorem hGramErrors303_ok : HOk Tryd.prog hGramErrors303 := hok_eq mmGramErrors_ok hmGramErrors303_ok folGramErrors (lf := 100000) (k := 1000) (by kernel_rfl)
def hmGramErrors304 : List HE := hGramErrors303 :: hmGramErrors303
theorem hmGramErrors304_ok : ∀ x ∈ hmGramErrors304, HOk Tryd.prog x := hmemo_cons hGramErrors303_ok hmGramErrors303_ok
def bgramErrors117 : Blk := ⟨[(eI 1),(eS [83]),(eI 3),(eI 1),(eI 3),(eS [58]),(eI 3),(eI 2),(eI 2),(eS [97]),(eI 3),(eI 4),(eI 3),(eS [58]),(eI 3),(eI 6),(eI 2),(eS [98]),(eI 3),(eI 8)],81,[(4,20),(3,16),(2,12),(1,8),(0,4)],5,0,false,4,none⟩
def hGramErrors304 : HE := ⟨44, [(eS [83,58,32,97,32,58,32,98]),(eI 3)], [], [((.val (.tup [(.sl 0 4 0 5 none 4),(eI 0)])), [bgramErrors117])]⟩
theorem hGramErrors304_ok : HOk Tryd.prog hGramErrors304 := hok_eq mmGramErrors_ok hmGramErrors304_ok folGramErrors (lf := 100000) (k := 1000) (by kernel_rfl)
def hmGramErrors305 : List HE := hGramErrors304 :: hmGramErrors304
theorem hmGramErrors305_ok : ∀ x ∈ hmGramErrors305, HOk Tryd.prog x := hmemo_cons hGramErrors304_ok hmGramErrors304_ok
def bgramErrors118 : Blk := ⟨[(eI 5),(eS []),(eI 1),(eI 1),(eI 5),(eS []),(eI 2),(eI 1),(eI 1),(eS [83]),(eI 3),(eI 1),(eI 3),(eS [58]),(eI 3),(eI 2),(eI 2),(eS [97]),(eI 3),(eI 4),(eI 3),(eS [58]),(eI 3),(eI 6),(eI 2),(eS [98]),(eI 3),(eI 8),(eI 5),(eS []),(eI 3),(eI 9)],81,[(3,32),(2,28),(1,8),(0,4)],4,0,false,3,none⟩
def hGramErrors305 : HE := ⟨19, [(eS [10,10,83,58,32,97,32,58,32,98,10])], [], [((.val (.tup [(.sl 0 3 0 8 none 4),(eI 0),(eI 0),(eI 0)])), [bgramErrors118])]⟩
theorem hGramErrors305_ok : HOk Tryd.prog hGramErrors305 := hok_eq mmGramErrors_ok hmGramErrors305_ok folGramErrors (lf := 100000) (k := 1000) (by kernel_rfl)
def hmGramErrors306 : List HE := hGramErrors305 :: hmGramErrors305
theorem hmGramErrors306_ok : ∀ x ∈ hmGramErrors306, HOk Tryd.prog x := hmemo_cons hGramErrors305_ok hmGramErrors305_ok
def hGramErrors306 : HE := ⟨48, [(.sl 0 3 8 6 none 4)], [bgramErrors118], [((.panic (.iface 51 (.agg [(eI 3),(eI 6),(eI 2)]))), [])]⟩
theorem hGramErrors306_ok : HOk Tryd.prog hGramErrors306 := hok_eq mmGramErrors_ok hmGramErrors306_ok folGramErrors (lf := 100000) (k := 1000) (by kernel_rfl)
def hmGramErrors307 : List HE := hGramErrors306 :: hmGramErrors306
theorem hmGramErrors307_ok : ∀ x ∈ hmGramErrors307, HOk Tryd.prog x := hmemo_cons hGramErrors306_ok hmGramErrors306_ok
def hGramErrors307 : HE := ⟨22, [(.sl 0 3 0 8 none 4)], [bgramErrors118], [((.panic (.iface 51 (.agg [(eI 3),(eI 6),(eI 2)]))), [])]⟩
theorem hGramErrors307_ok : HOk Tryd.prog hGramErrors307 := hok_eq mmGramErrors_ok hmGramErrors307_ok folGramErrors (lf := 100000) (k := 1000) (by kernel_rfl)
def hmGramErrors308 : List HE := hGramErrors307 :: hmGramErrors307
theorem hmGramErrors308_ok : ∀ x ∈ hmGramErrors308, HOk Tryd.prog x := hmemo_cons hGramErrors307_ok hmGramErrors307_ok
def hGramErrors308 : HE := ⟨8, [(eS [10,10,83,58,32,97,32,58,32,98,10])], [], [((.val (.tup [(.agg [(.lit (.slice none 0 0)),(.lit (.slice none 0 0)),(.lit (.slice none 0 0))]),(eI 3),(eI 6),(eI 2)])), [])]⟩
theorem hGramErrors308_ok : HOk Tryd.prog hGramErrors308 := hok_eq mmGramErrors_ok hmGramErrors308_ok folGramErrors (lf := 100000) (k := 1000) (by kernel_rfl)
def hmGramErrors309 : List HE := hGramErrors308 :: hmGramErrors308
theorem hmGramErrors309_ok : ∀ x ∈ hmGramErrors309, HOk Tryd.prog x := hmemo_cons hGramErrors308_ok hmGramErrors308_ok
def bgramErrors119 : Blk := ⟨[(eI 1),(eS [83]),(eI 3),(eI 1)],81,[(0,4)],1,0,false,0,none⟩
def hGramErrors309 : HE := ⟨44, [(eS [83]),(eI 3)], [], [((.val (.tup [(.sl 0 0 0 1 none 4),(eI 0)])), [bgramErrors119])]⟩
theorem hGramErrors309_ok : HOk Tryd.prog hGramErrors309 := hok_eq mmGramErrors_ok hmGramErrors309_ok folGramErrors (lf := 100000) (k := 1000) (by kernel_rfl)
def hmGramErrors310 : List HE := hGramErrors309 :: hmGramErrors309
theorem hmGramErrors310_ok : ∀ x ∈ hmGramErrors310, HOk Tryd.prog x := hmemo_cons hGramErrors309_ok hmGramErrors309_ok
def bgramErrors120 : Blk := ⟨[(eI 5),(eS []),(eI 1),(eI 1),(eI 5),(eS []),(eI 2),(eI 1),(eI 1),(eS [83]),(eI 3),(eI 1),(eI 5),(eS []),(eI 3),(eI 2)],81,[(3,16),(2,12),(1,8),(0,4)],4,0,false,3,none⟩
def hGramErrors310 : HE := ⟨19, [(eS [10,10,83,10])], [], [((.val (.tup [(.sl 0 3 0 4 none 4),(eI 0),(eI 0),(eI 0)])), [bgramErrors120])]⟩
theorem hGramErrors310_ok : HOk Tryd.prog hGramErrors310 := hok_eq mmGramErrors_ok hmGramErrors310_ok folGramErrors (lf := 100000) (k := 1000) (by kernel_rfl)
def hmGramErrors311 : List HE := hGramErrors310 :: hmGramErrors310
theorem hmGramErrors311_ok : ∀ x ∈ hmGramErrors311, HOk Tryd.prog x := hmemo_cons hGramErrors310_ok hmGramErrors310_ok
def hGramErrors311 : HE := ⟨48, [(.sl 0 3 8 2 none 4)], [bgramErrors120], [((.panic (.iface 51 (.agg [(eI 3),(eI 2),(eI 2)]))), [])]⟩
theorem hGramErrors311_ok : HOk Tryd.prog hGramErrors311 := hok_eq mmGramErrors_ok hmGramErrors311_ok folGramErrors (lf := 100000) (k := 1000) (by kernel_rfl)
def hmGramErrors312 : List HE := hGramErrors311 :: hmGramErrors311
theorem hmGramErrors312_ok : ∀ x ∈ hmGramErrors312, HOk Tryd.prog x := hmemo_cons hGramErrors311_ok hmGramErrors311_ok
def hGramErrors312 : HE := ⟨22, [(.sl 0 3 0 4 none 4)], [bgramErrors120], [((.panic (.iface 51 (.agg [(eI 3),(eI 2),(eI 2)]))), [])]⟩
theorem hGramErrors312_ok : HOk Tryd.prog hGramErrors312 := hok_eq mmGramErrors_ok hmGramErrors312_ok folGramErrors (lf := 100000) (k := 1000) (by kernel_rfl)
def hmGramErrors313 : List HE := hGramErrors312 :: hmGramErrors312
theorem hmGramErrors313_ok : ∀ x ∈ hmGramErrors313, HOk Tryd.prog x := hmemo_cons hGramErrors312_ok hmGramErrors312_ok
def hGramErrors313 : HE := ⟨8, [(eS [10,10,83,10])], [], [((.val (.tup [(.agg [(.lit (.slice none 0 0)),(.lit (.slice none 0 0)),(.lit (.slice none 0 0))]),(eI 3),(eI 2),(eI 2)])), [])]⟩
theorem hGramErrors313_ok : HOk Tryd.prog hGramErrors313 := hok_eq mmGramErrors_ok hmGramErrors313_ok folGramErrors (lf := 100000) (k := 1000) (by kernel_rfl)
def hmGramErrors314 : List HE := hGramErrors313 :: hmGramErrors313
theorem hmGramErrors314_ok : ∀ x ∈ hmGramErrors314, HOk Tryd.prog x := hmemo_cons hGramErrors313_ok hmGramErrors313_ok
def bgramErrors121 : Blk := ⟨[(eI 4),(eS [124]),(eI 3),(eI 1),(eI 2),(eS [97]),(eI 3),(eI 3)],81,[(1,8),(0,4)],2,0,false,1,none⟩
def hGramErrors314 : HE := ⟨44, [(eS [124,32,97]),(eI 3)], [], [((.val (.tup [(.sl 0 1 0 2 none 4),(eI 0)])), [bgramErrors121])]⟩
theorem hGramErrors314_ok : HOk Tryd.prog hGramErrors314 := hok_eq mmGramErrors_ok hmGramErrors314_ok folGramErrors (lf := 100000) (k := 1000) (by kernel_rfl)
def hmGramErrors315 : List HE := hGramErrors314 :: hmGramErrors314
theorem hmGramErrors315_ok : ∀ x ∈ hmGramErrors315, HOk Tryd.prog x := hmemo_cons hGramErrors314_ok hmGramErrors314_ok
def bgramErrors122 : Blk := ⟨[(eI 5),(eS []),(eI 1),(eI 1),(eI 5),(eS []),(eI 2),(eI 1),(eI 4),(eS [124]),(eI 3),(eI 1),(eI 2),(eS [97]),(eI 3),(eI 3),(eI 5),(eS []),(eI 3),(eI 4)],81,[(3,20),(2,16),(1,8),(0,4)],4,0,false,3,none⟩
def hGramErrors315 : HE := ⟨19, [(eS [10,10,124,32,97,10])], [], [((.val (.tup [(.sl 0 3 0 5 none 4),(eI 0),(eI 0),(eI 0)])), [bgramErrors122])]⟩
theorem hGramErrors315_ok : HOk Tryd.prog hGramErrors315 := hok_eq mmGramErrors_ok hmGramErrors315_ok folGramErrors (lf := 100000) (k := 1000) (by kernel_rfl)
def hmGramErrors316 : List HE := hGramErrors315 :: hmGramErrors315
theorem hmGramErrors316_ok : ∀ x ∈ hmGramErrors316, HOk Tryd.prog x := hmemo_cons hGramErrors315_ok hmGramErrors315_ok
def hGramErrors316 : HE := ⟨48, [(.sl 0 3 8 3 none 4)], [bgramErrors122], [((.panic (.iface 51 (.agg [(eI 3),(eI 1),(eI 2)]))), [])]⟩
theorem hGramErrors316_ok : HOk Tryd.prog hGramErrors316 := hok_eq mmGramErrors_ok hmGramErrors316_ok folGramErrors (lf := 100000) (k := 1000) (by kernel_rfl)
def hmGramErrors317 : List HE := hGramErrors316 :: hmGramErrors316
theorem hmGramErrors317_ok : ∀ x ∈ hmGramErrors317, HOk Tryd.prog x := hmemo_cons hGramErrors316_ok hmGramErrors316_ok
def hGramErrors317 : HE := ⟨22, [(.sl 0 3 0 5 none 4)], [bgramErrors122], [((.panic (.iface 51 (.agg [(eI 3),(eI 1),(eI 2)]))), [])]⟩
theorem hGramErrors317_ok : HOk Tryd.prog hGramErrors317 := hok_eq mmGramErrors_ok hmGramErrors317_ok folGramErrors (lf := 100000) (k := 1000) (by kernel_rfl)
def hmGramErrors318 : List HE := hGramErrors317 :: hmGramErrors317
theorem hmGramErrors318_ok : ∀ x ∈ hmGramErrors318, HOk Tryd.prog x := hmemo_cons hGramErrors317_ok hmGramErrors317_ok
def hGramErrors318 : HE := ⟨8, [(eS [10,10,124,32,97,10])], [], [((.val (.tup [(.agg [(.lit (.slice none 0 0)),(.lit (.slice none 0 0)),(.lit (.slice none 0 0))]),(eI 3),(eI 1),(eI 2)])), [])]⟩
theorem hGramErrors318_ok : HOk Tryd.prog hGramErrors318 := hok_eq mmGramErrors_ok hmGramErrors318_ok folGramErrors (lf := 100000) (k := 1000) (by kernel_rfl)
def hmGramErrors319 : List HE := hGramErrors318 :: hmGramErrors318
theorem hmGramErrors319_ok : ∀ x ∈ hmGramErrors319, HOk Tryd.prog x := hmemo_cons hGramErrors318_ok hmGramErrors318_ok
def bgramErrors123 : Blk := ⟨[(eI 1),(eS [83]),(eI 3),(eI 1),(eI 3),(eS [58]),(eI 3),(eI 2),(eI 1),(eS [84]),(eI 3),(eI 4)],81,[(2,12),(1,8),(0,4)],3,0,false,2,none⟩
def hGramErrors319 : HE := ⟨44, [(eS [83,58,32,84]),(eI 3)], [], [((.val (.tup [(.sl 0 2 0 3 none 4),(eI 0)])), [bgramErrors123])]⟩
theorem hGramErrors319_ok : HOk Tryd.prog hGramErrors319 := hok_eq mmGramErrors_ok hmGramErrors319_ok folGramErrors (lf := 100000) (k := 1000) (by kernel_rfl)
def hmGramErrors320 : List HE := hGramErrors319 :: hmGramErrors319
theorem hmGramErrors320_ok : ∀ x ∈ hmGramErrors320, HOk Tryd.prog x := hmemo_cons hGramErrors319_ok hmGramErrors319_ok
def bgramErrors124 : Blk := ⟨[(eI 1),(eS [83]),(eI 4),(eI 1),(eI 3),(eS [58]),(eI 4),(eI 2),(eI 2),(eS [97]),(eI 4),(eI 4)],81,[(2,12),(1,8),(0,4)],3,0,false,2,none⟩
def hGramErrors320 : HE := ⟨44, [(eS [83,58,32,97]),(eI 4)], [], [((.val (.tup [(.sl 0 2 0 3 none 4),(eI 0)])), [bgramErrors124])]⟩
theorem hGramErrors320_ok : HOk Tryd.prog hGramErrors320 := hok_eq mmGramErrors_ok hmGramErrors320_ok folGramErrors (lf := 100000) (k := 1000) (by kernel_rfl)
def hmGramErrors321 : List HE := hGramErrors320 :: hmGramErrors320
theorem hmGramErrors321_ok : ∀ x ∈ hmGramErrors321, HOk Tryd.prog x := hmemo_cons hGramErrors320_ok hmGramErrors320_ok
def bgramErrors125 : Blk := ⟨[(eI 5),(eS []),(eI 1),(eI 1),(eI 5),(eS []),(eI 2),(eI 1),(eI 1),(eS [83]),(eI 3),(eI 1),(eI 3),(eS [58]),(eI 3),(eI 2),(eI 1),(eS [84]),(eI 3),(eI 4),(eI 5),(eS []),(eI 3),(eI 5),(eI 1),(eS [83]),(eI 4),(eI 1),(eI 3),(eS [58]),(eI 4),(eI 2),(eI 2),(eS [97]),(eI 4),(eI 4),(eI 5),(eS []),(eI 4),(eI 5)],81,[(5,40),(4,36),(3,24),(2,20),(1,8),(0,4)],6,0,false,5,none⟩
def hGramErrors321 : HE := ⟨19, [(eS [10,10,83,58,32,84,10,83,58,32,97,10])], [], [((.val (.tup [(.sl 0 5 0 10 none 4),(eI 0),(eI 0),(eI 0)])), [bgramErrors125])]⟩
theorem hGramErrors321_ok : HOk Tryd.prog hGramErrors321 := hok_eq mmGramErrors_ok hmGramErrors321_ok folGramErrors (lf := 100000) (k := 1000) (by kernel_rfl)
def hmGramErrors322 : List HE := hGramErrors321 :: hmGramErrors321
theorem hmGramErrors322_ok : ∀ x ∈ hmGramErrors322, HOk Tryd.prog x := hmemo_cons hGramErrors321_ok hmGramErrors321_ok
def bgramErrors126 : Blk := ⟨[(.sl 2 0 0 1 none 4),(eI 1),(eS [84]),(eI 3),(eI 4)],91,[(0,5)],1,0,false,0,none⟩
def bgramErrors127 : Blk := ⟨[(eI 1),(eS [84]),(eI 3),(eI 4)],81,[(0,4)],1,0,false,0,none⟩
def hGramErrors322 : HE := ⟨48, [(.sl 0 5 8 4 none 4)], [bgramErrors125], [((.val (.agg [(eI 1),(eS [83]),(eI 3),(eI 1),(.sl 1 0 0 1 none 5)])), [bgramErrors126, bgramErrors127])]⟩
theorem hGramErrors322_ok : HOk Tryd.prog hGramErrors322 := hok_eq mmGramErrors_ok hmGramErrors322_ok folGramErrors (lf := 100000) (k := 1000) (by kernel_rfl)
def hmGramErrors323 : List HE := hGramErrors322 :: hmGramErrors322
theorem hmGramErrors323_ok : ∀ x ∈ hmGramErrors323, HOk Tryd.prog x := hmemo_cons hGramErrors322_ok hmGramErrors322_ok
def bgramErrors128 : Blk := ⟨[(.sl 2 0 0 1 none 4),(eI 2),(eS [97]),(eI 4),(eI 4)],91,[(0,5)],1,0,false,0,none⟩
def hGramErrors323 : HE := ⟨48, [(.sl 0 5 24 4 none 4)], [bgramErrors125], [((.val (.agg [(eI 1),(eS [83]),(eI 4),(eI 1),(.sl 1 0 0 1 none 5)])), [bgramErrors128, bgramErrors34])]⟩
theorem hGramErrors323_ok : HOk Tryd.prog hGramErrors323 := hok_eq mmGramErrors_ok hmGramErrors323_ok folGramErrors (lf := 100000) (k := 1000) (by kernel_rfl)
def hmGramErrors324 : List HE := hGramErrors323 :: hmGramErrors323
theorem hmGramErrors324_ok : ∀ x ∈ hmGramErrors324, HOk Tryd.prog x := hmemo_cons hGramErrors323_ok hmGramErrors323_ok
def bgramErrors129 : Blk := ⟨[(eI 1),(eS [83]),(eI 3),(eI 1),(.sl 2 0 0 1 none 5),(eI 1),(eS [83]),(eI 4),(eI 1),(.sl 4 0 0 1 none 5)],87,[(1,10),(0,5)],2,0,false,1,none⟩
def bgramErrors130 : Blk := ⟨[(.sl 3 0 0 1 none 4),(eI 1),(eS [84]),(eI 3),(eI 4)],91,[(0,5)],1,0,false,0,none⟩
def bgramErrors131 : Blk := ⟨[(.sl 5 0 0 1 none 4),(eI 2),(eS [97]),(eI 4),(eI 4)],91,[(0,5)],1,0,false,0,none⟩
def hGramErrors324 : HE := ⟨22, [(.sl 0 5 0 10 none 4)], [bgramErrors125], [((.val (.sl 1 1 0 2 none 5)), [bgramErrors129, bgramErrors130, bgramErrors127, bgramErrors131, bgramErrors34])]⟩
theorem hGramErrors324_ok : HOk Tryd.prog hGramErrors324 := hok_eq mmGramErrors_ok hmGramErrors324_ok folGramErrors (lf := 100000) (k := 1000) (by kernel_rfl)
def hmGramErrors325 : List HE := hGramErrors324 :: hmGramErrors324
theorem hmGramErrors325_ok : ∀ x ∈ hmGramErrors325, HOk Tryd.prog x := hmemo_cons hGramErrors324_ok hmGramErrors324_ok
def bgramErrors132 : Blk := ⟨[(eI 1),(eS [83]),(eI 3),(eI 1),(.sl 1 0 0 1 none 5),(eI 1),(eS [83]),(eI 4),(eI 1),(.sl 3 0 0 1 none 5)],87,[(1,10),(0,5)],2,0,false,1,none⟩
def bgramErrors133 : Blk := ⟨[(.sl 4 0 0 1 none 4),(eI 2),(eS [97]),(eI 4),(eI 4)],91,[(0,5)],1,0,false,0,none⟩
def hGramErrors325 : HE := ⟨21, [(.sl 0 1 0 2 none 5)], [bgramErrors132, bgramErrors126, bgramErrors127, bgramErrors133, bgramErrors34], [((.panic (.iface 51 (.agg [(eI 4),(eI 1),(eI 4)]))), [])]⟩
theorem hGramErrors325_ok : HOk Tryd.prog hGramErrors325 := hok_eq mmGramErrors_ok hmGramErrors325_ok folGramErrors (lf := 100000) (k := 1000) (by kernel_rfl)
def hmGramErrors326 : List HE := hGramErrors325 :: hmGramErrors325
theorem hmGramErrors326_ok : ∀ x ∈ hmGramErrors326, HOk Tryd.prog x := hmemo_cons hGramErrors325_ok hmGramErrors325_ok
def hGramErrors326 : HE := ⟨8, [(eS [10,10,83,58,32,84,10,83,58,32,97,10])], [], [((.val (.tup [(.agg [(.lit (.slice none 0 0)),(.lit (.slice none 0 0)),(.lit (.slice none 0 0))]),(eI 4),(eI 1),(eI 4)])), [])]⟩
theorem hGramErrors326_ok : HOk Tryd.prog hGramErrors326 := hok_eq mmGramErrors_ok hmGramErrors326_ok folGramErrors (lf := 100000) (k := 1000) (by kernel_rfl)
def hmGramErrors327 : List HE := hGramErrors326 :: hmGramErrors326
theorem hmGramErrors327_ok : ∀ x ∈ hmGramErrors327, HOk Tryd.prog x := hmemo_cons hGramErrors326_ok hmGramErrors326_ok
def bgramErrors134 : Blk := ⟨[(eI 1),(eS [83]),(eI 3),(eI 1),(eI 3),(eS [58]),(eI 3),(eI 2),(eI 1),(eS [84]),(eI 3),(eI 4),(eI 2),(eS [97]),(eI 3),(eI 6)],81,[(3,16),(2,12),(1,8),(0,4)],4,0,false,3,none⟩
def hGramErrors327 : HE := ⟨44, [(eS [83,58,32,84,32,97]),(eI 3)], [], [((.val (.tup [(.sl 0 3 0 4 none 4),(eI 0)])), [bgramErrors134])]⟩
theorem hGramErrors327_ok : HOk Tryd.prog hGramErrors327 := hok_eq mmGramErrors_ok hmGramErrors327_ok folGramErrors (lf := 100000) (k := 1000) (by kernel_rfl)
def hmGramErrors328 : List HE := hGramErrors327 :: hmGramErrors327
theorem hmGramErrors328_ok : ∀ x ∈ hmGramErrors328, HOk Tryd.prog x := hmemo_cons hGramErrors327_ok hmGramErrors327_ok
def bgramErrors135 : Blk := ⟨[(eI 5),(eS []),(eI 1),(eI 1),(eI 5),(eS []),(eI 2),(eI 1),(eI 1),(eS [83]),(eI 3),(eI 1),(eI 3),(eS [58]),(eI 3),(eI 2),(eI 1),(eS [84]),(eI 3),(eI 4),(eI 2),(eS [97]),(eI 3),(eI 6),(eI 5),(eS []),(eI 3),(eI 7)],81,[(3,28),(2,24),(1,8),(0,4)],4,0,false,3,none⟩
def hGramErrors328 : HE := ⟨19, [(eS [10,10,83,58,32,84,32,97,10])], [], [((.val (.tup [(.sl 0 3 0 7 none 4),(eI 0),(eI 0),(eI 0)])), [bgramErrors135])]⟩
theorem hGramErrors328_ok : HOk Tryd.prog hGramErrors328 := hok_eq mmGramErrors_ok hmGramErrors328_ok folGramErrors (lf := 100000) (k := 1000) (by kernel_rfl)
def hmGramErrors329 : List HE := hGramErrors328 :: hmGramErrors328
theorem hmGramErrors329_ok : ∀ x ∈ hmGramErrors329, HOk Tryd.prog x := hmemo_cons hGramErrors328_ok hmGramErrors328_ok
def bgramErrors136 : Blk := ⟨[(.sl 2 1 0 2 none 4),(eI 1),(eS [84]),(eI 3),(eI 4)],91,[(0,5)],1,0,false,0,none⟩
def bgramErrors137 : Blk := ⟨[(eI 1),(eS [84]),(eI 3),(eI 4),(eI 2),(eS [97]),(eI 3),(eI 6)],81,[(1,8),(0,4)],2,0,false,1,none⟩
def hGramErrors329 : HE := ⟨48, [(.sl 0 3 8 5 none 4)], [bgramErrors135], [((.val (.agg [(eI 1),(eS [83]),(eI 3),(eI 1),(.sl 1 0 0 1 none 5)])), [bgramErrors136, bgramErrors137])]⟩
theorem hGramErrors329_ok : HOk Tryd.prog hGramErrors329 := hok_eq mmGramErrors_ok hmGramErrors329_ok folGramErrors (lf := 100000) (k := 1000) (by kernel_rfl)
def hmGramErrors330 : List HE := hGramErrors329 :: hmGramErrors329
theorem hmGramErrors330_ok : ∀ x ∈ hmGramErrors330, HOk Tryd.prog x := hmemo_cons hGramErrors329_ok hmGramErrors329_ok
def bgramErrors138 : Blk := ⟨[(eI 1),(eS [83]),(eI 3),(eI 1),(.sl 2 0 0 1 none 5)],87,[(0,5)],1,0,false,0,none⟩
def bgramErrors139 : Blk := ⟨[(.sl 3 1 0 2 none 4),(eI 1),(eS [84]),(eI 3),(eI 4)],91,[(0,5)],1,0,false,0,none⟩
def hGramErrors330 : HE := ⟨22, [(.sl 0 3 0 7 none 4)], [bgramErrors135], [((.val (.sl 1 0 0 1 none 5)), [bgramErrors138, bgramErrors139, bgramErrors137])]⟩
theorem hGramErrors330_ok : HOk Tryd.prog hGramErrors330 := hok_eq mmGramErrors_ok hmGramErrors330_ok folGramErrors (lf := 100000) (k := 1000) (by kernel_rfl)
def hmGramErrors331 : List HE := hGramErrors330 :: hmGramErrors330
theorem hmGramErrors331_ok : ∀ x ∈ hmGramErrors331, HOk Tryd.prog x := hmemo_cons hGramErrors330_ok hmGramErrors330_ok
def bgramErrors140 : Blk := ⟨[(eI 1),(eS [83]),(eI 3),(eI 1),(.sl 1 0 0 1 none 5)],87,[(0,5)],1,0,false,0,none⟩
def hGramErrors331 : HE := ⟨21, [(.sl 0 0 0 1 none 5)], [bgramErrors140, bgramErrors136, bgramErrors137], [((.panic (.iface 51 (.agg [(eI 3),(eI 4),(eI 3)]))), [])]⟩
theorem hGramErrors331_ok : HOk Tryd.prog hGramErrors331 := hok_eq mmGramErrors_ok hmGramErrors331_ok folGramErrors (lf := 100000) (k := 1000) (by kernel_rfl)
def hmGramErrors332 : List HE := hGramErrors331 :: hmGramErrors331
theorem hmGramErrors332_ok : ∀ x ∈ hmGramErrors332, HOk Tryd.prog x := hmemo_cons hGramErrors331_ok hmGramErrors331_ok
def hGramErrors332 : HE := ⟨8, [(eS [10,10,83,58,32,84,32,97,10])], [], [((.val (.tup [(.agg [(.lit (.slice none 0 0)),(.lit (.slice none 0 0)),(.lit (.slice none 0 0))]),(eI 3),(eI 4),(eI 3)])), [])]⟩
theorem hGramErrors332_ok : HOk Tryd.prog hGramErrors332 := hok_eq mmGramErrors_ok hmGramErrors332_ok folGramErrors (lf := 100000) (k := 1000) (by kernel_rfl)
def hmGramErrors333 : List HE := hGramErrors332 :: hmGramErrors332
theorem hmGramErrors333_ok : ∀ x ∈ hmGramErrors333, HOk Tryd.prog x := hmemo_cons hGramErrors332_ok hmGramErrors332_ok
def bgramErrors141 : Blk := ⟨[(eI 1),(eS [83]),(eI 3),(eI 1),(eI 3),(eS [58]),(eI 3),(eI 2),(eI 2),(eS [97]),(eI 3),(eI 4),(eI 4),(eS [124]),(eI 3),(eI 6),(eI 2),(eS [98]),(eI 3),(eI 8),(eI 4),(eS [124]),(eI 3),(eI 10),(eI 2),(eS [97]),(eI 3),(eI 12)],81,[(6,28),(5,24),(4,20),(3,16),(2,12),(1,8),(0,4)],7,0,false,6,none⟩
def hGramErrors333 : HE := ⟨44, [(eS [83,58,32,97,32,124,32,98,32,124,32,97]),(eI 3)], [], [((.val (.tup [(.sl 0 6 0 7 none 4),(eI 0)])), [bgramErrors141])]⟩
theorem hGramErrors333_ok : HOk Tryd.prog hGramErrors333 := hok_eq mmGramErrors_ok hmGramErrors333_ok folGramErrors (lf := 100000) (k := 1000) (by kernel_rfl)
def hmGramErrors334 : List HE := hGramErrors333 :: hmGramErrors333
theorem hmGramErrors334_ok : ∀ x ∈ hmGramErrors334, HOk Tryd.prog x := hmemo_cons hGramErrors333_ok hmGramErrors333_ok
def bgramErrors142 : Blk := ⟨[(eI 5),(eS []),(eI 1),(eI 1),(eI 5),(eS []),(eI 2),(eI 1),(eI 1),(eS [83]),(eI 3),(eI 1),(eI 3),(eS [58]),(eI 3),(eI 2),(eI 2),(eS [97]),(eI 3),(eI 4),(eI 4),(eS [124]),(eI 3),(eI 6),(eI 2),(eS [98]),(eI 3),(eI 8),(eI 4),(eS [124]),(eI 3),(eI 10),(eI 2),(eS [97]),(eI 3),(eI 12),(eI 5),(eS []),(eI 3),(eI 13)],81,[(3,40),(2,36),(1,8),(0,4)],4,0,false,3,none⟩
def hGramErrors334 : HE := ⟨19, [(eS [10,10,83,58,32,97,32,124,32,98,32,124,32,97,10])], [], [((.val (.tup [(.sl 0 3 0 10 none 4),(eI 0),(eI 0),(eI 0)])), [bgramErrors142])]⟩
theorem hGramErrors334_ok : HOk Tryd.prog hGramErrors334 := hok_eq mmGramErrors_ok hmGramErrors334_ok folGramErrors (lf := 100000) (k := 1000) (by kernel_rfl)
def hmGramErrors335 : List HE := hGramErrors334 :: hmGramErrors334
theorem hmGramErrors335_ok : ∀ x ∈ hmGramErrors335, HOk Tryd.prog x := hmemo_cons hGramErrors334_ok hmGramErrors334_ok
def bgramErrors143 : Blk := ⟨[(.sl 2 0 0 1 none 4),(eI 2),(eS [97]),(eI 3),(eI 4),(.sl 3 0 0 1 none 4),(eI 2),(eS [98]),(eI 3),(eI 8),(.sl 4 0 0 1 none 4),(eI 2),(eS [97]),(eI 3),(eI 12)],91,[(2,15),(1,10),(0,5)],3,0,false,2,none⟩
def bgramErrors144 : Blk := ⟨[(eI 2),(eS [97]),(eI 3),(eI 4)],81,[(0,4)],1,0,false,0,none⟩
def bgramErrors145 : Blk := ⟨[(eI 2),(eS [98]),(eI 3),(eI 8)],81,[(0,4)],1,0,false,0,none⟩
def bgramErrors146 : Blk := ⟨[(eI 2),(eS [97]),(eI 3),(eI 12)],81,[(0,4)],1,0,false,0,none⟩
def hGramErrors335 : HE := ⟨48, [(.sl 0 3 8 8 none 4)], [bgramErrors142], [((.val (.agg [(eI 1),(eS [83]),(eI 3),(eI 1),(.sl 1 2 0 3 none 5)])), [bgramErrors143, bgramErrors144, bgramErrors145, bgramErrors146])]⟩
theorem hGramErrors335_ok : HOk Tryd.prog hGramErrors335 := hok_eq mmGramErrors_ok hmGramErrors335_ok folGramErrors (lf := 100000) (k := 1000) (by kernel_rfl)
def hmGramErrors336 : List HE := hGramErrors335 :: hmGramErrors335
theorem hmGramErrors336_ok : ∀ x ∈ hmGramErrors336, HOk Tryd.prog x := hmemo_cons hGramErrors335_ok hmGramErrors335_ok
def bgramErrors147 : Blk := ⟨[(eI 1),(eS [83]),(eI 3),(eI 1),(.sl 2 2 0 3 none 5)],87,[(0,5)],1,0,false,0,none⟩
def bgramErrors148 : Blk := ⟨[(.sl 3 0 0 1 none 4),(eI 2),(eS [97]),(eI 3),(eI 4),(.sl 4 0 0 1 none 4),(eI 2),(eS [98]),(eI 3),(eI 8),(.sl 5 0 0 1 none 4),(eI 2),(eS [97]),(eI 3),(eI 12)],91,[(2,15),(1,10),(0,5)],3,0,false,2,none⟩
def hGramErrors336 : HE := ⟨22, [(.sl 0 3 0 10 none 4)], [bgramErrors142], [((.val (.sl 1 0 0 1 none 5)), [bgramErrors147, bgramErrors148, bgramErrors144, bgramErrors145, bgramErrors146])]⟩
theorem hGramErrors336_ok : HOk Tryd.prog hGramErrors336 := hok_eq mmGramErrors_ok hmGramErrors336_ok folGramErrors (lf := 100000) (k := 1000) (by kernel_rfl)
def hmGramErrors337 : List HE := hGramErrors336 :: hmGramErrors336
theorem hmGramErrors337_ok : ∀ x ∈ hmGramErrors337, HOk Tryd.prog x := hmemo_cons hGramErrors336_ok hmGramErrors336_ok
def bgramErrors149 : Blk := ⟨[(eI 1),(eS [83]),(eI 3),(eI 1),(.sl 1 2 0 3 none 5)],87,[(0,5)],1,0,false,0,none⟩
def hGramErrors337 : HE := ⟨21, [(.sl 0 0 0 1 none 5)], [bgramErrors149, bgramErrors143, bgramErrors144, bgramErrors145, bgramErrors146], [((.panic (.iface 51 (.agg [(eI 3),(eI 12),(eI 4)]))), [])]⟩
theorem hGramErrors337_ok : HOk Tryd.prog hGramErrors337 := hok_eq mmGramErrors_ok hmGramErrors337_ok folGramErrors (lf := 100000) (k := 1000) (by kernel_rfl)
def hmGramErrors338 : List HE := hGramErrors337 :: hmGramErrors337
theorem hmGramErrors338_ok : ∀ x ∈ hmGramErrors338, HOk Tryd.prog x := hmemo_cons hGramErrors337_ok hmGramErrors337_ok
def hGramErrors338 : HE := ⟨8, [(eS [10,10,83,58,32,97,32,124,32,98,32,124,32,97,10])], [], [((.val (.tup [(.agg [(.lit (.slice none 0 0)),(.lit (.slice none 0 0)),(.lit (.slice none 0 0))]),(eI 3),(eI 12),(eI 4)])), [])]⟩
theorem hGramErrors338_ok : HOk Tryd.prog hGramErrors338 := hok_eq mmGramErrors_ok hmGramErrors338_ok folGramErrors (lf := 100000) (k := 1000) (by kernel_rfl)
def hmGramErrors339 : List HE := hGramErrors338 :: hmGramErrors338
theorem hmGramErrors339_ok : ∀ x ∈ hmGramErrors339, HOk Tryd.prog x := hmemo_cons hGramErrors338_ok hmGramErrors338_ok
def bgramErrors150 : Blk := ⟨[(eI 1),(eS [83]),(eI 3),(eI 1),(eI 3),(eS [58]),(eI 3),(eI 2),(eI 4),(eS [124]),(eI 3),(eI 4),(eI 2),(eS [97]),(eI 3),(eI 6),(eI 4),(eS [124]),(eI 3),(eI 8)],81,[(4,20),(3,16),(2,12),(1,8),(0,4)],5,0,false,4,none⟩
def hGramErrors339 : HE := ⟨44, [(eS [83,58,32,124,32,97,32,124]),(eI 3)], [], [((.val (.tup [(.sl 0 4 0 5 none 4),(eI 0)])), [bgramErrors150])]⟩
theorem hGramErrors339_ok : HOk Tryd.prog hGramErrors339 := hok_eq mmGramErrors_ok hmGramErrors339_ok folGramErrors (lf := 100000) (k := 1000) (by kernel_rfl)
def hmGramErrors340 : List HE := hGramErrors339 :: hmGramErrors339
theorem hmGramErrors340_ok : ∀ x ∈ hmGramErrors340, HOk Tryd.prog x := hmemo_cons hGramErrors339_ok hmGramErrors339_ok
def bgramErrors151 : Blk := ⟨[(eI 5),(eS []),(eI 1),(eI 1),(eI 5),(eS []),(eI 2),(eI 1),(eI 1),(eS [83]),(eI 3),(eI 1),(eI 3),(eS [58]),(eI 3),(eI 2),(eI 4),(eS [124]),(eI 3),(eI 4),(eI 2),(eS [97]),(eI 3),(eI 6),(eI 4),(eS [124]),(eI 3),(eI 8),(eI 5),(eS []),(eI 3),(eI 9)],81,[(3,32),(2,28),(1,8),(0,4)],4,0,false,3,none⟩
def hGramErrors340 : HE := ⟨19, [(eS [10,10,83,58,32,124,32,97,32,124,10])], [], [((.val (.tup [(.sl 0 3 0 8 none 4),(eI 0),(eI 0),(eI 0)])), [bgramErrors151])]⟩
theorem hGramErrors340_ok : HOk Tryd.prog hGramErrors340 := hok_eq mmGramErrors_ok hmGramErrors340_ok folGramErrors (lf := 100000) (k := 1000) (by kernel_rfl)
def hmGramErrors341 : List HE := hGramErrors340 :: hmGramErrors340
theorem hmGramErrors341_ok : ∀ x ∈ hmGramErrors341, HOk Tryd.prog x := hmemo_cons hGramErrors340_ok hmGramErrors340_ok
def bgramErrors152 : Blk := ⟨[(.lit (.slice none 0 0)),(eI 4),(eS [124]),(eI 3),(eI 4),(.sl 2 0 0 1 none 4),(eI 2),(eS [97]),(eI 3),(eI 6),(.lit (.slice none 0 0)),(eI 5),(eS []),(eI 3),(eI 9)],91,[(2,15),(1,10),(0,5)],3,0,false,2,none⟩
def bgramErrors153 : Blk := ⟨[(eI 2),(eS [97]),(eI 3),(eI 6)],81,[(0,4)],1,0,false,0,none⟩
def hGramErrors341 : HE := ⟨48, [(.sl 0 3 8 6 none 4)], [bgramErrors151], [((.val (.agg [(eI 1),(eS [83]),(eI 3),(eI 1),(.sl 1 2 0 3 none 5)])), [bgramErrors152, bgramErrors153])]⟩
theorem hGramErrors341_ok : HOk Tryd.prog hGramErrors341 := hok_eq mmGramErrors_ok hmGramErrors341_ok folGramErrors (lf := 100000) (k := 1000) (by kernel_rfl)
def hmGramErrors342 : List HE := hGramErrors341 :: hmGramErrors341
theorem hmGramErrors342_ok : ∀ x ∈ hmGramErrors342, HOk Tryd.prog x := hmemo_cons hGramErrors341_ok hmGramErrors341_ok
def bgramErrors154 : Blk := ⟨[(.lit (.slice none 0 0)),(eI 4),(eS [124]),(eI 3),(eI 4),(.sl 3 0 0 1 none 4),(eI 2),(eS [97]),(eI 3),(eI 6),(.lit (.slice none 0 0)),(eI 5),(eS []),(eI 3),(eI 9)],91,[(2,15),(1,10),(0,5)],3,0,false,2,none⟩
def hGramErrors342 : HE := ⟨22, [(.sl 0 3 0 8 none 4)], [bgramErrors151], [((.val (.sl 1 0 0 1 none 5)), [bgramErrors147, bgramErrors154, bgramErrors153])]⟩
theorem hGramErrors342_ok : HOk Tryd.prog hGramErrors342 := hok_eq mmGramErrors_ok hmGramErrors342_ok folGramErrors (lf := 100000) (k := 1000) (by kernel_rfl)
def hmGramErrors343 : List HE := hGramErrors342 :: hmGramErrors342
theorem hmGramErrors343_ok : ∀ x ∈ hmGramErrors343, HOk Tryd.prog x := hmemo_cons hGramErrors342_ok hmGramErrors342_ok
def hGramErrors343 : HE := ⟨21, [(.sl 0 0 0 1 none 5)], [bgramErrors149, bgramErrors152, bgramErrors153], [((.panic (.iface 51 (.agg [(eI 3),(eI 9),(eI 4)]))), [])]⟩
theorem hGramErrors343_ok : HOk Tryd.prog hGramErrors343 := hok_eq mmGramErrors_ok hmGramErrors343_ok folGramErrors (lf := 100000) (k := 1000) (by kernel_rfl)
def hmGramErrors344 : List HE := hGramErrors343 :: hmGramErrors343
theorem hmGramErrors344_ok : ∀ x ∈ hmGramErrors344, HOk Tryd.prog x := hmemo_cons hGramErrors343_ok hmGramErrors343_ok
def hGramErrors344 : HE := ⟨8, [(eS [10,10,83,58,32,124,32,97,32,124,10])], [], [((.val (.tup [(.agg [(.lit (.slice none 0 0)),(.lit (.slice none 0 0)),(.lit (.slice none 0 0))]),(eI 3),(eI 9),(eI 4)])), [])]⟩
theorem hGramErrors344_ok : HOk Tryd.prog hGramErrors344 := hok_eq mmGramErrors_ok hmGramErrors344_ok folGramErrors (lf := 100000) (k := 1000) (by kernel_rfl)
def hmGramErrors345 : List HE := hGramErrors344 :: hmGramErrors344
theorem hmGramErrors345_ok : ∀ x ∈ hmGramErrors345, HOk Tryd.prog x := hmemo_cons hGramErrors344_ok hmGramErrors344_ok
def bgramErrors155 : Blk := ⟨[(eI 1),(eS [83]),(eI 3),(eI 1),(eI 3),(eS [58]),(eI 3),(eI 2),(eI 4),(eS [124]),(eI 3),(eI 4),(eI 4),(eS [124]),(eI 3),(eI 6)],81,[(3,16),(2,12),(1,8),(0,4)],4,0,false,3,none⟩
def hGramErrors345 : HE := ⟨44, [(eS [83,58,32,124,32,124]),(eI 3)], [], [((.val (.tup [(.sl 0 3 0 4 none 4),(eI 0)])), [bgramErrors155])]⟩
theorem hGramErrors345_ok : HOk Tryd.prog hGramErrors345 := hok_eq mmGramErrors_ok hmGramErrors345_ok folGramErrors (lf := 100000) (k := 1000) (by kernel_rfl)
def hmGramErrors346 : List HE := hGramErrors345 :: hmGramErrors345
theorem hmGramErrors346_ok : ∀ x ∈ hmGramErrors346, HOk Tryd.prog x := hmemo_cons hGramErrors345_ok hmGramErrors345_ok
def bgramErrors156 : Blk := ⟨[(eI 5),(eS []),(eI 1),(eI 1),(eI 5),(eS []),(eI 2),(eI 1),(eI 1),(eS [83]),(eI 3),(eI 1),(eI 3),(eS [58]),(eI 3),(eI 2),(eI 4),(eS [124]),(eI 3),(eI 4),(eI 4),(eS [124]),(eI 3),(eI 6),(eI 5),(eS []),(eI 3),(eI 7)],81,[(3,28),(2,24),(1,8),(0,4)],4,0,false,3,none⟩
def hGramErrors346 : HE := ⟨19, [(eS [10,10,83,58,32,124,32,124,10])], [], [((.val (.tup [(.sl 0 3 0 7 none 4),(eI 0),(eI 0),(eI 0)])), [bgramErrors156])]⟩
theorem hGramErrors346_ok : HOk Tryd.prog hGramErrors346 := hok_eq mmGramErrors_ok hmGramErrors346_ok folGramErrors (lf := 100000) (k := 1000) (by kernel_rfl)
def hmGramErrors347 : List HE := hGramErrors346 :: hmGramErrors346
theorem hmGramErrors347_ok : ∀ x ∈ hmGramErrors347, HOk Tryd.prog x := hmemo_cons hGramErrors346_ok hmGramErrors346_ok
def bgramErrors157 : Blk := ⟨[(.lit (.slice none 0 0)),(eI 4),(eS [124]),(eI 3),(eI 4),(.lit (.slice none 0 0)),(eI 4),(eS [124]),(eI 3),(eI 6),(.lit (.slice none 0 0)),(eI 5),(eS []),(eI 3),(eI 7)],91,[(2,15),(1,10),(0,5)],3,0,false,2,none⟩
def hGramErrors347 : HE := ⟨48, [(.sl 0 3 8 5 none 4)], [bgramErrors156], [((.val (.agg [(eI 1),(eS [83]),(eI 3),(eI 1),(.sl 1 2 0 3 none 5)])), [bgramErrors157])]⟩
theorem hGramErrors347_ok : HOk Tryd.prog hGramErrors347 := hok_eq mmGramErrors_ok hmGramErrors347_ok folGramErrors (lf := 100000) (k := 1000) (by kernel_rfl)
def hmGramErrors348 : List HE := hGramErrors347 :: hmGramErrors347
theorem hmGramErrors348_ok : ∀ x ∈ hmGramErrors348, HOk Tryd.prog x := hmemo_cons hGramErrors347_ok hmGramErrors347_ok
def hGramErrors348 : HE := ⟨22, [(.sl 0 3 0 7 none 4)], [bgramErrors156], [((.val (.sl 1 0 0 1 none 5)), [bgramErrors147, bgramErrors157])]⟩
theorem hGramErrors348_ok : HOk Tryd.prog hGramErrors348 := hok_eq mmGramErrors_ok hmGramErrors348_ok folGramErrors (lf := 100000) (k := 1000) (by kernel_rfl)
def hmGramErrors349 : List HE := hGramErrors348 :: hmGramErrors348
theorem hmGramErrors349_ok : ∀ x ∈ hmGramErrors349, HOk Tryd.prog x := hmemo_cons hGramErrors348_ok hmGramErrors348_ok
def hGramErrors349 : HE := ⟨21, [(.sl 0 0 0 1 none 5)], [bgramErrors149, bgramErrors157], [((.panic (.iface 51 (.agg [(eI 3),(eI 6),(eI 4)]))), [])]⟩
theorem hGramErrors349_ok : HOk Tryd.prog hGramErrors349 := hok_eq mmGramErrors_ok hmGramErrors349_ok folGramErrors (lf := 100000) (k := 1000) (by kernel_rfl)
def hmGramErrors350 : List HE := hGramErrors349 :: hmGramErrors349
theorem hmGramErrors350_ok : ∀ x ∈ hmGramErrors350, HOk Tryd.prog x := hmemo_cons hGramErrors349_ok hmGramErrors349_ok
def hGramErrors350 : HE := ⟨8, [(eS [10,10,83,58,32,124,32,124,10])], [], [((.val (.tup [(.agg [(.lit (.slice none 0 0)),(.lit (.slice none 0 0)),(.lit (.slice none 0 0))]),(eI 3),(eI 6),(eI 4)])), [])]⟩
theorem hGramErrors350_ok : HOk Tryd.prog hGramErrors350 := hok_eq mmGramErrors_ok hmGramErrors350_ok folGramErrors (lf := 100000) (k := 1000) (by kernel_rfl)
def hmGramErrors351 : List HE := hGramErrors350 :: hmGramErrors350
theorem hmGramErrors351_ok : ∀ x ∈ hmGramErrors351, HOk Tryd.prog x := hmemo_cons hGramErrors350_ok hmGramErrors350_ok
def bgramErrors158 : Blk := ⟨[(eI 1),(eS [83]),(eI 3),(eI 1),(eI 3),(eS [58]),(eI 3),(eI 2),(eI 2),(eS [97]),(eI 3),(eI 4),(eI 2),(eS [98]),(eI 3),(eI 6),(eI 2),(eS [99]),(eI 3),(eI 8),(eI 2),(eS [100]),(eI 3),(eI 10),(eI 2),(eS [101]),(eI 3),(eI 12),(eI 2),(eS [102]),(eI 3),(eI 14),(eI 2),(eS [97]),(eI 3),(eI 16)],81,[(8,36),(7,32),(6,28),(5,24),(4,20),(3,16),(2,12),(1,8),(0,4)],9,0,false,8,none⟩
def hGramErrors351 : HE := ⟨44, [(eS [83,58,32,97,32,98,32,99,32,100,32,101,32,102,32,97]),(eI 3)], [], [((.val (.tup [(.sl 0 8 0 9 none 4),(eI 0)])), [bgramErrors158])]⟩
theorem hGramErrors351_ok : HOk Tryd.prog hGramErrors351 := hok_eq mmGramErrors_ok hmGramErrors351_ok folGramErrors (lf := 100000) (k := 1000) (by kernel_rfl)
def hmGramErrors352 : List HE := hGramErrors351 :: hmGramErrors351
theorem hmGramErrors352_ok : ∀ x ∈ hmGramErrors352, HOk Tryd.prog x := hmemo_cons hGramErrors351_ok hmGramErrors351_ok
def bgramErrors159 : Blk := ⟨[(eI 5),(eS []),(eI 1),(eI 1),(eI 5),(eS []),(eI 2),(eI 1),(eI 1),(eS [83]),(eI 3),(eI 1),(eI 3),(eS [58]),(eI 3),(eI 2),(eI 2),(eS [97]),(eI 3),(eI 4),(eI 2),(eS [98]),(eI 3),(eI 6),(eI 2),(eS [99]),(eI 3),(eI 8),(eI 2),(eS [100]),(eI 3),(eI 10),(eI 2),(eS [101]),(eI 3),(eI 12),(eI 2),(eS [102]),(eI 3),(eI 14),(eI 2),(eS [97]),(eI 3),(eI 16),(eI 5),(eS []),(eI 3),(eI 17)],81,[(3,48),(2,44),(1,8),(0,4)],4,0,false,3,none⟩
def tgramErrors5 : List Nat := [10,10,83,58,32,97,32,98,32,99,32,100,32,101,32,102,32,97,10]
def hGramErrors352 : HE := ⟨19, [(eT tgramErrors5)], [], [((.val (.tup [(.sl 0 3 0 12 none 4),(eI 0),(eI 0),(eI 0)])), [bgramErrors159])]⟩
theorem hGramErrors352_ok : HOk Tryd.prog hGramErrors352 := hok_eq mmGramErrors_ok hmGramErrors352_ok folGramErrors (lf := 100000) (k := 1000) (by kernel_rfl)
def hmGramErrors353 : List HE := hGramErrors352 :: hmGramErrors352
theorem hmGramErrors353_ok : ∀ x ∈ hmGramErrors353, HOk Tryd.prog x := hmemo_cons hGramErrors352_ok hmGramErrors352_ok
def bgramErrors160 : Blk := ⟨[(.sl 2 6 0 7 none 4),(eI 2),(eS [97]),(eI 3),(eI 4)],91,[(0,5)],1,0,false,0,none⟩
def bgramErrors161 : Blk := ⟨[(eI 2),(eS [97]),(eI 3),(eI 4),(eI 2),(eS [98]),(eI 3),(eI 6),(eI 2),(eS [99]),(eI 3),(eI 8),(eI 2),(eS [100]),(eI 3),(eI 10),(eI 2),(eS [101]),(eI 3),(eI 12),(eI 2),(eS [102]),(eI 3),(eI 14),(eI 2),(eS [97]),(eI 3),(eI 16)],81,[(6,28),(5,24),(4,20),(3,16),(2,12),(1,8),(0,4)],7,0,false,6,none⟩
def hGramErrors353 : HE := ⟨48, [(.sl 0 3 8 10 none 4)], [bgramErrors159], [((.val (.agg [(eI 1),(eS [83]),(eI 3),(eI 1),(.sl 1 0 0 1 none 5)])), [bgramErrors160, bgramErrors161])]⟩
theorem hGramErrors353_ok : HOk Tryd.prog hGramErrors353 := hok_eq mmGramErrors_ok hmGramErrors353_ok folGramErrors (lf := 100000) (k := 1000) (by kernel_rfl)
def hmGramErrors354 : List HE := hGramErrors353 :: hmGramErrors353
theorem hmGramErrors354_ok : ∀ x ∈ hmGramErrors354, HOk Tryd.prog x := hmemo_cons hGramErrors353_ok hmGramErrors353_ok
def bgramErrors162 : Blk := ⟨[(.sl 3 6 0 7 none 4),(eI 2),(eS [97]),(eI 3),(eI 4)],91,[(0,5)],1,0,false,0,none⟩
def hGramErrors354 : HE := ⟨22, [(.sl 0 3 0 12 none 4)], [bgramErrors159], [((.val (.sl 1 0 0 1 none 5)), [bgramErrors138, bgramErrors162, bgramErrors161])]⟩
theorem hGramErrors354_ok : HOk Tryd.prog hGramErrors354 := hok_eq mmGramErrors_ok hmGramErrors354_ok folGramErrors (lf := 100000) (k := 1000) (by kernel_rfl)
def hmGramErrors355 : List HE := hGramErrors354 :: hmGramErrors354
theorem hmGramErrors355_ok : ∀ x ∈ hmGramErrors355, HOk Tryd.prog x := hmemo_cons hGramErrors354_ok hmGramErrors354_ok
def hGramErrors355 : HE := ⟨21, [(.sl 0 0 0 1 none 5)], [bgramErrors140, bgramErrors160, bgramErrors161], [((.panic (.iface 51 (.agg [(eI 3),(eI 16),(eI 5)]))), [])]⟩
theorem hGramErrors355_ok : HOk Tryd.prog hGramErrors355 := hok_eq mmGramErrors_ok hmGramErrors355_ok folGramErrors (lf := 100000) (k := 1000) (by kernel_rfl)
def hmGramErrors356 : List HE := hGramErrors355 :: hmGramErrors355
theorem hmGramErrors356_ok : ∀ x ∈ hmGramErrors356, HOk Tryd.prog x := hmemo_cons hGramErrors355_ok hmGramErrors355_ok
def hGramErrors356 : HE := ⟨8, [(eT tgramErrors5)], [], [((.val (.tup [(.agg [(.lit (.slice none 0 0)),(.lit (.slice none 0 0)),(.lit (.slice none 0 0))]),(eI 3),(eI 16),(eI 5)])), [])]⟩
theorem hGramErrors356_ok : HOk Tryd.prog hGramErrors356 := hok_eq mmGramErrors_ok hmGramErrors356_ok folGramErrors (lf := 100000) (k := 1000) (by kernel_rfl)
def hmGramErrors357 : List HE := hGramErrors356 :: hmGramErrors356
theorem hmGramErrors357_ok : ∀ x ∈ hmGramErrors357, HOk Tryd.prog x := hmemo_cons hGramErrors356_ok hmGramErrors356_ok
def bgramErrors163 : Blk := ⟨[(eI 1),(eS [83]),(eI 3),(eI 1),(eI 3),(eS [58]),(eI 3),(eI 2),(eI 2),(eS [97]),(eI 3),(eI 4),(eI 2),(eS [98]),(eI 3),(eI 6),(eI 2),(eS [99]),(eI 3),(eI 8),(eI 2),(eS [100]),(eI 3),(eI 10),(eI 2),(eS [101]),(eI 3),(eI 12),(eI 2),(eS [102]),(eI 3),(eI 14),(eI 1),(eS [84]),(eI 3),(eI 16)],81,[(8,36),(7,32),(6,28),(5,24),(4,20),(3,16),(2,12),(1,8),(0,4)],9,0,false,8,none⟩
def hGramErrors357 : HE := ⟨44, [(eS [83,58,32,97,32,98,32,99,32,100,32,101,32,102,32,84]),(eI 3)], [], [((.val (.tup [(.sl 0 8 0 9 none 4),(eI 0)])), [bgramErrors163])]⟩
theorem hGramErrors357_ok : HOk Tryd.prog hGramErrors357 := hok_eq mmGramErrors_ok hmGramErrors357_ok folGramErrors (lf := 100000) (k := 1000) (by kernel_rfl)
def hmGramErrors358 : List HE := hGramErrors357 :: hmGramErrors357
theorem hmGramErrors358_ok : ∀ x ∈ hmGramErrors358, HOk Tryd.prog x := hmemo_cons hGramErrors357_ok hmGramErrors357_ok
def bgramErrors164 : Blk := ⟨[(eI 5),(eS []),(eI 1),(eI 1),(eI 5),(eS []),(eI 2),(eI 1),(eI 1),(eS [83]),(eI 3),(eI 1),(eI 3),(eS [58]),(eI 3),(eI 2),(eI 2),(eS [97]),(eI 3),(eI 4),(eI 2),(eS [98]),(eI 3),(eI 6),(eI 2),(eS [99]),(eI 3),(eI 8),(eI 2),(eS [100]),(eI 3),(eI 10),(eI 2),(eS [101]),(eI 3),(eI 12),(eI 2),(eS [102]),(eI 3),(eI 14),(eI 1),(eS [84]),(eI 3),(eI 16),(eI 5),(eS []),(eI 3),(eI 17)],81,[(3,48),(2,44),(1,8),(0,4)],4,0,false,3,none⟩
def tgramErrors6 : List Nat := [10,10,83,58,32,97,32,98,32,99,32,100,32,101,32,102,32,84,10]
def hGramErrors358 : HE := ⟨19, [(eT tgramErrors6)], [], [((.val (.tup [(.sl 0 3 0 12 none 4),(eI 0),(eI 0),(eI 0)])), [bgramErrors164])]⟩
theorem hGramErrors358_ok : HOk Tryd.prog hGramErrors358 := hok_eq mmGramErrors_ok hmGramErrors358_ok folGramErrors (lf := 100000) (k := 1000) (by kernel_rfl)
def hmGramErrors359 : List HE := hGramErrors358 :: hmGramErrors358
theorem hmGramErrors359_ok : ∀ x ∈ hmGramErrors359, HOk Tryd.prog x := hmemo_cons hGramErrors358_ok hmGramErrors358_ok
def bgramErrors165 : Blk := ⟨[(eI 2),(eS [97]),(eI 3),(eI 4),(eI 2),(eS [98]),(eI 3),(eI 6),(eI 2),(eS [99]),(eI 3),(eI 8),(eI 2),(eS [100]),(eI 3),(eI 10),(eI 2),(eS [101]),(eI 3),(eI 12),(eI 2),(eS [102]),(eI 3),(eI 14),(eI 1),(eS [84]),(eI 3),(eI 16)],81,[(6,28),(5,24),(4,20),(3,16),(2,12),(1,8),(0,4)],7,0,false,6,none⟩
def hGramErrors359 : HE := ⟨48, [(.sl 0 3 8 10 none 4)], [bgramErrors164], [((.val (.agg [(eI 1),(eS [83]),(eI 3),(eI 1),(.sl 1 0 0 1 none 5)])), [bgramErrors160, bgramErrors165])]⟩
theorem hGramErrors359_ok : HOk Tryd.prog hGramErrors359 := hok_eq mmGramErrors_ok hmGramErrors359_ok folGramErrors (lf := 100000) (k := 1000) (by kernel_rfl)
def hmGramErrors360 : List HE := hGramErrors359 :: hmGramErrors359
theorem hmGramErrors360_ok : ∀ x ∈ hmGramErrors360, HOk Tryd.prog x := hmemo_cons hGramErrors359_ok hmGramErrors359_ok
def hGramErrors360 : HE := ⟨22, [(.sl 0 3 0 12 none 4)], [bgramErrors164], [((.val (.sl 1 0 0 1 none 5)), [bgramErrors138, bgramErrors162, bgramErrors165])]⟩
theorem hGramErrors360_ok : HOk Tryd.prog hGramErrors360 := hok_eq mmGramErrors_ok hmGramErrors360_ok folGramErrors (lf := 100000) (k := 1000) (by kernel_rfl)
def hmGramErrors361 : List HE := hGramErrors360 :: hmGramErrors360
theorem hmGramErrors361_ok : ∀ x ∈ hmGramErrors361, HOk Tryd.prog x := hmemo_cons hGramErrors360_ok hmGramErrors360_ok
def hGramErrors361 : HE := ⟨21, [(.sl 0 0 0 1 none 5)], [bgramErrors140, bgramErrors160, bgramErrors165], [((.panic (.iface 51 (.agg [(eI 3),(eI 16),(eI 5)]))), [])]⟩
theorem hGramErrors361_ok : HOk Tryd.prog hGramErrors361 := hok_eq mmGramErrors_ok hmGramErrors361_ok folGramErrors (lf := 100000) (k := 1000) (by kernel_rfl)
def hmGramErrors362 : List HE := hGramErrors361 :: hmGramErrors361
theorem hmGramErrors362_ok : ∀ x ∈ hmGramErrors362, HOk Tryd.prog x := hmemo_cons hGramErrors361_ok hmGramErrors361_ok
def hGramErrors362 : HE := ⟨8, [(eT tgramErrors6)], [], [((.val (.tup [(.agg [(.lit (.slice none 0 0)),(.lit (.slice none 0 0)),(.lit (.slice none 0 0))]),(eI 3),(eI 16),(eI 5)])), [])]⟩
theorem hGramErrors362_ok : HOk Tryd.prog hGramErrors362 := hok_eq mmGramErrors_ok hmGramErrors362_ok folGramErrors (lf := 100000) (k := 1000) (by kernel_rfl)
def hmGramErrors363 : List HE := hGramErrors362 :: hmGramErrors362
theorem hmGramErrors363_ok : ∀ x ∈ hmGramErrors363, HOk Tryd.prog x := hmemo_cons hGramErrors362_ok hmGramErrors362_ok
def bgramErrors166 : Blk := ⟨[(eI 1),(eS [83]),(eI 3),(eI 1),(eI 3),(eS [58]),(eI 3),(eI 2),(eI 2),(eS [97]),(eI 3),(eI 4),(eI 2),(eS [98]),(eI 3),(eI 6),(eI 2),(eS [99]),(eI 3),(eI 8),(eI 2),(eS [100]),(eI 3),(eI 10)],81,[(5,24),(4,20),(3,16),(2,12),(1,8),(0,4)],6,0,false,5,none⟩
def hGramErrors363 : HE := ⟨44, [(eS [83,58,32,97,32,98,32,99,32,100]),(eI 3)], [], [((.val (.tup [(.sl 0 5 0 6 none 4),(eI 0)])), [bgramErrors166])]⟩
theorem hGramErrors363_ok : HOk Tryd.prog hGramErrors363 := hok_eq mmGramErrors_ok hmGramErrors363_ok folGramErrors (lf := 100000) (k := 1000) (by kernel_rfl)
def hmGramErrors364 : List HE := hGramErrors363 :: hmGramErrors363
theorem hmGramErrors364_ok : ∀ x ∈ hmGramErrors364, HOk Tryd.prog x := hmemo_cons hGramErrors363_ok hmGramErrors363_ok
def bgramErrors167 : Blk := ⟨[(eI 1),(eS [84]),(eI 4),(eI 1),(eI 3),(eS [58]),(eI 4),(eI 2),(eI 2),(eS [101]),(eI 4),(eI 4),(eI 2),(eS [102]),(eI 4),(eI 6),(eI 2),(eS [103]),(eI 4),(eI 8),(eI 2),(eS [104]),(eI 4),(eI 10),(eI 2),(eS [105]),(eI 4),(eI 12)],81,[(6,28),(5,24),(4,20),(3,16),(2,12),(1,8),(0,4)],7,0,false,6,none⟩
def hGramErrors364 : HE := ⟨44, [(eS [84,58,32,101,32,102,32,103,32,104,32,105]),(eI 4)], [], [((.val (.tup [(.sl 0 6 0 7 none 4),(eI 0)])), [bgramErrors167])]⟩
theorem hGramErrors364_ok : HOk Tryd.prog hGramErrors364 := hok_eq mmGramErrors_ok hmGramErrors364_ok folGramErrors (lf := 100000) (k := 1000) (by kernel_rfl)
def hmGramErrors365 : List HE := hGramErrors364 :: hmGramErrors364
theorem hmGramErrors365_ok : ∀ x ∈ hmGramErrors365, HOk Tryd.prog x := hmemo_cons hGramErrors364_ok hmGramErrors364_ok
def bgramErrors168 : Blk := ⟨[(eI 5),(eS []),(eI 1),(eI 1),(eI 5),(eS []),(eI 2),(eI 1),(eI 1),(eS [83]),(eI 3),(eI 1),(eI 3),(eS [58]),(eI 3),(eI 2),(eI 2),(eS [97]),(eI 3),(eI 4),(eI 2),(eS [98]),(eI 3),(eI 6),(eI 2),(eS [99]),(eI 3),(eI 8),(eI 2),(eS [100]),(eI 3),(eI 10),(eI 5),(eS []),(eI 3),(eI 11),(eI 1),(eS [84]),(eI 4),(eI 1),(eI 3),(eS [58]),(eI 4),(eI 2),(eI 2),(eS [101]),(eI 4),(eI 4),(eI 2),(eS [102]),(eI 4),(eI 6),(eI 2),(eS [103]),(eI 4),(eI 8),(eI 2),(eS [104]),(eI 4),(eI 10),(eI 2),(eS [105]),(eI 4),(eI 12),(eI 5),(eS []),(eI 4),(eI 13)],81,[(5,68),(4,64),(3,36),(2,32),(1,8),(0,4)],6,0,false,5,none⟩
def tgramErrors7 : List Nat := [10,10,83,58,32,97,32,98,32,99,32,100,10,84,58,32,101,32,102,32,103,32,104,32,105,10]
def hGramErrors365 : HE := ⟨19, [(eT tgramErrors7)], [], [((.val (.tup [(.sl 0 5 0 17 none 4),(eI 0),(eI 0),(eI 0)])), [bgramErrors168])]⟩
theorem hGramErrors365_ok : HOk Tryd.prog hGramErrors365 := hok_eq mmGramErrors_ok hmGramErrors365_ok folGramErrors (lf := 100000) (k := 1000) (by kernel_rfl)
def hmGramErrors366 : List HE := hGramErrors365 :: hmGramErrors365
theorem hmGramErrors366_ok : ∀ x ∈ hmGramErrors366, HOk Tryd.prog x := hmemo_cons hGramErrors365_ok hmGramErrors365_ok
def bgramErrors169 : Blk := ⟨[(.sl 2 3 0 4 none 4),(eI 2),(eS [97]),(eI 3),(eI 4)],91,[(0,5)],1,0,false,0,none⟩
def bgramErrors170 : Blk := ⟨[(eI 2),(eS [97]),(eI 3),(eI 4),(eI 2),(eS [98]),(eI 3),(eI 6),(eI 2),(eS [99]),(eI 3),(eI 8),(eI 2),(eS [100]),(eI 3),(eI 10)],81,[(3,16),(2,12),(1,8),(0,4)],4,0,false,3,none⟩
def hGramErrors366 : HE := ⟨48, [(.sl 0 5 8 7 none 4)], [bgramErrors168], [((.val (.agg [(eI 1),(eS [83]),(eI 3),(eI 1),(.sl 1 0 0 1 none 5)])), [bgramErrors169, bgramErrors170])]⟩
theorem hGramErrors366_ok : HOk Tryd.prog hGramErrors366 := hok_eq mmGramErrors_ok hmGramErrors366_ok folGramErrors (lf := 100000) (k := 1000) (by kernel_rfl)
def hmGramErrors367 : List HE := hGramErrors366 :: hmGramErrors366
theorem hmGramErrors367_ok : ∀ x ∈ hmGramErrors367, HOk Tryd.prog x := hmemo_cons hGramErrors366_ok hmGramErrors366_ok
def bgramErrors171 : Blk := ⟨[(.sl 2 4 0 5 none 4),(eI 2),(eS [101]),(eI 4),(eI 4)],91,[(0,5)],1,0,false,0,none⟩
def bgramErrors172 : Blk := ⟨[(eI 2),(eS [101]),(eI 4),(eI 4),(eI 2),(eS [102]),(eI 4),(eI 6),(eI 2),(eS [103]),(eI 4),(eI 8),(eI 2),(eS [104]),(eI 4),(eI 10),(eI 2),(eS [105]),(eI 4),(eI 12)],81,[(4,20),(3,16),(2,12),(1,8),(0,4)],5,0,false,4,none⟩
def hGramErrors367 : HE := ⟨48, [(.sl 0 5 36 8 none 4)], [bgramErrors168], [((.val (.agg [(eI 1),(eS [84]),(eI 4),(eI 1),(.sl 1 0 0 1 none 5)])), [bgramErrors171, bgramErrors172])]⟩
theorem hGramErrors367_ok : HOk Tryd.prog hGramErrors367 := hok_eq mmGramErrors_ok hmGramErrors367_ok folGramErrors (lf := 100000) (k := 1000) (by kernel_rfl)
def hmGramErrors368 : List HE := hGramErrors367 :: hmGramErrors367
theorem hmGramErrors368_ok : ∀ x ∈ hmGramErrors368, HOk Tryd.prog x := hmemo_cons hGramErrors367_ok hmGramErrors367_ok
def bgramErrors173 : Blk := ⟨[(eI 1),(eS [83]),(eI 3),(eI 1),(.sl 2 0 0 1 none 5),(eI 1),(eS [84]),(eI 4),(eI 1),(.sl 4 0 0 1 none 5)],87,[(1,10),(0,5)],2,0,false,1,none⟩
def bgramErrors174 : Blk := ⟨[(.sl 3 3 0 4 none 4),(eI 2),(eS [97]),(eI 3),(eI 4)],91,[(0,5)],1,0,false,0,none⟩
def bgramErrors175 : Blk := ⟨[(.sl 5 4 0 5 none 4),(eI 2),(eS [101]),(eI 4),(eI 4)],91,[(0,5)],1,0,false,0,none⟩
def hGramErrors368 : HE := ⟨22, [(.sl 0 5 0 17 none 4)], [bgramErrors168], [((.val (.sl 1 1 0 2 none 5)), [bgramErrors173, bgramErrors174, bgramErrors170, bgramErrors175, bgramErrors172])]⟩
theorem hGramErrors368_ok : HOk Tryd.prog hGramErrors368 := hok_eq mmGramErrors_ok hmGramErrors368_ok folGramErrors (lf := 100000) (k := 1000) (by kernel_rfl)
def hmGramErrors369 : List HE := hGramErrors368 :: hmGramErrors368
theorem hmGramErrors369_ok : ∀ x ∈ hmGramErrors369, HOk Tryd.prog x := hmemo_cons hGramErrors368_ok hmGramErrors368_ok
def bgramErrors176 : Blk := ⟨[(eI 1),(eS [83]),(eI 3),(eI 1),(.sl 1 0 0 1 none 5),(eI 1),(eS [84]),(eI 4),(eI 1),(.sl 3 0 0 1 none 5)],87,[(1,10),(0,5)],2,0,false,1,none⟩
def bgramErrors177 : Blk := ⟨[(.sl 4 4 0 5 none 4),(eI 2),(eS [101]),(eI 4),(eI 4)],91,[(0,5)],1,0,false,0,none⟩
def hGramErrors369 : HE := ⟨21, [(.sl 0 1 0 2 none 5)], [bgramErrors176, bgramErrors169, bgramErrors170, bgramErrors177, bgramErrors172], [((.panic (.iface 51 (.agg [(eI 4),(eI 12),(eI 5)]))), [])]⟩
theorem hGramErrors369_ok : HOk Tryd.prog hGramErrors369 := hok_eq mmGramErrors_ok hmGramErrors369_ok folGramErrors (lf := 100000) (k := 1000) (by kernel_rfl)
def hmGramErrors370 : List HE := hGramErrors369 :: hmGramErrors369
theorem hmGramErrors370_ok : ∀ x ∈ hmGramErrors370, HOk Tryd.prog x := hmemo_cons hGramErrors369_ok hmGramErrors369_ok
def hGramErrors370 : HE := ⟨8, [(eT tgramErrors7)], [], [((.val (.tup [(.agg [(.lit (.slice none 0 0)),(.lit (.slice none 0 0)),(.lit (.slice none 0 0))]),(eI 4),(eI 12),(eI 5)])), [])]⟩
theorem hGramErrors370_ok : HOk Tryd.prog hGramErrors370 := hok_eq mmGramErrors_ok hmGramErrors370_ok folGramErrors (lf := 100000) (k := 1000) (by kernel_rfl)
def hmGramErrors371 : List HE := hGramErrors370 :: hmGramErrors370
theorem hmGramErrors371_ok : ∀ x ∈ hmGramErrors371, HOk Tryd.prog x := hmemo_cons hGramErrors370_ok hmGramErrors370_ok
def bgramErrors178 : Blk := ⟨[(eI 1),(eS [84]),(eI 4),(eI 1),(eI 3),(eS [58]),(eI 4),(eI 2),(eI 1),(eS [83]),(eI 4),(eI 4)],81,[(2,12),(1,8),(0,4)],3,0,false,2,none⟩
def hGramErrors371 : HE := ⟨44, [(eS [84,58,32,83]),(eI 4)], [], [((.val (.tup [(.sl 0 2 0 3 none 4),(eI 0)])), [bgramErrors178])]⟩
theorem hGramErrors371_ok : HOk Tryd.prog hGramErrors371 := hok_eq mmGramErrors_ok hmGramErrors371_ok folGramErrors (lf := 100000) (k := 1000) (by kernel_rfl)
def hmGramErrors372 : List HE := hGramErrors371 :: hmGramErrors371
theorem hmGramErrors372_ok : ∀ x ∈ hmGramErrors372, HOk Tryd.prog x := hmemo_cons hGramErrors371_ok hmGramErrors371_ok
def hGramErrors372 : HE := ⟨44, [(eS [85,58,32,59]),(eI 5)], [], [((.val (.tup [(.lit (.slice none 0 0)),(eI 4)])), [])]⟩
theorem hGramErrors372_ok : HOk Tryd.prog hGramErrors372 := hok_eq mmGramErrors_ok hmGramErrors372_ok folGramErrors (lf := 100000) (k := 1000) (by kernel_rfl)
def hmGramErrors373 : List HE := hGramErrors372 :: hmGramErrors372
theorem hmGramErrors373_ok : ∀ x ∈ hmGramErrors373, HOk Tryd.prog x := hmemo_cons hGramErrors372_ok hmGramErrors372_ok
def hGramErrors373 : HE := ⟨19, [(eS [10,10,83,58,32,84,10,84,58,32,83,10,85,58,32,59,10])], [], [((.val (.tup [(.lit (.slice none 0 0)),(eI 5),(eI 4),(eI 2)])), [])]⟩
theorem hGramErrors373_ok : HOk Tryd.prog hGramErrors373 := hok_eq mmGramErrors_ok hmGramErrors373_ok folGramErrors (lf := 100000) (k := 1000) (by kernel_rfl)
def hmGramErrors374 : List HE := hGramErrors373 :: hmGramErrors373
theorem hmGramErrors374_ok : ∀ x ∈ hmGramErrors374, HOk Tryd.prog x := hmemo_cons hGramErrors373_ok hmGramErrors373_ok
def hGramErrors374 : HE := ⟨8, [(eS [10,10,83,58,32,84,10,84,58,32,83,10,85,58,32,59,10])], [], [((.val (.tup [(.agg [(.lit (.slice none 0 0)),(.lit (.slice none 0 0)),(.lit (.slice none 0 0))]),(eI 5),(eI 4),(eI 2)])), [])]⟩
theorem hGramErrors374_ok : HOk Tryd.prog hGramErrors374 := hok_eq mmGramErrors_ok hmGramErrors374_ok folGramErrors (lf := 100000) (k := 1000) (by kernel_rfl)
def hmGramErrors375 : List HE := hGramErrors374 :: hmGramErrors374
theorem hmGramErrors375_ok : ∀ x ∈ hmGramErrors375, HOk Tryd.prog x := hmemo_cons hGramErrors374_ok hmGramErrors374_ok
def bgramErrors179 : Blk := ⟨[(eI 5),(eS []),(eI 1),(eI 1),(eI 5),(eS []),(eI 2),(eI 1)],81,[(1,8),(0,4)],2,0,false,1,none⟩
def hGramErrors375 : HE := ⟨19, [(eS [10,10])], [], [((.val (.tup [(.sl 0 1 0 2 none 4),(eI 0),(eI 0),(eI 0)])), [bgramErrors179])]⟩
theorem hGramErrors375_ok : HOk Tryd.prog hGramErrors375 := hok_eq mmGramErrors_ok hmGramErrors375_ok folGramErrors (lf := 100000) (k := 1000) (by kernel_rfl)
def hmGramErrors376 : List HE := hGramErrors375 :: hmGramErrors375
theorem hmGramErrors376_ok : ∀ x ∈ hmGramErrors376, HOk Tryd.prog x := hmemo_cons hGramErrors375_ok hmGramErrors375_ok
def hGramErrors376 : HE := ⟨22, [(.sl 0 1 0 2 none 4)], [bgramErrors179], [((.val (.lit (.slice none 0 0))), [])]⟩
theorem hGramErrors376_ok : HOk Tryd.prog hGramErrors376 := hok_eq mmGramErrors_ok hmGramErrors376_ok folGramErrors (lf := 100000) (k := 1000) (by kernel_rfl)
def hmGramErrors377 : List HE := hGramErrors376 :: hmGramErrors376
theorem hmGramErrors377_ok : ∀ x ∈ hmGramErrors377, HOk Tryd.prog x := hmemo_cons hGramErrors376_ok hmGramErrors376_ok
def hGramErrors377 : HE := ⟨8, [(eS [10,10])], [], [((.val (.tup [(.agg [(.lit (.slice none 0 0)),(.lit (.slice none 0 0)),(.lit (.slice none 0 0))]),(eI 0),(eI 0),(eI 2)])), [])]⟩
theorem hGramErrors377_ok : HOk Tryd.prog hGramErrors377 := hok_eq mmGramErrors_ok hmGramErrors377_ok folGramErrors (lf := 100000) (k := 1000) (by kernel_rfl)
def hmGramErrors378 : List HE := hGramErrors377 :: hmGramErrors377
theorem hmGramErrors378_ok : ∀ x ∈ hmGramErrors378, HOk Tryd.prog x := hmemo_cons hGramErrors377_ok hmGramErrors377_ok
def hGramErrors378 : HE := ⟨44, [(eS [35,32,97]),(eI 3)], [], [((.val (.tup [(.lit (.slice none 0 0)),(eI 0)])), [])]⟩
theorem hGramErrors378_ok : HOk Tryd.prog hGramErrors378 := hok_eq mmGramErrors_ok hmGramErrors378_ok folGramErrors (lf := 100000) (k := 1000) (by kernel_rfl)
def hmGramErrors379 : List HE := hGramErrors378 :: hmGramErrors378
theorem hmGramErrors379_ok : ∀ x ∈ hmGramErrors379, HOk Tryd.prog x := hmemo_cons hGramErrors378_ok hmGramErrors378_ok
def bgramErrors180 : Blk := ⟨[(eI 5),(eS []),(eI 1),(eI 1),(eI 5),(eS []),(eI 2),(eI 1),(eI 5),(eS []),(eI 3),(eI 4)],81,[(2,12),(1,8),(0,4)],3,0,false,2,none⟩
def hGramErrors379 : HE := ⟨19, [(eS [10,10,35,32,97,10])], [], [((.val (.tup [(.sl 0 2 0 3 none 4),(eI 0),(eI 0),(eI 0)])), [bgramErrors180])]⟩
theorem hGramErrors379_ok : HOk Tryd.prog hGramErrors379 := hok_eq mmGramErrors_ok hmGramErrors379_ok folGramErrors (lf := 100000) (k := 1000) (by kernel_rfl)
def hmGramErrors380 : List HE := hGramErrors379 :: hmGramErrors379
theorem hmGramErrors380_ok : ∀ x ∈ hmGramErrors380, HOk Tryd.prog x := hmemo_cons hGramErrors379_ok hmGramErrors379_ok
def hGramErrors380 : HE := ⟨22, [(.sl 0 2 0 3 none 4)], [bgramErrors180], [((.val (.lit (.slice none 0 0))), [])]⟩
theorem hGramErrors380_ok : HOk Tryd.prog hGramErrors380 := hok_eq mmGramErrors_ok hmGramErrors380_ok folGramErrors (lf := 100000) (k := 1000) (by kernel_rfl)
def hmGramErrors381 : List HE := hGramErrors380 :: hmGramErrors380
theorem hmGramErrors381_ok : ∀ x ∈ hmGramErrors381, HOk Tryd.prog x := hmemo_cons hGramErrors380_ok hmGramErrors380_ok
def hGramErrors381 : HE := ⟨8, [(eS [10,10,35,32,97,10])], [], [((.val (.tup [(.agg [(.lit (.slice none 0 0)),(.lit (.slice none 0 0)),(.lit (.slice none 0 0))]),(eI 0),(eI 0),(eI 2)])), [])]⟩
theorem hGramErrors381_ok : HOk Tryd.prog hGramErrors381 := hok_eq mmGramErrors_ok hmGramErrors381_ok folGramErrors (lf := 100000) (k := 1000) (by kernel_rfl)
def hmGramErrors382 : List HE := hGramErrors381 :: hmGramErrors381
theorem hmGramErrors382_ok : ∀ x ∈ hmGramErrors382, HOk Tryd.prog x := hmemo_cons hGramErrors381_ok hmGramErrors381_ok
def bgramErrors181 : Blk := ⟨[(eI 1),(eS [83]),(eI 3),(eI 1),(eI 3),(eS [58]),(eI 3),(eI 2),(eI 1),(eS [83]),(eI 3),(eI 4)],81,[(2,12),(1,8),(0,4)],3,0,false,2,none⟩
def hGramErrors382 : HE := ⟨44, [(eS [83,58,32,83]),(eI 3)], [], [((.val (.tup [(.sl 0 2 0 3 none 4),(eI 0)])), [bgramErrors181])]⟩
theorem hGramErrors382_ok : HOk Tryd.prog hGramErrors382 := hok_eq mmGramErrors_ok hmGramErrors382_ok folGramErrors (lf := 100000) (k := 1000) (by kernel_rfl)
def hmGramErrors383 : List HE := hGramErrors382 :: hmGramErrors382
theorem hmGramErrors383_ok : ∀ x ∈ hmGramErrors383, HOk Tryd.prog x := hmemo_cons hGramErrors382_ok hmGramErrors382_ok
def bgramErrors182 : Blk := ⟨[(eI 5),(eS []),(eI 1),(eI 1),(eI 5),(eS []),(eI 2),(eI 1),(eI 1),(eS [83]),(eI 3),(eI 1),(eI 3),(eS [58]),(eI 3),(eI 2),(eI 1),(eS [83]),(eI 3),(eI 4),(eI 5),(eS []),(eI 3),(eI 5)],81,[(3,24),(2,20),(1,8),(0,4)],4,0,false,3,none⟩
def hGramErrors383 : HE := ⟨19, [(eS [10,10,83,58,32,83,10])], [], [((.val (.tup [(.sl 0 3 0 6 none 4),(eI 0),(eI 0),(eI 0)])), [bgramErrors182])]⟩
theorem hGramErrors383_ok : HOk Tryd.prog hGramErrors383 := hok_eq mmGramErrors_ok hmGramErrors383_ok folGramErrors (lf := 100000) (k := 1000) (by kernel_rfl)
def hmGramErrors384 : List HE := hGramErrors383 :: hmGramErrors383
theorem hmGramErrors384_ok : ∀ x ∈ hmGramErrors384, HOk Tryd.prog x := hmemo_cons hGramErrors383_ok hmGramErrors383_ok
def bgramErrors183 : Blk := ⟨[(.sl 2 0 0 1 none 4),(eI 1),(eS [83]),(eI 3),(eI 4)],91,[(0,5)],1,0,false,0,none⟩
def bgramErrors184 : Blk := ⟨[(eI 1),(eS [83]),(eI 3),(eI 4)],81,[(0,4)],1,0,false,0,none⟩
def hGramErrors384 : HE := ⟨48, [(.sl 0 3 8 4 none 4)], [bgramErrors182], [((.val (.agg [(eI 1),(eS [83]),(eI 3),(eI 1),(.sl 1 0 0 1 none 5)])), [bgramErrors183, bgramErrors184])]⟩
theorem hGramErrors384_ok : HOk Tryd.prog hGramErrors384 := hok_eq mmGramErrors_ok hmGramErrors384_ok folGramErrors (lf := 100000) (k := 1000) (by kernel_rfl)
def hmGramErrors385 : List HE := hGramErrors384 :: hmGramErrors384
theorem hmGramErrors385_ok : ∀ x ∈ hmGramErrors385, HOk Tryd.prog x := hmemo_cons hGramErrors384_ok hmGramErrors384_ok
def bgramErrors185 : Blk := ⟨[(.sl 3 0 0 1 none 4),(eI 1),(eS [83]),(eI 3),(eI 4)],91,[(0,5)],1,0,false,0,none⟩
def hGramErrors385 : HE := ⟨22, [(.sl 0 3 0 6 none 4)], [bgramErrors182], [((.val (.sl 1 0 0 1 none 5)), [bgramErrors138, bgramErrors185, bgramErrors184])]⟩
theorem hGramErrors385_ok : HOk Tryd.prog hGramErrors385 := hok_eq mmGramErrors_ok hmGramErrors385_ok folGramErrors (lf := 100000) (k := 1000) (by kernel_rfl)
def hmGramErrors386 : List HE := hGramErrors385 :: hmGramErrors385
theorem hmGramErrors386_ok : ∀ x ∈ hmGramErrors386, HOk Tryd.prog x := hmemo_cons hGramErrors385_ok hmGramErrors385_ok
def hGramErrors386 : HE := ⟨21, [(.sl 0 0 0 1 none 5)], [bgramErrors140, bgramErrors183, bgramErrors184], [((.panic (.iface 51 (.agg [(eI 0),(eI 0),(eI 2)]))), [])]⟩
theorem hGramErrors386_ok : HOk Tryd.prog hGramErrors386 := hok_eq mmGramErrors_ok hmGramErrors386_ok folGramErrors (lf := 100000) (k := 1000) (by kernel_rfl)
def hmGramErrors387 : List HE := hGramErrors386 :: hmGramErrors386
theorem hmGramErrors387_ok : ∀ x ∈ hmGramErrors387, HOk Tryd.prog x := hmemo_cons hGramErrors386_ok hmGramErrors386_ok
def hGramErrors387 : HE := ⟨8, [(eS [10,10,83,58,32,83,10])], [], [((.val (.tup [(.agg [(.lit (.slice none 0 0)),(.lit (.slice none 0 0)),(.lit (.slice none 0 0))]),(eI 0),(eI 0),(eI 2)])), [])]⟩
theorem hGramErrors387_ok : HOk Tryd.prog hGramErrors387 := hok_eq mmGramErrors_ok hmGramErrors387_ok folGramErrors (lf := 100000) (k := 1000) (by kernel_rfl)
def hmGramErrors388 : List HE := hGramErrors387 :: hmGramErrors387
theorem hmGramErrors388_ok : ∀ x ∈ hmGramErrors388, HOk Tryd.prog x := hmemo_cons hGramErrors387_ok hmGramErrors387_ok
def bgramErrors186 : Blk := ⟨[(eI 1),(eS [83]),(eI 3),(eI 1),(eI 3),(eS [58]),(eI 3),(eI 2)],81,[(1,8),(0,4)],2,0,false,1,none⟩
def hGramErrors388 : HE := ⟨44, [(eS [83,58]),(eI 3)], [], [((.val (.tup [(.sl 0 1 0 2 none 4),(eI 0)])), [bgramErrors186])]⟩
theorem hGramErrors388_ok : HOk Tryd.prog hGramErrors388 := hok_eq mmGramErrors_ok hmGramErrors388_ok folGramErrors (lf := 100000) (k := 1000) (by kernel_rfl)
def hmGramErrors389 : List HE := hGramErrors388 :: hmGramErrors388
theorem hmGramErrors389_ok : ∀ x ∈ hmGramErrors389, HOk Tryd.prog x := hmemo_cons hGramErrors388_ok hmGramErrors388_ok
def bgramErrors187 : Blk := ⟨[(eI 5),(eS []),(eI 1),(eI 1),(eI 5),(eS []),(eI 2),(eI 1),(eI 1),(eS [83]),(eI 3),(eI 1),(eI 3),(eS [58]),(eI 3),(eI 2),(eI 5),(eS []),(eI 3),(eI 3)],81,[(3,20),(2,16),(1,8),(0,4)],4,0,false,3,none⟩
def hGramErrors389 : HE := ⟨19, [(eS [10,10,83,58,10])], [], [((.val (.tup [(.sl 0 3 0 5 none 4),(eI 0),(eI 0),(eI 0)])), [bgramErrors187])]⟩
theorem hGramErrors389_ok : HOk Tryd.prog hGramErrors389 := hok_eq mmGramErrors_ok hmGramErrors389_ok folGramErrors (lf := 100000) (k := 1000) (by kernel_rfl)
def hmGramErrors390 : List HE := hGramErrors389 :: hmGramErrors389
theorem hmGramErrors390_ok : ∀ x ∈ hmGramErrors390, HOk Tryd.prog x := hmemo_cons hGramErrors389_ok hmGramErrors389_ok
def bgramErrors188 : Blk := ⟨[(.lit (.slice none 0 0)),(eI 5),(eS []),(eI 3),(eI 3)],91,[(0,5)],1,0,false,0,none⟩
def hGramErrors390 : HE := ⟨48, [(.sl 0 3 8 3 none 4)], [bgramErrors187], [((.val (.agg [(eI 1),(eS [83]),(eI 3),(eI 1),(.sl 1 0 0 1 none 5)])), [bgramErrors188])]⟩
theorem hGramErrors390_ok : HOk Tryd.prog hGramErrors390 := hok_eq mmGramErrors_ok hmGramErrors390_ok folGramErrors (lf := 100000) (k := 1000) (by kernel_rfl)
def hmGramErrors391 : List HE := hGramErrors390 :: hmGramErrors390
theorem hmGramErrors391_ok : ∀ x ∈ hmGramErrors391, HOk Tryd.prog x := hmemo_cons hGramErrors390_ok hmGramErrors390_ok
def hGramErrors391 : HE := ⟨22, [(.sl 0 3 0 5 none 4)], [bgramErrors187], [((.val (.sl 1 0 0 1 none 5)), [bgramErrors138, bgramErrors188])]⟩
theorem hGramErrors391_ok : HOk Tryd.prog hGramErrors391 := hok_eq mmGramErrors_ok hmGramErrors391_ok folGramErrors (lf := 100000) (k := 1000) (by kernel_rfl)
def hmGramErrors392 : List HE := hGramErrors391 :: hmGramErrors391
theorem hmGramErrors392_ok : ∀ x ∈ hmGramErrors392, HOk Tryd.prog x := hmemo_cons hGramErrors391_ok hmGramErrors391_ok
def hGramErrors392 : HE := ⟨21, [(.sl 0 0 0 1 none 5)], [bgramErrors140, bgramErrors188], [((.panic (.iface 51 (.agg [(eI 0),(eI 0),(eI 2)]))), [])]⟩
theorem hGramErrors392_ok : HOk Tryd.prog hGramErrors392 := hok_eq mmGramErrors_ok hmGramErrors392_ok folGramErrors (lf := 100000) (k := 1000) (by kernel_rfl)
def hmGramErrors393 : List HE := hGramErrors392 :: hmGramErrors392
theorem hmGramErrors393_ok : ∀ x ∈ hmGramErrors393, HOk Tryd.prog x := hmemo_cons hGramErrors392_ok hmGramErrors392_ok
def hGramErrors393 : HE := ⟨8, [(eS [10,10,83,58,10])], [], [((.val (.tup [(.agg [(.lit (.slice none 0 0)),(.lit (.slice none 0 0)),(.lit (.slice none 0 0))]),(eI 0),(eI 0),(eI 2)])), [])]⟩
theorem hGramErrors393_ok : HOk Tryd.prog hGramErrors393 := hok_eq mmGramErrors_ok hmGramErrors393_ok folGramErrors (lf := 100000) (k := 1000) (by kernel_rfl)
def hmGramErrors394 : List HE := hGramErrors393 :: hmGramErrors393
theorem hmGramErrors394_ok : ∀ x ∈ hmGramErrors394, HOk Tryd.prog x := hmemo_cons hGramErrors393_ok hmGramErrors393_ok
def bgramErrors189 : Blk := ⟨[(eI 1),(eS [83]),(eI 3),(eI 1),(eI 3),(eS [58]),(eI 3),(eI 2),(eI 1),(eS [84]),(eI 3),(eI 4),(eI 4),(eS [124]),(eI 3),(eI 6)],81,[(3,16),(2,12),(1,8),(0,4)],4,0,false,3,none⟩
def hGramErrors394 : HE := ⟨44, [(eS [83,58,32,84,32,124]),(eI 3)], [], [((.val (.tup [(.sl 0 3 0 4 none 4),(eI 0)])), [bgramErrors189])]⟩
theorem hGramErrors394_ok : HOk Tryd.prog hGramErrors394 := hok_eq mmGramErrors_ok hmGramErrors394_ok folGramErrors (lf := 100000) (k := 1000) (by kernel_rfl)
def hmGramErrors395 : List HE := hGramErrors394 :: hmGramErrors394
theorem hmGramErrors395_ok : ∀ x ∈ hmGramErrors395, HOk Tryd.prog x := hmemo_cons hGramErrors394_ok hmGramErrors394_ok
def bgramErrors190 : Blk := ⟨[(eI 5),(eS []),(eI 1),(eI 1),(eI 5),(eS []),(eI 2),(eI 1),(eI 1),(eS [83]),(eI 3),(eI 1),(eI 3),(eS [58]),(eI 3),(eI 2),(eI 1),(eS [84]),(eI 3),(eI 4),(eI 4),(eS [124]),(eI 3),(eI 6),(eI 5),(eS []),(eI 3),(eI 7),(eI 1),(eS [84]),(eI 4),(eI 1),(eI 3),(eS [58]),(eI 4),(eI 2),(eI 1),(eS [83]),(eI 4),(eI 4),(eI 5),(eS []),(eI 4),(eI 5)],81,[(5,44),(4,40),(3,28),(2,24),(1,8),(0,4)],6,0,false,5,none⟩
def hGramErrors395 : HE := ⟨19, [(eS [10,10,83,58,32,84,32,124,10,84,58,32,83,10])], [], [((.val (.tup [(.sl 0 5 0 11 none 4),(eI 0),(eI 0),(eI 0)])), [bgramErrors190])]⟩
theorem hGramErrors395_ok : HOk Tryd.prog hGramErrors395 := hok_eq mmGramErrors_ok hmGramErrors395_ok folGramErrors (lf := 100000) (k := 1000) (by kernel_rfl)
def hmGramErrors396 : List HE := hGramErrors395 :: hmGramErrors395
theorem hmGramErrors396_ok : ∀ x ∈ hmGramErrors396, HOk Tryd.prog x := hmemo_cons hGramErrors395_ok hmGramErrors395_ok
def bgramErrors191 : Blk := ⟨[(.sl 2 0 0 1 none 4),(eI 1),(eS [84]),(eI 3),(eI 4),(.lit (.slice none 0 0)),(eI 5),(eS []),(eI 3),(eI 7)],91,[(1,10),(0,5)],2,0,false,1,none⟩
def hGramErrors396 : HE := ⟨48, [(.sl 0 5 8 5 none 4)], [bgramErrors190], [((.val (.agg [(eI 1),(eS [83]),(eI 3),(eI 1),(.sl 1 1 0 2 none 5)])), [bgramErrors191, bgramErrors127])]⟩
theorem hGramErrors396_ok : HOk Tryd.prog hGramErrors396 := hok_eq mmGramErrors_ok hmGramErrors396_ok folGramErrors (lf := 100000) (k := 1000) (by kernel_rfl)
def hmGramErrors397 : List HE := hGramErrors396 :: hmGramErrors396
theorem hmGramErrors397_ok : ∀ x ∈ hmGramErrors397, HOk Tryd.prog x := hmemo_cons hGramErrors396_ok hmGramErrors396_ok
def hGramErrors397 : HE := ⟨48, [(.sl 0 5 28 4 none 4)], [bgramErrors190], [((.val (.agg [(eI 1),(eS [84]),(eI 4),(eI 1),(.sl 1 0 0 1 none 5)])), [bgramErrors81, bgramErrors82])]⟩
theorem hGramErrors397_ok : HOk Tryd.prog hGramErrors397 := hok_eq mmGramErrors_ok hmGramErrors397_ok folGramErrors (lf := 100000) (k := 1000) (by kernel_rfl)
def hmGramErrors398 : List HE := hGramErrors397 :: hmGramErrors397
theorem hmGramErrors398_ok : ∀ x ∈ hmGramErrors398, HOk Tryd.prog x := hmemo_cons hGramErrors397_ok hmGramErrors397_ok
def bgramErrors192 : Blk := ⟨[(eI 1),(eS [83]),(eI 3),(eI 1),(.sl 2 1 0 2 none 5),(eI 1),(eS [84]),(eI 4),(eI 1),(.sl 4 0 0 1 none 5)],87,[(1,10),(0,5)],2,0,false,1,none⟩
def bgramErrors193 : Blk := ⟨[(.sl 3 0 0 1 none 4),(eI 1),(eS [84]),(eI 3),(eI 4),(.lit (.slice none 0 0)),(eI 5),(eS []),(eI 3),(eI 7)],91,[(1,10),(0,5)],2,0,false,1,none⟩
def bgramErrors194 : Blk := ⟨[(.sl 5 0 0 1 none 4),(eI 1),(eS [83]),(eI 4),(eI 4)],91,[(0,5)],1,0,false,0,none⟩
def hGramErrors398 : HE := ⟨22, [(.sl 0 5 0 11 none 4)], [bgramErrors190], [((.val (.sl 1 1 0 2 none 5)), [bgramErrors192, bgramErrors193, bgramErrors127, bgramErrors194, bgramErrors82])]⟩
theorem hGramErrors398_ok : HOk Tryd.prog hGramErrors398 := hok_eq mmGramErrors_ok hmGramErrors398_ok folGramErrors (lf := 100000) (k := 1000) (by kernel_rfl)
def hmGramErrors399 : List HE := hGramErrors398 :: hmGramErrors398
theorem hmGramErrors399_ok : ∀ x ∈ hmGramErrors399, HOk Tryd.prog x := hmemo_cons hGramErrors398_ok hmGramErrors398_ok
def bgramErrors195 : Blk := ⟨[(eI 1),(eS [83]),(eI 3),(eI 1),(.sl 1 1 0 2 none 5),(eI 1),(eS [84]),(eI 4),(eI 1),(.sl 3 0 0 1 none 5)],87,[(1,10),(0,5)],2,0,false,1,none⟩
def bgramErrors196 : Blk := ⟨[(.sl 4 0 0 1 none 4),(eI 1),(eS [83]),(eI 4),(eI 4)],91,[(0,5)],1,0,false,0,none⟩
def hGramErrors399 : HE := ⟨21, [(.sl 0 1 0 2 none 5)], [bgramErrors195, bgramErrors191, bgramErrors127, bgramErrors196, bgramErrors82], [((.panic (.iface 51 (.agg [(eI 0),(eI 0),(eI 2)]))), [])]⟩
theorem hGramErrors399_ok : HOk Tryd.prog hGramErrors399 := hok_eq mmGramErrors_ok hmGramErrors399_ok folGramErrors (lf := 100000) (k := 1000) (by kernel_rfl)
def hmGramErrors400 : List HE := hGramErrors399 :: hmGramErrors399
theorem hmGramErrors400_ok : ∀ x ∈ hmGramErrors400, HOk Tryd.prog x := hmemo_cons hGramErrors399_ok hmGramErrors399_ok
def hGramErrors400 : HE := ⟨8, [(eS [10,10,83,58,32,84,32,124,10,84,58,32,83,10])], [], [((.val (.tup [(.agg [(.lit (.slice none 0 0)),(.lit (.slice none 0 0)),(.lit (.slice none 0 0))]),(eI 0),(eI 0),(eI 2)])), [])]⟩
theorem hGramErrors400_ok : HOk Tryd.prog hGramErrors400 := hok_eq mmGramErrors_ok hmGramErrors400_ok folGramErrors (lf := 100000) (k := 1000) (by kernel_rfl)
def hmGramErrors401 : List HE := hGramErrors400 :: hmGramErrors400
theorem hmGramErrors401_ok : ∀ x ∈ hmGramErrors401, HOk Tryd.prog x := hmemo_cons hGramErrors400_ok hmGramErrors400_ok
def hGramErrors401 : HE := ⟨44, [(eS [83,58,32,97,32,59]),(eI 2)], [], [((.val (.tup [(.lit (.slice none 0 0)),(eI 6)])), [])]⟩
theorem hGramErrors401_ok : HOk Tryd.prog hGramErrors401 := hok_eq mmGramErrors_ok hmGramErrors401_ok folGramErrors (lf := 100000) (k := 1000) (by kernel_rfl)
def hmGramErrors402 : List HE := hGramErrors401 :: hmGramErrors401
theorem hmGramErrors402_ok : ∀ x ∈ hmGramErrors402, HOk Tryd.prog x := hmemo_cons hGramErrors401_ok hmGramErrors401_ok
def hGramErrors402 : HE := ⟨19, [(eS [10,83,58,32,97,32,59])], [], [((.val (.tup [(.lit (.slice none 0 0)),(eI 2),(eI 6),(eI 2)])), [])]⟩
theorem hGramErrors402_ok : HOk Tryd.prog hGramErrors402 := hok_eq mmGramErrors_ok hmGramErrors402_ok folGramErrors (lf := 100000) (k := 1000) (by kernel_rfl)
def hmGramErrors403 : List HE := hGramErrors402 :: hmGramErrors402
theorem hmGramErrors403_ok : ∀ x ∈ hmGramErrors403, HOk Tryd.prog x := hmemo_cons hGramErrors402_ok hmGramErrors402_ok
def hGramErrors403 : HE := ⟨8, [(eS [10,83,58,32,97,32,59])], [], [((.val (.tup [(.agg [(.lit (.slice none 0 0)),(.lit (.slice none 0 0)),(.lit (.slice none 0 0))]),(eI 2),(eI 6),(eI 2)])), [])]⟩
theorem hGramErrors403_ok : HOk Tryd.prog hGramErrors403 := hok_eq mmGramErrors_ok hmGramErrors403_ok folGramErrors (lf := 100000) (k := 1000) (by kernel_rfl)
def hmGramErrors404 : List HE := hGramErrors403 :: hmGramErrors403
theorem hmGramErrors404_ok : ∀ x ∈ hmGramErrors404, HOk Tryd.prog x := hmemo_cons hGramErrors403_ok hmGramErrors403_ok
def bgramErrors197 : Blk := ⟨[(eI 2),(eS [97]),(eI 2),(eI 1),(eI 3),(eS [58]),(eI 2),(eI 2),(eI 2),(eS [98]),(eI 2),(eI 4)],81,[(2,12),(1,8),(0,4)],3,0,false,2,none⟩
def hGramErrors404 : HE := ⟨44, [(eS [97,58,32,98]),(eI 2)], [], [((.val (.tup [(.sl 0 2 0 3 none 4),(eI 0)])), [bgramErrors197])]⟩
theorem hGramErrors404_ok : HOk Tryd.prog hGramErrors404 := hok_eq mmGramErrors_ok hmGramErrors404_ok folGramErrors (lf := 100000) (k := 1000) (by kernel_rfl)
def hmGramErrors405 : List HE := hGramErrors404 :: hmGramErrors404
theorem hmGramErrors405_ok : ∀ x ∈ hmGramErrors405, HOk Tryd.prog x := hmemo_cons hGramErrors404_ok hmGramErrors404_ok
def bgramErrors198 : Blk := ⟨[(eI 5),(eS []),(eI 1),(eI 1),(eI 2),(eS [97]),(eI 2),(eI 1),(eI 3),(eS [58]),(eI 2),(eI 2),(eI 2),(eS [98]),(eI 2),(eI 4),(eI 5),(eS []),(eI 2),(eI 5)],81,[(2,20),(1,16),(0,4)],3,0,false,2,none⟩
def hGramErrors405 : HE := ⟨19, [(eS [10,97,58,32,98,10])], [], [((.val (.tup [(.sl 0 2 0 5 none 4),(eI 0),(eI 0),(eI 0)])), [bgramErrors198])]⟩
theorem hGramErrors405_ok : HOk Tryd.prog hGramErrors405 := hok_eq mmGramErrors_ok hmGramErrors405_ok folGramErrors (lf := 100000) (k := 1000) (by kernel_rfl)
def hmGramErrors406 : List HE := hGramErrors405 :: hmGramErrors405
theorem hmGramErrors406_ok : ∀ x ∈ hmGramErrors406, HOk Tryd.prog x := hmemo_cons hGramErrors405_ok hmGramErrors405_ok
def hGramErrors406 : HE := ⟨48, [(.sl 0 2 4 4 none 4)], [bgramErrors198], [((.panic (.iface 51 (.agg [(eI 2),(eI 1),(eI 2)]))), [])]⟩
theorem hGramErrors406_ok : HOk Tryd.prog hGramErrors406 := hok_eq mmGramErrors_ok hmGramErrors406_ok folGramErrors (lf := 100000) (k := 1000) (by kernel_rfl)
def hmGramErrors407 : List HE := hGramErrors406 :: hmGramErrors406
theorem hmGramErrors407_ok : ∀ x ∈ hmGramErrors407, HOk Tryd.prog x := hmemo_cons hGramErrors406_ok hmGramErrors406_ok
def hGramErrors407 : HE := ⟨22, [(.sl 0 2 0 5 none 4)], [bgramErrors198], [((.panic (.iface 51 (.agg [(eI 2),(eI 1),(eI 2)]))), [])]⟩
theorem hGramErrors407_ok : HOk Tryd.prog hGramErrors407 := hok_eq mmGramErrors_ok hmGramErrors407_ok folGramErrors (lf := 100000) (k := 1000) (by kernel_rfl)
def hmGramErrors408 : List HE := hGramErrors407 :: hmGramErrors407
theorem hmGramErrors408_ok : ∀ x ∈ hmGramErrors408, HOk Tryd.prog x := hmemo_cons hGramErrors407_ok hmGramErrors407_ok
def hGramErrors408 : HE := ⟨8, [(eS [10,97,58,32,98,10])], [], [((.val (.tup [(.agg [(.lit (.slice none 0 0)),(.lit (.slice none 0 0)),(.lit (.slice none 0 0))]),(eI 2),(eI 1),(eI 2)])), [])]⟩
theorem hGramErrors408_ok : HOk Tryd.prog hGramErrors408 := hok_eq mmGramErrors_ok hmGramErrors408_ok folGramErrors (lf := 100000) (k := 1000) (by kernel_rfl)
def hmGramErrors409 : List HE := hGramErrors408 :: hmGramErrors408
theorem hmGramErrors409_ok : ∀ x ∈ hmGramErrors409, HOk Tryd.prog x := hmemo_cons hGramErrors408_ok hmGramErrors408_ok
def bgramErrors199 : Blk := ⟨[(eI 1),(eS [83]),(eI 2),(eI 1),(eI 2),(eS [97]),(eI 2),(eI 3)],81,[(1,8),(0,4)],2,0,false,1,none⟩
def hGramErrors409 : HE := ⟨44, [(eS [83,32,97]),(eI 2)], [], [((.val (.tup [(.sl 0 1 0 2 none 4),(eI 0)])), [bgramErrors199])]⟩
theorem hGramErrors409_ok : HOk Tryd.prog hGramErrors409 := hok_eq mmGramErrors_ok hmGramErrors409_ok folGramErrors (lf := 100000) (k := 1000) (by kernel_rfl)
def hmGramErrors410 : List HE := hGramErrors409 :: hmGramErrors409
theorem hmGramErrors410_ok : ∀ x ∈ hmGramErrors410, HOk Tryd.prog x := hmemo_cons hGramErrors409_ok hmGramErrors409_ok
def bgramErrors200 : Blk := ⟨[(eI 5),(eS []),(eI 1),(eI 1),(eI 1),(eS [83]),(eI 2),(eI 1),(eI 2),(eS [97]),(eI 2),(eI 3),(eI 5),(eS []),(eI 2),(eI 4)],81,[(2,16),(1,12),(0,4)],3,0,false,2,none⟩
def hGramErrors410 : HE := ⟨19, [(eS [10,83,32,97,10])], [], [((.val (.tup [(.sl 0 2 0 4 none 4),(eI 0),(eI 0),(eI 0)])), [bgramErrors200])]⟩
theorem hGramErrors410_ok : HOk Tryd.prog hGramErrors410 := hok_eq mmGramErrors_ok hmGramErrors410_ok folGramErrors (lf := 100000) (k := 1000) (by kernel_rfl)
def hmGramErrors411 : List HE := hGramErrors410 :: hmGramErrors410
theorem hmGramErrors411_ok : ∀ x ∈ hmGramErrors411, HOk Tryd.prog x := hmemo_cons hGramErrors410_ok hmGramErrors410_ok
def hGramErrors411 : HE := ⟨48, [(.sl 0 2 4 3 none 4)], [bgramErrors200], [((.panic (.iface 51 (.agg [(eI 2),(eI 3),(eI 2)]))), [])]⟩
theorem hGramErrors411_ok : HOk Tryd.prog hGramErrors411 := hok_eq mmGramErrors_ok hmGramErrors411_ok folGramErrors (lf := 100000) (k := 1000) (by kernel_rfl)
def hmGramErrors412 : List HE := hGramErrors411 :: hmGramErrors411
theorem hmGramErrors412_ok : ∀ x ∈ hmGramErrors412, HOk Tryd.prog x := hmemo_cons hGramErrors411_ok hmGramErrors411_ok
def hGramErrors412 : HE := ⟨22, [(.sl 0 2 0 4 none 4)], [bgramErrors200], [((.panic (.iface 51 (.agg [(eI 2),(eI 3),(eI 2)]))), [])]⟩
theorem hGramErrors412_ok : HOk Tryd.prog hGramErrors412 := hok_eq mmGramErrors_ok hmGramErrors412_ok folGramErrors (lf := 100000) (k := 1000) (by kernel_rfl)
def hmGramErrors413 : List HE := hGramErrors412 :: hmGramErrors412
theorem hmGramErrors413_ok : ∀ x ∈ hmGramErrors413, HOk Tryd.prog x := hmemo_cons hGramErrors412_ok hmGramErrors412_ok
def hGramErrors413 : HE := ⟨8, [(eS [10,83,32,97,10])], [], [((.val (.tup [(.agg [(.lit (.slice none 0 0)),(.lit (.slice none 0 0)),(.lit (.slice none 0 0))]),(eI 2),(eI 3),(eI 2)])), [])]⟩
theorem hGramErrors413_ok : HOk Tryd.prog hGramErrors413 := hok_eq mmGramErrors_ok hmGramErrors413_ok folGramErrors (lf := 100000) (k := 1000) (by kernel_rfl)
def hmGramErrors414 : List HE := hGramErrors413 :: hmGramErrors413
theorem hmGramErrors414_ok : ∀ x ∈ hmGramErrors414, HOk Tryd.prog x := hmemo_cons hGramErrors413_ok hmGramErrors413_ok
def bgramErrors201 : Blk := ⟨[(eI 1),(eS [83]),(eI 2),(eI 1),(eI 3),(eS [58]),(eI 2),(eI 2),(eI 2),(eS [97]),(eI 2),(eI 4),(eI 3),(eS [58]),(eI 2),(eI 6),(eI 2),(eS [98]),(eI 2),(eI 8)],81,[(4,20),(3,16),(2,12),(1,8),(0,4)],5,0,false,4,none⟩
def hGramErrors414 : HE := ⟨44, [(eS [83,58,32,97,32,58,32,98]),(eI 2)], [], [((.val (.tup [(.sl 0 4 0 5 none 4),(eI 0)])), [bgramErrors201])]⟩
theorem hGramErrors414_ok : HOk Tryd.prog hGramErrors414 := hok_eq mmGramErrors_ok hmGramErrors414_ok folGramErrors (lf := 100000) (k := 1000) (by kernel_rfl)
def hmGramErrors415 : List HE := hGramErrors414 :: hmGramErrors414
theorem hmGramErrors415_ok : ∀ x ∈ hmGramErrors415, HOk Tryd.prog x := hmemo_cons hGramErrors414_ok hmGramErrors414_ok
def bgramErrors202 : Blk := ⟨[(eI 5),(eS []),(eI 1),(eI 1),(eI 1),(eS [83]),(eI 2),(eI 1),(eI 3),(eS [58]),(eI 2),(eI 2),(eI 2),(eS [97]),(eI 2),(eI 4),(eI 3),(eS [58]),(eI 2),(eI 6),(eI 2),(eS [98]),(eI 2),(eI 8),(eI 5),(eS []),(eI 2),(eI 9)],81,[(2,28),(1,24),(0,4)],3,0,false,2,none⟩
def hGramErrors415 : HE := ⟨19, [(eS [10,83,58,32,97,32,58,32,98,10])], [], [((.val (.tup [(.sl 0 2 0 7 none 4),(eI 0),(eI 0),(eI 0)])), [bgramErrors202])]⟩
theorem hGramErrors415_ok : HOk Tryd.prog hGramErrors415 := hok_eq mmGramErrors_ok hmGramErrors415_ok folGramErrors (lf := 100000) (k := 1000) (by kernel_rfl)
def hmGramErrors416 : List HE := hGramErrors415 :: hmGramErrors415
theorem hmGramErrors416_ok : ∀ x ∈ hmGramErrors416, HOk Tryd.prog x := hmemo_cons hGramErrors415_ok hmGramErrors415_ok
def hGramErrors416 : HE := ⟨48, [(.sl 0 2 4 6 none 4)], [bgramErrors202], [((.panic (.iface 51 (.agg [(eI 2),(eI 6),(eI 2)]))), [])]⟩
theorem hGramErrors416_ok : HOk Tryd.prog hGramErrors416 := hok_eq mmGramErrors_ok hmGramErrors416_ok folGramErrors (lf := 100000) (k := 1000) (by kernel_rfl)
def hmGramErrors417 : List HE := hGramErrors416 :: hmGramErrors416
theorem hmGramErrors417_ok : ∀ x ∈ hmGramErrors417, HOk Tryd.prog x := hmemo_cons hGramErrors416_ok hmGramErrors416_ok
def hGramErrors417 : HE := ⟨22, [(.sl 0 2 0 7 none 4)], [bgramErrors202], [((.panic (.iface 51 (.agg [(eI 2),(eI 6),(eI 2)]))), [])]⟩
theorem hGramErrors417_ok : HOk Tryd.prog hGramErrors417 := hok_eq mmGramErrors_ok hmGramErrors417_ok folGramErrors (lf := 100000) (k := 1000) (by kernel_rfl)
def hmGramErrors418 : List HE := hGramErrors417 :: hmGramErrors417
theorem hmGramErrors418_ok : ∀ x ∈ hmGramErrors418, HOk Tryd.prog x := hmemo_cons hGramErrors417_ok hmGramErrors417_ok
def hGramErrors418 : HE := ⟨8, [(eS [10,83,58,32,97,32,58,32,98,10])], [], [((.val (.tup [(.agg [(.lit (.slice none 0 0)),(.lit (.slice none 0 0)),(.lit (.slice none 0 0))]),(eI 2),(eI 6),(eI 2)])), [])]⟩
theorem hGramErrors418_ok : HOk Tryd.prog hGramErrors418 := hok_eq mmGramErrors_ok hmGramErrors418_ok folGramErrors (lf := 100000) (k := 1000) (by kernel_rfl)
def hmGramErrors419 : List HE := hGramErrors418 :: hmGramErrors418
theorem hmGramErrors419_ok : ∀ x ∈ hmGramErrors419, HOk Tryd.prog x := hmemo_cons hGramErrors418_ok hmGramErrors418_ok
def bgramErrors203 : Blk := ⟨[(eI 1),(eS [83]),(eI 2),(eI 1)],81,[(0,4)],1,0,false,0,none⟩
def hGramErrors419 : HE := ⟨44, [(eS [83]),(eI 2)], [], [((.val (.tup [(.sl 0 0 0 1 none 4),(eI 0)])), [bgramErrors203])]⟩
theorem hGramErrors419_ok : HOk Tryd.prog hGramErrors419 := hok_eq mmGramErrors_ok hmGramErrors419_ok folGramErrors (lf := 100000) (k := 1000) (by kernel_rfl)
def hmGramErrors420 : List HE := hGramErrors419 :: hmGramErrors419
theorem hmGramErrors420_ok : ∀ x ∈ hmGramErrors420, HOk Tryd.prog x := hmemo_cons hGramErrors419_ok hmGramErrors419_ok
def bgramErrors204 : Blk := ⟨[(eI 5),(eS []),(eI 1),(eI 1),(eI 1),(eS [83]),(eI 2),(eI 1),(eI 5),(eS []),(eI 2),(eI 2)],81,[(2,12),(1,8),(0,4)],3,0,false,2,none⟩
def hGramErrors420 : HE := ⟨19, [(eS [10,83,10])], [], [((.val (.tup [(.sl 0 2 0 3 none 4),(eI 0),(eI 0),(eI 0)])), [bgramErrors204])]⟩
theorem hGramErrors420_ok : HOk Tryd.prog hGramErrors420 := hok_eq mmGramErrors_ok hmGramErrors420_ok folGramErrors (lf := 100000) (k := 1000) (by kernel_rfl)
def hmGramErrors421 : List HE := hGramErrors420 :: hmGramErrors420
theorem hmGramErrors421_ok : ∀ x ∈ hmGramErrors421, HOk Tryd.prog x := hmemo_cons hGramErrors420_ok hmGramErrors420_ok
end Go.Proofs.YthofgbkmmedjnaaDoor.E
