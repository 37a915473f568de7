/- The call of ScanErrors, carried out over memory that is known. -/
import Derived.Test.YtcmffeaoailoiaaDoorEWithin
import Derived.Test.YtcmffeaoailoiaaDoorESplit
import Derived.Test.YtcmffeaoailoiaaDoorProg
import Derived.KernelRfl
namespace Go.Proofs.YtcmffeaoailoiaaDoor.E
open Go Go.EV Go.RowKit Go.Proofs
set_option linter.unusedVariables false
set_option maxRecDepth 100000
abbrev eI (n : Nat) : AV := .lit (.int .i64 (Int.ofNat n))
abbrev eU (n : Nat) : AV := .lit (.int .u8 (Int.ofNat n))
abbrev eS (l : List Nat) : AV := .lit (.string (sb l))
abbrev eT (l : List Nat) : AV := .lit (.string (sb l))
abbrev eB1 : AV := .lit (.bool true)
abbrev eB0 : AV := .lit (.bool false)
def mmScanErrors : Memo := [(10, [.any .i64, .lit (.int .i64 (Int.ofNat 9))], upto 9)]
theorem mmScanErrors_ok : ∀ x ∈ mmScanErrors, Contract Tryd.prog x := memo_cons (within_c 9 (by omega)) (memo_nil _)
theorem folScanErrors : Tryd.prog.follows .mixedOrders = true := by kernel_rfl
def hmScanErrors0 : List HE := []
theorem hmScanErrors0_ok : ∀ x ∈ hmScanErrors0, HOk Tryd.prog x := hmemo_nil _
def tscanErrors1 : List Nat := [65,66,67,68,69,70,71,72,73,74,75,76,77,78,79,80,81,82,83,84,85,86,87,88,89,90,97,98,99,100,101,102,103,104,105,106,107,108,109,110,111,112,113,114,115,116,117,118,119,120,121,122,48,49,50,51,52,53,54,55,56,57]
def hScanErrors0 : HE := ⟨29, [(eT tscanErrors1)], [], [((.val (.tup [(.agg [eB0,eB0,eB0,eB0,eB0,eB0,eB0,eB0,eB0,eB0,eB0,eB0,eB0,eB0,eB0,eB0,eB0,eB0,eB0,eB0,eB0,eB0,eB0,eB0,eB0,eB0,eB0,eB0,eB0,eB0,eB0,eB0,eB0,eB0,eB0,eB0,eB0,eB0,eB0,eB0,eB0,eB0,eB0,eB0,eB0,eB0,eB0,eB0,eB1,eB1,eB1,eB1,eB1,eB1,eB1,eB1,eB1,eB1,eB0,eB0,eB0,eB0,eB0,eB0,eB0,eB1,eB1,eB1,eB1,eB1,eB1,eB1,eB1,eB1,eB1,eB1,eB1,eB1,eB1,eB1,eB1,eB1,eB1,eB1,eB1,eB1,eB1,eB1,eB1,eB1,eB1,eB0,eB0,eB0,eB0,eB0,eB0,eB1,eB1,eB1,eB1,eB1,eB1,eB1,eB1,eB1,eB1,eB1,eB1,eB1,eB1,eB1,eB1,eB1,eB1,eB1,eB1,eB1,eB1,eB1,eB1,eB1,eB1,eB0,eB0,eB0,eB0,eB0,eB0,eB0,eB0,eB0,eB0,eB0,eB0,eB0,eB0,eB0,eB0,eB0,eB0,eB0,eB0,eB0,eB0,eB0,eB0,eB0,eB0,eB0,eB0,eB0,eB0,eB0,eB0,eB0,eB0,eB0,eB0,eB0,eB0,eB0,eB0,eB0,eB0,eB0,eB0,eB0,eB0,eB0,eB0,eB0,eB0,eB0,eB0,eB0,eB0,eB0,eB0,eB0,eB0,eB0,eB0,eB0,eB0,eB0,eB0,eB0,eB0,eB0,eB0,eB0,eB0,eB0,eB0,eB0,eB0,eB0,eB0,eB0,eB0,eB0,eB0,eB0,eB0,eB0,eB0,eB0,eB0,eB0,eB0,eB0,eB0,eB0,eB0,eB0,eB0,eB0,eB0,eB0,eB0,eB0,eB0,eB0,eB0,eB0,eB0,eB0,eB0,eB0,eB0,eB0,eB0,eB0,eB0,eB0,eB0,eB0,eB0,eB0,eB0,eB0,eB0,eB0,eB0,eB0,eB0,eB0,eB0,eB0,eB0,eB0,eB0,eB0,eB0,eB0]),eB1])), [])]⟩
theorem hScanErrors0_ok : HOk Tryd.prog hScanErrors0 := hok_eq mmScanErrors_ok hmScanErrors0_ok folScanErrors (lf := 100000) (k := 1000) (by kernel_rfl)
def hmScanErrors1 : List HE := hScanErrors0 :: hmScanErrors0
theorem hmScanErrors1_ok : ∀ x ∈ hmScanErrors1, HOk Tryd.prog x := hmemo_cons hScanErrors0_ok hmScanErrors0_ok
def hScanErrors1 : HE := ⟨11, [(eS [65])], [], [((.val eB1), [])]⟩
theorem hScanErrors1_ok : HOk Tryd.prog hScanErrors1 := hok_eq mmScanErrors_ok hmScanErrors1_ok folScanErrors (lf := 100000) (k := 1000) (by kernel_rfl)
def hmScanErrors2 : List HE := hScanErrors1 :: hmScanErrors1
theorem hmScanErrors2_ok : ∀ x ∈ hmScanErrors2, HOk Tryd.prog x := hmemo_cons hScanErrors1_ok hmScanErrors1_ok
def hScanErrors2 : HE := ⟨26, [(eS [65,58,32,98])], [], [((.val (.tup [(.agg [(eI 1),(eS [65]),(eI 0),(eI 0)]),(eI 1),eB1])), [])]⟩
theorem hScanErrors2_ok : HOk Tryd.prog hScanErrors2 := hok_eq mmScanErrors_ok hmScanErrors2_ok folScanErrors (lf := 100000) (k := 1000) (by kernel_rfl)
def hmScanErrors3 : List HE := hScanErrors2 :: hmScanErrors2
theorem hmScanErrors3_ok : ∀ x ∈ hmScanErrors3, HOk Tryd.prog x := hmemo_cons hScanErrors2_ok hmScanErrors2_ok
def hScanErrors3 : HE := ⟨26, [(eS [58,32,98])], [], [((.val (.tup [(.agg [(eI 3),(eS [58]),(eI 0),(eI 0)]),(eI 1),eB1])), [])]⟩
theorem hScanErrors3_ok : HOk Tryd.prog hScanErrors3 := hok_eq mmScanErrors_ok hmScanErrors3_ok folScanErrors (lf := 100000) (k := 1000) (by kernel_rfl)
def hmScanErrors4 : List HE := hScanErrors3 :: hmScanErrors3
theorem hmScanErrors4_ok : ∀ x ∈ hmScanErrors4, HOk Tryd.prog x := hmemo_cons hScanErrors3_ok hmScanErrors3_ok
def hScanErrors4 : HE := ⟨11, [(eS [98])], [], [((.val eB1), [])]⟩
theorem hScanErrors4_ok : HOk Tryd.prog hScanErrors4 := hok_eq mmScanErrors_ok hmScanErrors4_ok folScanErrors (lf := 100000) (k := 1000) (by kernel_rfl)
def hmScanErrors5 : List HE := hScanErrors4 :: hmScanErrors4
theorem hmScanErrors5_ok : ∀ x ∈ hmScanErrors5, HOk Tryd.prog x := hmemo_cons hScanErrors4_ok hmScanErrors4_ok
def hScanErrors5 : HE := ⟨26, [(eS [98])], [], [((.val (.tup [(.agg [(eI 2),(eS [98]),(eI 0),(eI 0)]),(eI 1),eB1])), [])]⟩
theorem hScanErrors5_ok : HOk Tryd.prog hScanErrors5 := hok_eq mmScanErrors_ok hmScanErrors5_ok folScanErrors (lf := 100000) (k := 1000) (by kernel_rfl)
def hmScanErrors6 : List HE := hScanErrors5 :: hmScanErrors5
theorem hmScanErrors6_ok : ∀ x ∈ hmScanErrors6, HOk Tryd.prog x := hmemo_cons hScanErrors5_ok hmScanErrors5_ok
def bscanErrors1 : Blk := ⟨[(eI 1),(eS [65]),(eI 1),(eI 1),(eI 3),(eS [58]),(eI 1),(eI 2),(eI 2),(eS [98]),(eI 1),(eI 4)],27,[(2,12),(1,8),(0,4)],3,0,false,2,none⟩
def hScanErrors6 : HE := ⟨18, [(eS [65,58,32,98]),(eI 1)], [], [((.val (.tup [(.sl 0 2 0 3 none 4),(eI 0)])), [bscanErrors1])]⟩
theorem hScanErrors6_ok : HOk Tryd.prog hScanErrors6 := hok_eq mmScanErrors_ok hmScanErrors6_ok folScanErrors (lf := 100000) (k := 1000) (by kernel_rfl)
def hmScanErrors7 : List HE := hScanErrors6 :: hmScanErrors6
theorem hmScanErrors7_ok : ∀ x ∈ hmScanErrors7, HOk Tryd.prog x := hmemo_cons hScanErrors6_ok hmScanErrors6_ok
def hScanErrors7 : HE := ⟨11, [(eS [])], [], [((.val eB0), [])]⟩
theorem hScanErrors7_ok : HOk Tryd.prog hScanErrors7 := hok_eq mmScanErrors_ok hmScanErrors7_ok folScanErrors (lf := 100000) (k := 1000) (by kernel_rfl)
def hmScanErrors8 : List HE := hScanErrors7 :: hmScanErrors7
theorem hmScanErrors8_ok : ∀ x ∈ hmScanErrors8, HOk Tryd.prog x := hmemo_cons hScanErrors7_ok hmScanErrors7_ok
def hScanErrors8 : HE := ⟨18, [(eS []),(eI 1)], [], [((.val (.tup [(.lit (.slice none 0 0)),(eI 0)])), [])]⟩
theorem hScanErrors8_ok : HOk Tryd.prog hScanErrors8 := hok_eq mmScanErrors_ok hmScanErrors8_ok folScanErrors (lf := 100000) (k := 1000) (by kernel_rfl)
def hmScanErrors9 : List HE := hScanErrors8 :: hmScanErrors8
theorem hmScanErrors9_ok : ∀ x ∈ hmScanErrors9, HOk Tryd.prog x := hmemo_cons hScanErrors8_ok hmScanErrors8_ok
def hScanErrors9 : HE := ⟨11, [(eS [97,98,99,100,101,102,103,104,105])], [], [((.val eB0), [])]⟩
theorem hScanErrors9_ok : HOk Tryd.prog hScanErrors9 := hok_eq mmScanErrors_ok hmScanErrors9_ok folScanErrors (lf := 100000) (k := 1000) (by kernel_rfl)
def hmScanErrors10 : List HE := hScanErrors9 :: hmScanErrors9
theorem hmScanErrors10_ok : ∀ x ∈ hmScanErrors10, HOk Tryd.prog x := hmemo_cons hScanErrors9_ok hmScanErrors9_ok
def hScanErrors10 : HE := ⟨26, [(eS [97,98,99,100,101,102,103,104,105,32,58])], [], [((.val (.tup [(.agg [(eI 0),(eS []),(eI 0),(eI 0)]),(eI 0),eB0])), [])]⟩
theorem hScanErrors10_ok : HOk Tryd.prog hScanErrors10 := hok_eq mmScanErrors_ok hmScanErrors10_ok folScanErrors (lf := 100000) (k := 1000) (by kernel_rfl)
def hmScanErrors11 : List HE := hScanErrors10 :: hmScanErrors10
theorem hmScanErrors11_ok : ∀ x ∈ hmScanErrors11, HOk Tryd.prog x := hmemo_cons hScanErrors10_ok hmScanErrors10_ok
def tscanErrors2 : List Nat := [32,32,32,32,32,32,32,32,97,98,99,100,101,102,103,104,105,32,58]
def hScanErrors11 : HE := ⟨18, [(eT tscanErrors2),(eI 2)], [], [((.val (.tup [(.lit (.slice none 0 0)),(eI 9)])), [])]⟩
theorem hScanErrors11_ok : HOk Tryd.prog hScanErrors11 := hok_eq mmScanErrors_ok hmScanErrors11_ok folScanErrors (lf := 100000) (k := 1000) (by kernel_rfl)
def hmScanErrors12 : List HE := hScanErrors11 :: hmScanErrors11
theorem hmScanErrors12_ok : ∀ x ∈ hmScanErrors12, HOk Tryd.prog x := hmemo_cons hScanErrors11_ok hmScanErrors11_ok
def tscanErrors3 : List Nat := [10,32,32,32,32,32,32,32,32,97,98,99,100,101,102,103,104,105,32,58]
def hScanErrors12 : HE := ⟨7, [(eT tscanErrors3)], [], [((.val (.tup [(.lit (.slice none 0 0)),(eI 2),(eI 9),(eI 2)])), [])]⟩
theorem hScanErrors12_ok : HOk Tryd.prog hScanErrors12 := hok_eq mmScanErrors_ok hmScanErrors12_ok folScanErrors (lf := 100000) (k := 1000) (by kernel_rfl)
def hmScanErrors13 : List HE := hScanErrors12 :: hmScanErrors12
theorem hmScanErrors13_ok : ∀ x ∈ hmScanErrors13, HOk Tryd.prog x := hmemo_cons hScanErrors12_ok hmScanErrors12_ok
def hScanErrors13 : HE := ⟨11, [(eS [49])], [], [((.val eB0), [])]⟩
theorem hScanErrors13_ok : HOk Tryd.prog hScanErrors13 := hok_eq mmScanErrors_ok hmScanErrors13_ok folScanErrors (lf := 100000) (k := 1000) (by kernel_rfl)
def hmScanErrors14 : List HE := hScanErrors13 :: hmScanErrors13
theorem hmScanErrors14_ok : ∀ x ∈ hmScanErrors14, HOk Tryd.prog x := hmemo_cons hScanErrors13_ok hmScanErrors13_ok
def hScanErrors14 : HE := ⟨26, [(eS [49,32,58])], [], [((.val (.tup [(.agg [(eI 0),(eS []),(eI 0),(eI 0)]),(eI 0),eB0])), [])]⟩
theorem hScanErrors14_ok : HOk Tryd.prog hScanErrors14 := hok_eq mmScanErrors_ok hmScanErrors14_ok folScanErrors (lf := 100000) (k := 1000) (by kernel_rfl)
def hmScanErrors15 : List HE := hScanErrors14 :: hmScanErrors14
theorem hmScanErrors15_ok : ∀ x ∈ hmScanErrors15, HOk Tryd.prog x := hmemo_cons hScanErrors14_ok hmScanErrors14_ok
def hScanErrors15 : HE := ⟨18, [(eS [32,32,32,32,32,32,32,32,49,32,58]),(eI 2)], [], [((.val (.tup [(.lit (.slice none 0 0)),(eI 9)])), [])]⟩
theorem hScanErrors15_ok : HOk Tryd.prog hScanErrors15 := hok_eq mmScanErrors_ok hmScanErrors15_ok folScanErrors (lf := 100000) (k := 1000) (by kernel_rfl)
def hmScanErrors16 : List HE := hScanErrors15 :: hmScanErrors15
theorem hmScanErrors16_ok : ∀ x ∈ hmScanErrors16, HOk Tryd.prog x := hmemo_cons hScanErrors15_ok hmScanErrors15_ok
def hScanErrors16 : HE := ⟨7, [(eS [10,32,32,32,32,32,32,32,32,49,32,58])], [], [((.val (.tup [(.lit (.slice none 0 0)),(eI 2),(eI 9),(eI 2)])), [])]⟩
theorem hScanErrors16_ok : HOk Tryd.prog hScanErrors16 := hok_eq mmScanErrors_ok hmScanErrors16_ok folScanErrors (lf := 100000) (k := 1000) (by kernel_rfl)
def hmScanErrors17 : List HE := hScanErrors16 :: hmScanErrors16
theorem hmScanErrors17_ok : ∀ x ∈ hmScanErrors17, HOk Tryd.prog x := hmemo_cons hScanErrors16_ok hmScanErrors16_ok
def hScanErrors17 : HE := ⟨11, [(eS [48,97])], [], [((.val eB0), [])]⟩
theorem hScanErrors17_ok : HOk Tryd.prog hScanErrors17 := hok_eq mmScanErrors_ok hmScanErrors17_ok folScanErrors (lf := 100000) (k := 1000) (by kernel_rfl)
def hmScanErrors18 : List HE := hScanErrors17 :: hmScanErrors17
theorem hmScanErrors18_ok : ∀ x ∈ hmScanErrors18, HOk Tryd.prog x := hmemo_cons hScanErrors17_ok hmScanErrors17_ok
def hScanErrors18 : HE := ⟨26, [(eS [48,97,32,58])], [], [((.val (.tup [(.agg [(eI 0),(eS []),(eI 0),(eI 0)]),(eI 0),eB0])), [])]⟩
theorem hScanErrors18_ok : HOk Tryd.prog hScanErrors18 := hok_eq mmScanErrors_ok hmScanErrors18_ok folScanErrors (lf := 100000) (k := 1000) (by kernel_rfl)
def hmScanErrors19 : List HE := hScanErrors18 :: hmScanErrors18
theorem hmScanErrors19_ok : ∀ x ∈ hmScanErrors19, HOk Tryd.prog x := hmemo_cons hScanErrors18_ok hmScanErrors18_ok
def hScanErrors19 : HE := ⟨18, [(eS [32,32,32,32,32,32,32,32,48,97,32,58]),(eI 2)], [], [((.val (.tup [(.lit (.slice none 0 0)),(eI 9)])), [])]⟩
theorem hScanErrors19_ok : HOk Tryd.prog hScanErrors19 := hok_eq mmScanErrors_ok hmScanErrors19_ok folScanErrors (lf := 100000) (k := 1000) (by kernel_rfl)
def hmScanErrors20 : List HE := hScanErrors19 :: hmScanErrors19
theorem hmScanErrors20_ok : ∀ x ∈ hmScanErrors20, HOk Tryd.prog x := hmemo_cons hScanErrors19_ok hmScanErrors19_ok
def hScanErrors20 : HE := ⟨7, [(eS [10,32,32,32,32,32,32,32,32,48,97,32,58])], [], [((.val (.tup [(.lit (.slice none 0 0)),(eI 2),(eI 9),(eI 2)])), [])]⟩
theorem hScanErrors20_ok : HOk Tryd.prog hScanErrors20 := hok_eq mmScanErrors_ok hmScanErrors20_ok folScanErrors (lf := 100000) (k := 1000) (by kernel_rfl)
def hmScanErrors21 : List HE := hScanErrors20 :: hmScanErrors20
theorem hmScanErrors21_ok : ∀ x ∈ hmScanErrors21, HOk Tryd.prog x := hmemo_cons hScanErrors20_ok hmScanErrors20_ok
def hScanErrors21 : HE := ⟨11, [(eS [65,49,50,51,52,53,54,55,56])], [], [((.val eB0), [])]⟩
theorem hScanErrors21_ok : HOk Tryd.prog hScanErrors21 := hok_eq mmScanErrors_ok hmScanErrors21_ok folScanErrors (lf := 100000) (k := 1000) (by kernel_rfl)
def hmScanErrors22 : List HE := hScanErrors21 :: hmScanErrors21
theorem hmScanErrors22_ok : ∀ x ∈ hmScanErrors22, HOk Tryd.prog x := hmemo_cons hScanErrors21_ok hmScanErrors21_ok
def hScanErrors22 : HE := ⟨26, [(eS [65,49,50,51,52,53,54,55,56,32,58])], [], [((.val (.tup [(.agg [(eI 0),(eS []),(eI 0),(eI 0)]),(eI 0),eB0])), [])]⟩
theorem hScanErrors22_ok : HOk Tryd.prog hScanErrors22 := hok_eq mmScanErrors_ok hmScanErrors22_ok folScanErrors (lf := 100000) (k := 1000) (by kernel_rfl)
def hmScanErrors23 : List HE := hScanErrors22 :: hmScanErrors22
theorem hmScanErrors23_ok : ∀ x ∈ hmScanErrors23, HOk Tryd.prog x := hmemo_cons hScanErrors22_ok hmScanErrors22_ok
def hScanErrors23 : HE := ⟨18, [(eS [32,32,32,32,32,32,32,32,65,49,50,51,52,53,54,55,56,32,58]),(eI 2)], [], [((.val (.tup [(.lit (.slice none 0 0)),(eI 9)])), [])]⟩
theorem hScanErrors23_ok : HOk Tryd.prog hScanErrors23 := hok_eq mmScanErrors_ok hmScanErrors23_ok folScanErrors (lf := 100000) (k := 1000) (by kernel_rfl)
def hmScanErrors24 : List HE := hScanErrors23 :: hmScanErrors23
theorem hmScanErrors24_ok : ∀ x ∈ hmScanErrors24, HOk Tryd.prog x := hmemo_cons hScanErrors23_ok hmScanErrors23_ok
def tscanErrors4 : List Nat := [10,32,32,32,32,32,32,32,32,65,49,50,51,52,53,54,55,56,32,58]
def hScanErrors24 : HE := ⟨7, [(eT tscanErrors4)], [], [((.val (.tup [(.lit (.slice none 0 0)),(eI 2),(eI 9),(eI 2)])), [])]⟩
theorem hScanErrors24_ok : HOk Tryd.prog hScanErrors24 := hok_eq mmScanErrors_ok hmScanErrors24_ok folScanErrors (lf := 100000) (k := 1000) (by kernel_rfl)
def hmScanErrors25 : List HE := hScanErrors24 :: hmScanErrors24
theorem hmScanErrors25_ok : ∀ x ∈ hmScanErrors25, HOk Tryd.prog x := hmemo_cons hScanErrors24_ok hmScanErrors24_ok
def hScanErrors25 : HE := ⟨11, [(eS [97,98,99,100,101,102,103,104])], [], [((.val eB1), [])]⟩
theorem hScanErrors25_ok : HOk Tryd.prog hScanErrors25 := hok_eq mmScanErrors_ok hmScanErrors25_ok folScanErrors (lf := 100000) (k := 1000) (by kernel_rfl)
def hmScanErrors26 : List HE := hScanErrors25 :: hmScanErrors25
theorem hmScanErrors26_ok : ∀ x ∈ hmScanErrors26, HOk Tryd.prog x := hmemo_cons hScanErrors25_ok hmScanErrors25_ok
def hScanErrors26 : HE := ⟨11, [(eS [65,48])], [], [((.val eB1), [])]⟩
theorem hScanErrors26_ok : HOk Tryd.prog hScanErrors26 := hok_eq mmScanErrors_ok hmScanErrors26_ok folScanErrors (lf := 100000) (k := 1000) (by kernel_rfl)
def hmScanErrors27 : List HE := hScanErrors26 :: hmScanErrors26
theorem hmScanErrors27_ok : ∀ x ∈ hmScanErrors27, HOk Tryd.prog x := hmemo_cons hScanErrors26_ok hmScanErrors26_ok
def hScanErrors27 : HE := ⟨11, [(eS [97,45,98])], [], [((.val eB0), [])]⟩
theorem hScanErrors27_ok : HOk Tryd.prog hScanErrors27 := hok_eq mmScanErrors_ok hmScanErrors27_ok folScanErrors (lf := 100000) (k := 1000) (by kernel_rfl)
def hmScanErrors28 : List HE := hScanErrors27 :: hmScanErrors27
theorem hmScanErrors28_ok : ∀ x ∈ hmScanErrors28, HOk Tryd.prog x := hmemo_cons hScanErrors27_ok hmScanErrors27_ok
def bscanErrors2 : Blk := ⟨[(eI 1),(eS [65]),(eI 1),(eI 1),(eI 3),(eS [58]),(eI 1),(eI 2),(eI 2),(eS [98]),(eI 1),(eI 4),(eI 5),(eS []),(eI 1),(eI 5)],27,[(1,16),(0,12)],2,0,false,1,none⟩
def hScanErrors28 : HE := ⟨7, [(eS [65,58,32,98])], [], [((.val (.tup [(.sl 0 1 0 4 none 4),(eI 0),(eI 0),(eI 0)])), [bscanErrors2])]⟩
theorem hScanErrors28_ok : HOk Tryd.prog hScanErrors28 := hok_eq mmScanErrors_ok hmScanErrors28_ok folScanErrors (lf := 100000) (k := 1000) (by kernel_rfl)
def hmScanErrors29 : List HE := hScanErrors28 :: hmScanErrors28
theorem hmScanErrors29_ok : ∀ x ∈ hmScanErrors29, HOk Tryd.prog x := hmemo_cons hScanErrors28_ok hmScanErrors28_ok
def hScanErrors29 : HE := ⟨9, [], [], [((.val eB1), [])]⟩
theorem hScanErrors29_ok : HOk Tryd.prog hScanErrors29 := hok_eq mmScanErrors_ok hmScanErrors29_ok folScanErrors (lf := 100000) (k := 1000) (by kernel_rfl)
def hmScanErrors30 : List HE := hScanErrors29 :: hmScanErrors29
theorem hmScanErrors30_ok : ∀ x ∈ hmScanErrors30, HOk Tryd.prog x := hmemo_cons hScanErrors29_ok hmScanErrors29_ok
def tscanErrors5 : List Nat := [32,32,32,32,32,32,32,97,98,99,100,101,102,103,104,105,32,58]
def hScanErrors30 : HE := ⟨18, [(eT tscanErrors5),(eI 2)], [], [((.val (.tup [(.lit (.slice none 0 0)),(eI 8)])), [])]⟩
theorem hScanErrors30_ok : HOk Tryd.prog hScanErrors30 := hok_eq mmScanErrors_ok hmScanErrors30_ok folScanErrors (lf := 100000) (k := 1000) (by kernel_rfl)
def hmScanErrors31 : List HE := hScanErrors30 :: hmScanErrors30
theorem hmScanErrors31_ok : ∀ x ∈ hmScanErrors31, HOk Tryd.prog x := hmemo_cons hScanErrors30_ok hmScanErrors30_ok
def tscanErrors6 : List Nat := [10,32,32,32,32,32,32,32,97,98,99,100,101,102,103,104,105,32,58]
def hScanErrors31 : HE := ⟨7, [(eT tscanErrors6)], [], [((.val (.tup [(.lit (.slice none 0 0)),(eI 2),(eI 8),(eI 2)])), [])]⟩
theorem hScanErrors31_ok : HOk Tryd.prog hScanErrors31 := hok_eq mmScanErrors_ok hmScanErrors31_ok folScanErrors (lf := 100000) (k := 1000) (by kernel_rfl)
def hmScanErrors32 : List HE := hScanErrors31 :: hmScanErrors31
theorem hmScanErrors32_ok : ∀ x ∈ hmScanErrors32, HOk Tryd.prog x := hmemo_cons hScanErrors31_ok hmScanErrors31_ok
def hScanErrors32 : HE := ⟨18, [(eS [32,32,32,32,32,32,32,49,32,58]),(eI 2)], [], [((.val (.tup [(.lit (.slice none 0 0)),(eI 8)])), [])]⟩
theorem hScanErrors32_ok : HOk Tryd.prog hScanErrors32 := hok_eq mmScanErrors_ok hmScanErrors32_ok folScanErrors (lf := 100000) (k := 1000) (by kernel_rfl)
def hmScanErrors33 : List HE := hScanErrors32 :: hmScanErrors32
theorem hmScanErrors33_ok : ∀ x ∈ hmScanErrors33, HOk Tryd.prog x := hmemo_cons hScanErrors32_ok hmScanErrors32_ok
def hScanErrors33 : HE := ⟨7, [(eS [10,32,32,32,32,32,32,32,49,32,58])], [], [((.val (.tup [(.lit (.slice none 0 0)),(eI 2),(eI 8),(eI 2)])), [])]⟩
theorem hScanErrors33_ok : HOk Tryd.prog hScanErrors33 := hok_eq mmScanErrors_ok hmScanErrors33_ok folScanErrors (lf := 100000) (k := 1000) (by kernel_rfl)
def hmScanErrors34 : List HE := hScanErrors33 :: hmScanErrors33
theorem hmScanErrors34_ok : ∀ x ∈ hmScanErrors34, HOk Tryd.prog x := hmemo_cons hScanErrors33_ok hmScanErrors33_ok
def hScanErrors34 : HE := ⟨18, [(eS [32,32,32,32,32,32,32,48,97,32,58]),(eI 2)], [], [((.val (.tup [(.lit (.slice none 0 0)),(eI 8)])), [])]⟩
theorem hScanErrors34_ok : HOk Tryd.prog hScanErrors34 := hok_eq mmScanErrors_ok hmScanErrors34_ok folScanErrors (lf := 100000) (k := 1000) (by kernel_rfl)
def hmScanErrors35 : List HE := hScanErrors34 :: hmScanErrors34
theorem hmScanErrors35_ok : ∀ x ∈ hmScanErrors35, HOk Tryd.prog x := hmemo_cons hScanErrors34_ok hmScanErrors34_ok
def hScanErrors35 : HE := ⟨7, [(eS [10,32,32,32,32,32,32,32,48,97,32,58])], [], [((.val (.tup [(.lit (.slice none 0 0)),(eI 2),(eI 8),(eI 2)])), [])]⟩
theorem hScanErrors35_ok : HOk Tryd.prog hScanErrors35 := hok_eq mmScanErrors_ok hmScanErrors35_ok folScanErrors (lf := 100000) (k := 1000) (by kernel_rfl)
def hmScanErrors36 : List HE := hScanErrors35 :: hmScanErrors35
theorem hmScanErrors36_ok : ∀ x ∈ hmScanErrors36, HOk Tryd.prog x := hmemo_cons hScanErrors35_ok hmScanErrors35_ok
def hScanErrors36 : HE := ⟨18, [(eS [32,32,32,32,32,32,32,65,49,50,51,52,53,54,55,56,32,58]),(eI 2)], [], [((.val (.tup [(.lit (.slice none 0 0)),(eI 8)])), [])]⟩
theorem hScanErrors36_ok : HOk Tryd.prog hScanErrors36 := hok_eq mmScanErrors_ok hmScanErrors36_ok folScanErrors (lf := 100000) (k := 1000) (by kernel_rfl)
def hmScanErrors37 : List HE := hScanErrors36 :: hmScanErrors36
theorem hmScanErrors37_ok : ∀ x ∈ hmScanErrors37, HOk Tryd.prog x := hmemo_cons hScanErrors36_ok hmScanErrors36_ok
def hScanErrors37 : HE := ⟨7, [(eS [10,32,32,32,32,32,32,32,65,49,50,51,52,53,54,55,56,32,58])], [], [((.val (.tup [(.lit (.slice none 0 0)),(eI 2),(eI 8),(eI 2)])), [])]⟩
theorem hScanErrors37_ok : HOk Tryd.prog hScanErrors37 := hok_eq mmScanErrors_ok hmScanErrors37_ok folScanErrors (lf := 100000) (k := 1000) (by kernel_rfl)
def hmScanErrors38 : List HE := hScanErrors37 :: hmScanErrors37
theorem hmScanErrors38_ok : ∀ x ∈ hmScanErrors38, HOk Tryd.prog x := hmemo_cons hScanErrors37_ok hmScanErrors37_ok
def hScanErrors38 : HE := ⟨18, [(eS [32,32,32,32,32,32,97,98,99,100,101,102,103,104,105,32,58]),(eI 2)], [], [((.val (.tup [(.lit (.slice none 0 0)),(eI 7)])), [])]⟩
theorem hScanErrors38_ok : HOk Tryd.prog hScanErrors38 := hok_eq mmScanErrors_ok hmScanErrors38_ok folScanErrors (lf := 100000) (k := 1000) (by kernel_rfl)
def hmScanErrors39 : List HE := hScanErrors38 :: hmScanErrors38
theorem hmScanErrors39_ok : ∀ x ∈ hmScanErrors39, HOk Tryd.prog x := hmemo_cons hScanErrors38_ok hmScanErrors38_ok
def tscanErrors7 : List Nat := [10,32,32,32,32,32,32,97,98,99,100,101,102,103,104,105,32,58]
def hScanErrors39 : HE := ⟨7, [(eT tscanErrors7)], [], [((.val (.tup [(.lit (.slice none 0 0)),(eI 2),(eI 7),(eI 2)])), [])]⟩
theorem hScanErrors39_ok : HOk Tryd.prog hScanErrors39 := hok_eq mmScanErrors_ok hmScanErrors39_ok folScanErrors (lf := 100000) (k := 1000) (by kernel_rfl)
def hmScanErrors40 : List HE := hScanErrors39 :: hmScanErrors39
theorem hmScanErrors40_ok : ∀ x ∈ hmScanErrors40, HOk Tryd.prog x := hmemo_cons hScanErrors39_ok hmScanErrors39_ok
def hScanErrors40 : HE := ⟨18, [(eS [32,32,32,32,32,32,49,32,58]),(eI 2)], [], [((.val (.tup [(.lit (.slice none 0 0)),(eI 7)])), [])]⟩
theorem hScanErrors40_ok : HOk Tryd.prog hScanErrors40 := hok_eq mmScanErrors_ok hmScanErrors40_ok folScanErrors (lf := 100000) (k := 1000) (by kernel_rfl)
def hmScanErrors41 : List HE := hScanErrors40 :: hmScanErrors40
theorem hmScanErrors41_ok : ∀ x ∈ hmScanErrors41, HOk Tryd.prog x := hmemo_cons hScanErrors40_ok hmScanErrors40_ok
def hScanErrors41 : HE := ⟨7, [(eS [10,32,32,32,32,32,32,49,32,58])], [], [((.val (.tup [(.lit (.slice none 0 0)),(eI 2),(eI 7),(eI 2)])), [])]⟩
theorem hScanErrors41_ok : HOk Tryd.prog hScanErrors41 := hok_eq mmScanErrors_ok hmScanErrors41_ok folScanErrors (lf := 100000) (k := 1000) (by kernel_rfl)
def hmScanErrors42 : List HE := hScanErrors41 :: hmScanErrors41
theorem hmScanErrors42_ok : ∀ x ∈ hmScanErrors42, HOk Tryd.prog x := hmemo_cons hScanErrors41_ok hmScanErrors41_ok
def hScanErrors42 : HE := ⟨18, [(eS [32,32,32,32,32,32,48,97,32,58]),(eI 2)], [], [((.val (.tup [(.lit (.slice none 0 0)),(eI 7)])), [])]⟩
theorem hScanErrors42_ok : HOk Tryd.prog hScanErrors42 := hok_eq mmScanErrors_ok hmScanErrors42_ok folScanErrors (lf := 100000) (k := 1000) (by kernel_rfl)
def hmScanErrors43 : List HE := hScanErrors42 :: hmScanErrors42
theorem hmScanErrors43_ok : ∀ x ∈ hmScanErrors43, HOk Tryd.prog x := hmemo_cons hScanErrors42_ok hmScanErrors42_ok
def hScanErrors43 : HE := ⟨7, [(eS [10,32,32,32,32,32,32,48,97,32,58])], [], [((.val (.tup [(.lit (.slice none 0 0)),(eI 2),(eI 7),(eI 2)])), [])]⟩
theorem hScanErrors43_ok : HOk Tryd.prog hScanErrors43 := hok_eq mmScanErrors_ok hmScanErrors43_ok folScanErrors (lf := 100000) (k := 1000) (by kernel_rfl)
def hmScanErrors44 : List HE := hScanErrors43 :: hmScanErrors43
theorem hmScanErrors44_ok : ∀ x ∈ hmScanErrors44, HOk Tryd.prog x := hmemo_cons hScanErrors43_ok hmScanErrors43_ok
def hScanErrors44 : HE := ⟨18, [(eS [32,32,32,32,32,32,65,49,50,51,52,53,54,55,56,32,58]),(eI 2)], [], [((.val (.tup [(.lit (.slice none 0 0)),(eI 7)])), [])]⟩
theorem hScanErrors44_ok : HOk Tryd.prog hScanErrors44 := hok_eq mmScanErrors_ok hmScanErrors44_ok folScanErrors (lf := 100000) (k := 1000) (by kernel_rfl)
def hmScanErrors45 : List HE := hScanErrors44 :: hmScanErrors44
theorem hmScanErrors45_ok : ∀ x ∈ hmScanErrors45, HOk Tryd.prog x := hmemo_cons hScanErrors44_ok hmScanErrors44_ok
def hScanErrors45 : HE := ⟨7, [(eS [10,32,32,32,32,32,32,65,49,50,51,52,53,54,55,56,32,58])], [], [((.val (.tup [(.lit (.slice none 0 0)),(eI 2),(eI 7),(eI 2)])), [])]⟩
theorem hScanErrors45_ok : HOk Tryd.prog hScanErrors45 := hok_eq mmScanErrors_ok hmScanErrors45_ok folScanErrors (lf := 100000) (k := 1000) (by kernel_rfl)
def hmScanErrors46 : List HE := hScanErrors45 :: hmScanErrors45
theorem hmScanErrors46_ok : ∀ x ∈ hmScanErrors46, HOk Tryd.prog x := hmemo_cons hScanErrors45_ok hmScanErrors45_ok
def hScanErrors46 : HE := ⟨18, [(eS [32,32,32,32,32,97,98,99,100,101,102,103,104,105,32,58]),(eI 2)], [], [((.val (.tup [(.lit (.slice none 0 0)),(eI 6)])), [])]⟩
theorem hScanErrors46_ok : HOk Tryd.prog hScanErrors46 := hok_eq mmScanErrors_ok hmScanErrors46_ok folScanErrors (lf := 100000) (k := 1000) (by kernel_rfl)
def hmScanErrors47 : List HE := hScanErrors46 :: hmScanErrors46
theorem hmScanErrors47_ok : ∀ x ∈ hmScanErrors47, HOk Tryd.prog x := hmemo_cons hScanErrors46_ok hmScanErrors46_ok
def hScanErrors47 : HE := ⟨7, [(eS [10,32,32,32,32,32,97,98,99,100,101,102,103,104,105,32,58])], [], [((.val (.tup [(.lit (.slice none 0 0)),(eI 2),(eI 6),(eI 2)])), [])]⟩
theorem hScanErrors47_ok : HOk Tryd.prog hScanErrors47 := hok_eq mmScanErrors_ok hmScanErrors47_ok folScanErrors (lf := 100000) (k := 1000) (by kernel_rfl)
def hmScanErrors48 : List HE := hScanErrors47 :: hmScanErrors47
theorem hmScanErrors48_ok : ∀ x ∈ hmScanErrors48, HOk Tryd.prog x := hmemo_cons hScanErrors47_ok hmScanErrors47_ok
def hScanErrors48 : HE := ⟨18, [(eS [32,32,32,32,32,49,32,58]),(eI 2)], [], [((.val (.tup [(.lit (.slice none 0 0)),(eI 6)])), [])]⟩
theorem hScanErrors48_ok : HOk Tryd.prog hScanErrors48 := hok_eq mmScanErrors_ok hmScanErrors48_ok folScanErrors (lf := 100000) (k := 1000) (by kernel_rfl)
def hmScanErrors49 : List HE := hScanErrors48 :: hmScanErrors48
theorem hmScanErrors49_ok : ∀ x ∈ hmScanErrors49, HOk Tryd.prog x := hmemo_cons hScanErrors48_ok hmScanErrors48_ok
def hScanErrors49 : HE := ⟨7, [(eS [10,32,32,32,32,32,49,32,58])], [], [((.val (.tup [(.lit (.slice none 0 0)),(eI 2),(eI 6),(eI 2)])), [])]⟩
theorem hScanErrors49_ok : HOk Tryd.prog hScanErrors49 := hok_eq mmScanErrors_ok hmScanErrors49_ok folScanErrors (lf := 100000) (k := 1000) (by kernel_rfl)
def hmScanErrors50 : List HE := hScanErrors49 :: hmScanErrors49
theorem hmScanErrors50_ok : ∀ x ∈ hmScanErrors50, HOk Tryd.prog x := hmemo_cons hScanErrors49_ok hmScanErrors49_ok
def hScanErrors50 : HE := ⟨18, [(eS [32,32,32,32,32,48,97,32,58]),(eI 2)], [], [((.val (.tup [(.lit (.slice none 0 0)),(eI 6)])), [])]⟩
theorem hScanErrors50_ok : HOk Tryd.prog hScanErrors50 := hok_eq mmScanErrors_ok hmScanErrors50_ok folScanErrors (lf := 100000) (k := 1000) (by kernel_rfl)
def hmScanErrors51 : List HE := hScanErrors50 :: hmScanErrors50
theorem hmScanErrors51_ok : ∀ x ∈ hmScanErrors51, HOk Tryd.prog x := hmemo_cons hScanErrors50_ok hmScanErrors50_ok
def hScanErrors51 : HE := ⟨7, [(eS [10,32,32,32,32,32,48,97,32,58])], [], [((.val (.tup [(.lit (.slice none 0 0)),(eI 2),(eI 6),(eI 2)])), [])]⟩
theorem hScanErrors51_ok : HOk Tryd.prog hScanErrors51 := hok_eq mmScanErrors_ok hmScanErrors51_ok folScanErrors (lf := 100000) (k := 1000) (by kernel_rfl)
def hmScanErrors52 : List HE := hScanErrors51 :: hmScanErrors51
theorem hmScanErrors52_ok : ∀ x ∈ hmScanErrors52, HOk Tryd.prog x := hmemo_cons hScanErrors51_ok hmScanErrors51_ok
def hScanErrors52 : HE := ⟨18, [(eS [32,32,32,32,32,65,49,50,51,52,53,54,55,56,32,58]),(eI 2)], [], [((.val (.tup [(.lit (.slice none 0 0)),(eI 6)])), [])]⟩
theorem hScanErrors52_ok : HOk Tryd.prog hScanErrors52 := hok_eq mmScanErrors_ok hmScanErrors52_ok folScanErrors (lf := 100000) (k := 1000) (by kernel_rfl)
def hmScanErrors53 : List HE := hScanErrors52 :: hmScanErrors52
theorem hmScanErrors53_ok : ∀ x ∈ hmScanErrors53, HOk Tryd.prog x := hmemo_cons hScanErrors52_ok hmScanErrors52_ok
def hScanErrors53 : HE := ⟨7, [(eS [10,32,32,32,32,32,65,49,50,51,52,53,54,55,56,32,58])], [], [((.val (.tup [(.lit (.slice none 0 0)),(eI 2),(eI 6),(eI 2)])), [])]⟩
theorem hScanErrors53_ok : HOk Tryd.prog hScanErrors53 := hok_eq mmScanErrors_ok hmScanErrors53_ok folScanErrors (lf := 100000) (k := 1000) (by kernel_rfl)
def hmScanErrors54 : List HE := hScanErrors53 :: hmScanErrors53
theorem hmScanErrors54_ok : ∀ x ∈ hmScanErrors54, HOk Tryd.prog x := hmemo_cons hScanErrors53_ok hmScanErrors53_ok
def hScanErrors54 : HE := ⟨18, [(eS [32,32,32,32,97,98,99,100,101,102,103,104,105,32,58]),(eI 2)], [], [((.val (.tup [(.lit (.slice none 0 0)),(eI 5)])), [])]⟩
theorem hScanErrors54_ok : HOk Tryd.prog hScanErrors54 := hok_eq mmScanErrors_ok hmScanErrors54_ok folScanErrors (lf := 100000) (k := 1000) (by kernel_rfl)
def hmScanErrors55 : List HE := hScanErrors54 :: hmScanErrors54
theorem hmScanErrors55_ok : ∀ x ∈ hmScanErrors55, HOk Tryd.prog x := hmemo_cons hScanErrors54_ok hmScanErrors54_ok
def hScanErrors55 : HE := ⟨7, [(eS [10,32,32,32,32,97,98,99,100,101,102,103,104,105,32,58])], [], [((.val (.tup [(.lit (.slice none 0 0)),(eI 2),(eI 5),(eI 2)])), [])]⟩
theorem hScanErrors55_ok : HOk Tryd.prog hScanErrors55 := hok_eq mmScanErrors_ok hmScanErrors55_ok folScanErrors (lf := 100000) (k := 1000) (by kernel_rfl)
def hmScanErrors56 : List HE := hScanErrors55 :: hmScanErrors55
theorem hmScanErrors56_ok : ∀ x ∈ hmScanErrors56, HOk Tryd.prog x := hmemo_cons hScanErrors55_ok hmScanErrors55_ok
def hScanErrors56 : HE := ⟨18, [(eS [32,32,32,32,49,32,58]),(eI 2)], [], [((.val (.tup [(.lit (.slice none 0 0)),(eI 5)])), [])]⟩
theorem hScanErrors56_ok : HOk Tryd.prog hScanErrors56 := hok_eq mmScanErrors_ok hmScanErrors56_ok folScanErrors (lf := 100000) (k := 1000) (by kernel_rfl)
def hmScanErrors57 : List HE := hScanErrors56 :: hmScanErrors56
theorem hmScanErrors57_ok : ∀ x ∈ hmScanErrors57, HOk Tryd.prog x := hmemo_cons hScanErrors56_ok hmScanErrors56_ok
def hScanErrors57 : HE := ⟨7, [(eS [10,32,32,32,32,49,32,58])], [], [((.val (.tup [(.lit (.slice none 0 0)),(eI 2),(eI 5),(eI 2)])), [])]⟩
theorem hScanErrors57_ok : HOk Tryd.prog hScanErrors57 := hok_eq mmScanErrors_ok hmScanErrors57_ok folScanErrors (lf := 100000) (k := 1000) (by kernel_rfl)
def hmScanErrors58 : List HE := hScanErrors57 :: hmScanErrors57
theorem hmScanErrors58_ok : ∀ x ∈ hmScanErrors58, HOk Tryd.prog x := hmemo_cons hScanErrors57_ok hmScanErrors57_ok
def hScanErrors58 : HE := ⟨18, [(eS [32,32,32,32,48,97,32,58]),(eI 2)], [], [((.val (.tup [(.lit (.slice none 0 0)),(eI 5)])), [])]⟩
theorem hScanErrors58_ok : HOk Tryd.prog hScanErrors58 := hok_eq mmScanErrors_ok hmScanErrors58_ok folScanErrors (lf := 100000) (k := 1000) (by kernel_rfl)
def hmScanErrors59 : List HE := hScanErrors58 :: hmScanErrors58
theorem hmScanErrors59_ok : ∀ x ∈ hmScanErrors59, HOk Tryd.prog x := hmemo_cons hScanErrors58_ok hmScanErrors58_ok
def hScanErrors59 : HE := ⟨7, [(eS [10,32,32,32,32,48,97,32,58])], [], [((.val (.tup [(.lit (.slice none 0 0)),(eI 2),(eI 5),(eI 2)])), [])]⟩
theorem hScanErrors59_ok : HOk Tryd.prog hScanErrors59 := hok_eq mmScanErrors_ok hmScanErrors59_ok folScanErrors (lf := 100000) (k := 1000) (by kernel_rfl)
def hmScanErrors60 : List HE := hScanErrors59 :: hmScanErrors59
theorem hmScanErrors60_ok : ∀ x ∈ hmScanErrors60, HOk Tryd.prog x := hmemo_cons hScanErrors59_ok hmScanErrors59_ok
def hScanErrors60 : HE := ⟨18, [(eS [32,32,32,32,65,49,50,51,52,53,54,55,56,32,58]),(eI 2)], [], [((.val (.tup [(.lit (.slice none 0 0)),(eI 5)])), [])]⟩
theorem hScanErrors60_ok : HOk Tryd.prog hScanErrors60 := hok_eq mmScanErrors_ok hmScanErrors60_ok folScanErrors (lf := 100000) (k := 1000) (by kernel_rfl)
def hmScanErrors61 : List HE := hScanErrors60 :: hmScanErrors60
theorem hmScanErrors61_ok : ∀ x ∈ hmScanErrors61, HOk Tryd.prog x := hmemo_cons hScanErrors60_ok hmScanErrors60_ok
def hScanErrors61 : HE := ⟨7, [(eS [10,32,32,32,32,65,49,50,51,52,53,54,55,56,32,58])], [], [((.val (.tup [(.lit (.slice none 0 0)),(eI 2),(eI 5),(eI 2)])), [])]⟩
theorem hScanErrors61_ok : HOk Tryd.prog hScanErrors61 := hok_eq mmScanErrors_ok hmScanErrors61_ok folScanErrors (lf := 100000) (k := 1000) (by kernel_rfl)
def hmScanErrors62 : List HE := hScanErrors61 :: hmScanErrors61
theorem hmScanErrors62_ok : ∀ x ∈ hmScanErrors62, HOk Tryd.prog x := hmemo_cons hScanErrors61_ok hmScanErrors61_ok
def hScanErrors62 : HE := ⟨18, [(eS [32,32,32,97,98,99,100,101,102,103,104,105,32,58]),(eI 2)], [], [((.val (.tup [(.lit (.slice none 0 0)),(eI 4)])), [])]⟩
theorem hScanErrors62_ok : HOk Tryd.prog hScanErrors62 := hok_eq mmScanErrors_ok hmScanErrors62_ok folScanErrors (lf := 100000) (k := 1000) (by kernel_rfl)
def hmScanErrors63 : List HE := hScanErrors62 :: hmScanErrors62
theorem hmScanErrors63_ok : ∀ x ∈ hmScanErrors63, HOk Tryd.prog x := hmemo_cons hScanErrors62_ok hmScanErrors62_ok
def hScanErrors63 : HE := ⟨7, [(eS [10,32,32,32,97,98,99,100,101,102,103,104,105,32,58])], [], [((.val (.tup [(.lit (.slice none 0 0)),(eI 2),(eI 4),(eI 2)])), [])]⟩
theorem hScanErrors63_ok : HOk Tryd.prog hScanErrors63 := hok_eq mmScanErrors_ok hmScanErrors63_ok folScanErrors (lf := 100000) (k := 1000) (by kernel_rfl)
def hmScanErrors64 : List HE := hScanErrors63 :: hmScanErrors63
theorem hmScanErrors64_ok : ∀ x ∈ hmScanErrors64, HOk Tryd.prog x := hmemo_cons hScanErrors63_ok hmScanErrors63_ok
def hScanErrors64 : HE := ⟨18, [(eS [32,32,32,49,32,58]),(eI 2)], [], [((.val (.tup [(.lit (.slice none 0 0)),(eI 4)])), [])]⟩
theorem hScanErrors64_ok : HOk Tryd.prog hScanErrors64 := hok_eq mmScanErrors_ok hmScanErrors64_ok folScanErrors (lf := 100000) (k := 1000) (by kernel_rfl)
def hmScanErrors65 : List HE := hScanErrors64 :: hmScanErrors64
theorem hmScanErrors65_ok : ∀ x ∈ hmScanErrors65, HOk Tryd.prog x := hmemo_cons hScanErrors64_ok hmScanErrors64_ok
def hScanErrors65 : HE := ⟨7, [(eS [10,32,32,32,49,32,58])], [], [((.val (.tup [(.lit (.slice none 0 0)),(eI 2),(eI 4),(eI 2)])), [])]⟩
theorem hScanErrors65_ok : HOk Tryd.prog hScanErrors65 := hok_eq mmScanErrors_ok hmScanErrors65_ok folScanErrors (lf := 100000) (k := 1000) (by kernel_rfl)
def hmScanErrors66 : List HE := hScanErrors65 :: hmScanErrors65
theorem hmScanErrors66_ok : ∀ x ∈ hmScanErrors66, HOk Tryd.prog x := hmemo_cons hScanErrors65_ok hmScanErrors65_ok
def hScanErrors66 : HE := ⟨18, [(eS [32,32,32,48,97,32,58]),(eI 2)], [], [((.val (.tup [(.lit (.slice none 0 0)),(eI 4)])), [])]⟩
theorem hScanErrors66_ok : HOk Tryd.prog hScanErrors66 := hok_eq mmScanErrors_ok hmScanErrors66_ok folScanErrors (lf := 100000) (k := 1000) (by kernel_rfl)
def hmScanErrors67 : List HE := hScanErrors66 :: hmScanErrors66
theorem hmScanErrors67_ok : ∀ x ∈ hmScanErrors67, HOk Tryd.prog x := hmemo_cons hScanErrors66_ok hmScanErrors66_ok
def hScanErrors67 : HE := ⟨7, [(eS [10,32,32,32,48,97,32,58])], [], [((.val (.tup [(.lit (.slice none 0 0)),(eI 2),(eI 4),(eI 2)])), [])]⟩
theorem hScanErrors67_ok : HOk Tryd.prog hScanErrors67 := hok_eq mmScanErrors_ok hmScanErrors67_ok folScanErrors (lf := 100000) (k := 1000) (by kernel_rfl)
def hmScanErrors68 : List HE := hScanErrors67 :: hmScanErrors67
theorem hmScanErrors68_ok : ∀ x ∈ hmScanErrors68, HOk Tryd.prog x := hmemo_cons hScanErrors67_ok hmScanErrors67_ok
def hScanErrors68 : HE := ⟨18, [(eS [32,32,32,65,49,50,51,52,53,54,55,56,32,58]),(eI 2)], [], [((.val (.tup [(.lit (.slice none 0 0)),(eI 4)])), [])]⟩
theorem hScanErrors68_ok : HOk Tryd.prog hScanErrors68 := hok_eq mmScanErrors_ok hmScanErrors68_ok folScanErrors (lf := 100000) (k := 1000) (by kernel_rfl)
def hmScanErrors69 : List HE := hScanErrors68 :: hmScanErrors68
theorem hmScanErrors69_ok : ∀ x ∈ hmScanErrors69, HOk Tryd.prog x := hmemo_cons hScanErrors68_ok hmScanErrors68_ok
def hScanErrors69 : HE := ⟨7, [(eS [10,32,32,32,65,49,50,51,52,53,54,55,56,32,58])], [], [((.val (.tup [(.lit (.slice none 0 0)),(eI 2),(eI 4),(eI 2)])), [])]⟩
theorem hScanErrors69_ok : HOk Tryd.prog hScanErrors69 := hok_eq mmScanErrors_ok hmScanErrors69_ok folScanErrors (lf := 100000) (k := 1000) (by kernel_rfl)
def hmScanErrors70 : List HE := hScanErrors69 :: hmScanErrors69
theorem hmScanErrors70_ok : ∀ x ∈ hmScanErrors70, HOk Tryd.prog x := hmemo_cons hScanErrors69_ok hmScanErrors69_ok
def hScanErrors70 : HE := ⟨18, [(eS [32,32,97,98,99,100,101,102,103,104,105,32,58]),(eI 2)], [], [((.val (.tup [(.lit (.slice none 0 0)),(eI 3)])), [])]⟩
theorem hScanErrors70_ok : HOk Tryd.prog hScanErrors70 := hok_eq mmScanErrors_ok hmScanErrors70_ok folScanErrors (lf := 100000) (k := 1000) (by kernel_rfl)
def hmScanErrors71 : List HE := hScanErrors70 :: hmScanErrors70
theorem hmScanErrors71_ok : ∀ x ∈ hmScanErrors71, HOk Tryd.prog x := hmemo_cons hScanErrors70_ok hmScanErrors70_ok
def hScanErrors71 : HE := ⟨7, [(eS [10,32,32,97,98,99,100,101,102,103,104,105,32,58])], [], [((.val (.tup [(.lit (.slice none 0 0)),(eI 2),(eI 3),(eI 2)])), [])]⟩
theorem hScanErrors71_ok : HOk Tryd.prog hScanErrors71 := hok_eq mmScanErrors_ok hmScanErrors71_ok folScanErrors (lf := 100000) (k := 1000) (by kernel_rfl)
def hmScanErrors72 : List HE := hScanErrors71 :: hmScanErrors71
theorem hmScanErrors72_ok : ∀ x ∈ hmScanErrors72, HOk Tryd.prog x := hmemo_cons hScanErrors71_ok hmScanErrors71_ok
def hScanErrors72 : HE := ⟨18, [(eS [32,32,49,32,58]),(eI 2)], [], [((.val (.tup [(.lit (.slice none 0 0)),(eI 3)])), [])]⟩
theorem hScanErrors72_ok : HOk Tryd.prog hScanErrors72 := hok_eq mmScanErrors_ok hmScanErrors72_ok folScanErrors (lf := 100000) (k := 1000) (by kernel_rfl)
def hmScanErrors73 : List HE := hScanErrors72 :: hmScanErrors72
theorem hmScanErrors73_ok : ∀ x ∈ hmScanErrors73, HOk Tryd.prog x := hmemo_cons hScanErrors72_ok hmScanErrors72_ok
def hScanErrors73 : HE := ⟨7, [(eS [10,32,32,49,32,58])], [], [((.val (.tup [(.lit (.slice none 0 0)),(eI 2),(eI 3),(eI 2)])), [])]⟩
theorem hScanErrors73_ok : HOk Tryd.prog hScanErrors73 := hok_eq mmScanErrors_ok hmScanErrors73_ok folScanErrors (lf := 100000) (k := 1000) (by kernel_rfl)
def hmScanErrors74 : List HE := hScanErrors73 :: hmScanErrors73
theorem hmScanErrors74_ok : ∀ x ∈ hmScanErrors74, HOk Tryd.prog x := hmemo_cons hScanErrors73_ok hmScanErrors73_ok
def hScanErrors74 : HE := ⟨18, [(eS [32,32,48,97,32,58]),(eI 2)], [], [((.val (.tup [(.lit (.slice none 0 0)),(eI 3)])), [])]⟩
theorem hScanErrors74_ok : HOk Tryd.prog hScanErrors74 := hok_eq mmScanErrors_ok hmScanErrors74_ok folScanErrors (lf := 100000) (k := 1000) (by kernel_rfl)
def hmScanErrors75 : List HE := hScanErrors74 :: hmScanErrors74
theorem hmScanErrors75_ok : ∀ x ∈ hmScanErrors75, HOk Tryd.prog x := hmemo_cons hScanErrors74_ok hmScanErrors74_ok
def hScanErrors75 : HE := ⟨7, [(eS [10,32,32,48,97,32,58])], [], [((.val (.tup [(.lit (.slice none 0 0)),(eI 2),(eI 3),(eI 2)])), [])]⟩
theorem hScanErrors75_ok : HOk Tryd.prog hScanErrors75 := hok_eq mmScanErrors_ok hmScanErrors75_ok folScanErrors (lf := 100000) (k := 1000) (by kernel_rfl)
def hmScanErrors76 : List HE := hScanErrors75 :: hmScanErrors75
theorem hmScanErrors76_ok : ∀ x ∈ hmScanErrors76, HOk Tryd.prog x := hmemo_cons hScanErrors75_ok hmScanErrors75_ok
def hScanErrors76 : HE := ⟨18, [(eS [32,32,65,49,50,51,52,53,54,55,56,32,58]),(eI 2)], [], [((.val (.tup [(.lit (.slice none 0 0)),(eI 3)])), [])]⟩
theorem hScanErrors76_ok : HOk Tryd.prog hScanErrors76 := hok_eq mmScanErrors_ok hmScanErrors76_ok folScanErrors (lf := 100000) (k := 1000) (by kernel_rfl)
def hmScanErrors77 : List HE := hScanErrors76 :: hmScanErrors76
theorem hmScanErrors77_ok : ∀ x ∈ hmScanErrors77, HOk Tryd.prog x := hmemo_cons hScanErrors76_ok hmScanErrors76_ok
def hScanErrors77 : HE := ⟨7, [(eS [10,32,32,65,49,50,51,52,53,54,55,56,32,58])], [], [((.val (.tup [(.lit (.slice none 0 0)),(eI 2),(eI 3),(eI 2)])), [])]⟩
theorem hScanErrors77_ok : HOk Tryd.prog hScanErrors77 := hok_eq mmScanErrors_ok hmScanErrors77_ok folScanErrors (lf := 100000) (k := 1000) (by kernel_rfl)
def hmScanErrors78 : List HE := hScanErrors77 :: hmScanErrors77
theorem hmScanErrors78_ok : ∀ x ∈ hmScanErrors78, HOk Tryd.prog x := hmemo_cons hScanErrors77_ok hmScanErrors77_ok
def hScanErrors78 : HE := ⟨18, [(eS [32,97,98,99,100,101,102,103,104,105,32,58]),(eI 2)], [], [((.val (.tup [(.lit (.slice none 0 0)),(eI 2)])), [])]⟩
theorem hScanErrors78_ok : HOk Tryd.prog hScanErrors78 := hok_eq mmScanErrors_ok hmScanErrors78_ok folScanErrors (lf := 100000) (k := 1000) (by kernel_rfl)
def hmScanErrors79 : List HE := hScanErrors78 :: hmScanErrors78
theorem hmScanErrors79_ok : ∀ x ∈ hmScanErrors79, HOk Tryd.prog x := hmemo_cons hScanErrors78_ok hmScanErrors78_ok
def hScanErrors79 : HE := ⟨7, [(eS [10,32,97,98,99,100,101,102,103,104,105,32,58])], [], [((.val (.tup [(.lit (.slice none 0 0)),(eI 2),(eI 2),(eI 2)])), [])]⟩
theorem hScanErrors79_ok : HOk Tryd.prog hScanErrors79 := hok_eq mmScanErrors_ok hmScanErrors79_ok folScanErrors (lf := 100000) (k := 1000) (by kernel_rfl)
def hmScanErrors80 : List HE := hScanErrors79 :: hmScanErrors79
theorem hmScanErrors80_ok : ∀ x ∈ hmScanErrors80, HOk Tryd.prog x := hmemo_cons hScanErrors79_ok hmScanErrors79_ok
def hScanErrors80 : HE := ⟨18, [(eS [32,49,32,58]),(eI 2)], [], [((.val (.tup [(.lit (.slice none 0 0)),(eI 2)])), [])]⟩
theorem hScanErrors80_ok : HOk Tryd.prog hScanErrors80 := hok_eq mmScanErrors_ok hmScanErrors80_ok folScanErrors (lf := 100000) (k := 1000) (by kernel_rfl)
def hmScanErrors81 : List HE := hScanErrors80 :: hmScanErrors80
theorem hmScanErrors81_ok : ∀ x ∈ hmScanErrors81, HOk Tryd.prog x := hmemo_cons hScanErrors80_ok hmScanErrors80_ok
def hScanErrors81 : HE := ⟨7, [(eS [10,32,49,32,58])], [], [((.val (.tup [(.lit (.slice none 0 0)),(eI 2),(eI 2),(eI 2)])), [])]⟩
theorem hScanErrors81_ok : HOk Tryd.prog hScanErrors81 := hok_eq mmScanErrors_ok hmScanErrors81_ok folScanErrors (lf := 100000) (k := 1000) (by kernel_rfl)
def hmScanErrors82 : List HE := hScanErrors81 :: hmScanErrors81
theorem hmScanErrors82_ok : ∀ x ∈ hmScanErrors82, HOk Tryd.prog x := hmemo_cons hScanErrors81_ok hmScanErrors81_ok
def hScanErrors82 : HE := ⟨18, [(eS [32,48,97,32,58]),(eI 2)], [], [((.val (.tup [(.lit (.slice none 0 0)),(eI 2)])), [])]⟩
theorem hScanErrors82_ok : HOk Tryd.prog hScanErrors82 := hok_eq mmScanErrors_ok hmScanErrors82_ok folScanErrors (lf := 100000) (k := 1000) (by kernel_rfl)
def hmScanErrors83 : List HE := hScanErrors82 :: hmScanErrors82
theorem hmScanErrors83_ok : ∀ x ∈ hmScanErrors83, HOk Tryd.prog x := hmemo_cons hScanErrors82_ok hmScanErrors82_ok
def hScanErrors83 : HE := ⟨7, [(eS [10,32,48,97,32,58])], [], [((.val (.tup [(.lit (.slice none 0 0)),(eI 2),(eI 2),(eI 2)])), [])]⟩
theorem hScanErrors83_ok : HOk Tryd.prog hScanErrors83 := hok_eq mmScanErrors_ok hmScanErrors83_ok folScanErrors (lf := 100000) (k := 1000) (by kernel_rfl)
def hmScanErrors84 : List HE := hScanErrors83 :: hmScanErrors83
theorem hmScanErrors84_ok : ∀ x ∈ hmScanErrors84, HOk Tryd.prog x := hmemo_cons hScanErrors83_ok hmScanErrors83_ok
def hScanErrors84 : HE := ⟨18, [(eS [32,65,49,50,51,52,53,54,55,56,32,58]),(eI 2)], [], [((.val (.tup [(.lit (.slice none 0 0)),(eI 2)])), [])]⟩
theorem hScanErrors84_ok : HOk Tryd.prog hScanErrors84 := hok_eq mmScanErrors_ok hmScanErrors84_ok folScanErrors (lf := 100000) (k := 1000) (by kernel_rfl)
def hmScanErrors85 : List HE := hScanErrors84 :: hmScanErrors84
theorem hmScanErrors85_ok : ∀ x ∈ hmScanErrors85, HOk Tryd.prog x := hmemo_cons hScanErrors84_ok hmScanErrors84_ok
def hScanErrors85 : HE := ⟨7, [(eS [10,32,65,49,50,51,52,53,54,55,56,32,58])], [], [((.val (.tup [(.lit (.slice none 0 0)),(eI 2),(eI 2),(eI 2)])), [])]⟩
theorem hScanErrors85_ok : HOk Tryd.prog hScanErrors85 := hok_eq mmScanErrors_ok hmScanErrors85_ok folScanErrors (lf := 100000) (k := 1000) (by kernel_rfl)
def hmScanErrors86 : List HE := hScanErrors85 :: hmScanErrors85
theorem hmScanErrors86_ok : ∀ x ∈ hmScanErrors86, HOk Tryd.prog x := hmemo_cons hScanErrors85_ok hmScanErrors85_ok
def hScanErrors86 : HE := ⟨18, [(eS [97,98,99,100,101,102,103,104,105,32,58]),(eI 2)], [], [((.val (.tup [(.lit (.slice none 0 0)),(eI 1)])), [])]⟩
theorem hScanErrors86_ok : HOk Tryd.prog hScanErrors86 := hok_eq mmScanErrors_ok hmScanErrors86_ok folScanErrors (lf := 100000) (k := 1000) (by kernel_rfl)
def hmScanErrors87 : List HE := hScanErrors86 :: hmScanErrors86
theorem hmScanErrors87_ok : ∀ x ∈ hmScanErrors87, HOk Tryd.prog x := hmemo_cons hScanErrors86_ok hmScanErrors86_ok
def hScanErrors87 : HE := ⟨7, [(eS [10,97,98,99,100,101,102,103,104,105,32,58])], [], [((.val (.tup [(.lit (.slice none 0 0)),(eI 2),(eI 1),(eI 2)])), [])]⟩
theorem hScanErrors87_ok : HOk Tryd.prog hScanErrors87 := hok_eq mmScanErrors_ok hmScanErrors87_ok folScanErrors (lf := 100000) (k := 1000) (by kernel_rfl)
def hmScanErrors88 : List HE := hScanErrors87 :: hmScanErrors87
theorem hmScanErrors88_ok : ∀ x ∈ hmScanErrors88, HOk Tryd.prog x := hmemo_cons hScanErrors87_ok hmScanErrors87_ok
def hScanErrors88 : HE := ⟨18, [(eS [49,32,58]),(eI 2)], [], [((.val (.tup [(.lit (.slice none 0 0)),(eI 1)])), [])]⟩
theorem hScanErrors88_ok : HOk Tryd.prog hScanErrors88 := hok_eq mmScanErrors_ok hmScanErrors88_ok folScanErrors (lf := 100000) (k := 1000) (by kernel_rfl)
def hmScanErrors89 : List HE := hScanErrors88 :: hmScanErrors88
theorem hmScanErrors89_ok : ∀ x ∈ hmScanErrors89, HOk Tryd.prog x := hmemo_cons hScanErrors88_ok hmScanErrors88_ok
def hScanErrors89 : HE := ⟨7, [(eS [10,49,32,58])], [], [((.val (.tup [(.lit (.slice none 0 0)),(eI 2),(eI 1),(eI 2)])), [])]⟩
theorem hScanErrors89_ok : HOk Tryd.prog hScanErrors89 := hok_eq mmScanErrors_ok hmScanErrors89_ok folScanErrors (lf := 100000) (k := 1000) (by kernel_rfl)
def hmScanErrors90 : List HE := hScanErrors89 :: hmScanErrors89
theorem hmScanErrors90_ok : ∀ x ∈ hmScanErrors90, HOk Tryd.prog x := hmemo_cons hScanErrors89_ok hmScanErrors89_ok
def hScanErrors90 : HE := ⟨18, [(eS [48,97,32,58]),(eI 2)], [], [((.val (.tup [(.lit (.slice none 0 0)),(eI 1)])), [])]⟩
theorem hScanErrors90_ok : HOk Tryd.prog hScanErrors90 := hok_eq mmScanErrors_ok hmScanErrors90_ok folScanErrors (lf := 100000) (k := 1000) (by kernel_rfl)
def hmScanErrors91 : List HE := hScanErrors90 :: hmScanErrors90
theorem hmScanErrors91_ok : ∀ x ∈ hmScanErrors91, HOk Tryd.prog x := hmemo_cons hScanErrors90_ok hmScanErrors90_ok
def hScanErrors91 : HE := ⟨7, [(eS [10,48,97,32,58])], [], [((.val (.tup [(.lit (.slice none 0 0)),(eI 2),(eI 1),(eI 2)])), [])]⟩
theorem hScanErrors91_ok : HOk Tryd.prog hScanErrors91 := hok_eq mmScanErrors_ok hmScanErrors91_ok folScanErrors (lf := 100000) (k := 1000) (by kernel_rfl)
def hmScanErrors92 : List HE := hScanErrors91 :: hmScanErrors91
theorem hmScanErrors92_ok : ∀ x ∈ hmScanErrors92, HOk Tryd.prog x := hmemo_cons hScanErrors91_ok hmScanErrors91_ok
def hScanErrors92 : HE := ⟨18, [(eS [65,49,50,51,52,53,54,55,56,32,58]),(eI 2)], [], [((.val (.tup [(.lit (.slice none 0 0)),(eI 1)])), [])]⟩
theorem hScanErrors92_ok : HOk Tryd.prog hScanErrors92 := hok_eq mmScanErrors_ok hmScanErrors92_ok folScanErrors (lf := 100000) (k := 1000) (by kernel_rfl)
def hmScanErrors93 : List HE := hScanErrors92 :: hmScanErrors92
theorem hmScanErrors93_ok : ∀ x ∈ hmScanErrors93, HOk Tryd.prog x := hmemo_cons hScanErrors92_ok hmScanErrors92_ok
def hScanErrors93 : HE := ⟨7, [(eS [10,65,49,50,51,52,53,54,55,56,32,58])], [], [((.val (.tup [(.lit (.slice none 0 0)),(eI 2),(eI 1),(eI 2)])), [])]⟩
theorem hScanErrors93_ok : HOk Tryd.prog hScanErrors93 := hok_eq mmScanErrors_ok hmScanErrors93_ok folScanErrors (lf := 100000) (k := 1000) (by kernel_rfl)
def hmScanErrors94 : List HE := hScanErrors93 :: hmScanErrors93
theorem hmScanErrors94_ok : ∀ x ∈ hmScanErrors94, HOk Tryd.prog x := hmemo_cons hScanErrors93_ok hmScanErrors93_ok
end Go.Proofs.YtcmffeaoailoiaaDoor.E
