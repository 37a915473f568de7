/- Calls that DeriveErrors makes, each carried out once over the memory that it is given. -/
import Derived.Test.YtdahingnadnonaaDoorEWithin
import Derived.Test.YtdahingnadnonaaDoorESplit
import Derived.Test.YtdahingnadnonaaDoorProg
import Derived.KernelRfl
namespace Go.Proofs.YtdahingnadnonaaDoor.E
open Go Go.EV Go.RowKit Go.Proofs
set_option linter.unusedVariables false
set_option maxRecDepth 100000
abbrev eI (n : Nat) : AV := .lit (.int .i64 (Int.ofNat n))
abbrev eU (n : Nat) : AV := .lit (.int .u8 (Int.ofNat n))
abbrev eS (l : List Nat) : AV := .lit (.string (sb l))
abbrev eT (l : List Nat) : AV := .lit (.string (sb l))
abbrev eB1 : AV := .lit (.bool true)
abbrev eB0 : AV := .lit (.bool false)
def mmDeriveErrors : Memo := [(11, [.any .i64, .lit (.int .i64 (Int.ofNat 50))], upto 50)]
theorem mmDeriveErrors_ok : ∀ x ∈ mmDeriveErrors, Contract Tryd.prog x := memo_cons (within_c 50 (by omega)) (memo_nil _)
theorem folDeriveErrors : Tryd.prog.follows .mixedOrders = true := by kernel_rfl
def hmDeriveErrors0 : List HE := []
theorem hmDeriveErrors0_ok : ∀ x ∈ hmDeriveErrors0, HOk Tryd.prog x := hmemo_nil _
def hDeriveErrors0 : HE := ⟨47, [(eU 83)], [], [((.val eB1), [])]⟩
theorem hDeriveErrors0_ok : HOk Tryd.prog hDeriveErrors0 := hok_eq mmDeriveErrors_ok hmDeriveErrors0_ok folDeriveErrors (lf := 100000) (k := 1000) (by kernel_rfl)
def hmDeriveErrors1 : List HE := hDeriveErrors0 :: hmDeriveErrors0
theorem hmDeriveErrors1_ok : ∀ x ∈ hmDeriveErrors1, HOk Tryd.prog x := hmemo_cons hDeriveErrors0_ok hmDeriveErrors0_ok
def hDeriveErrors1 : HE := ⟨47, [(eU 58)], [], [((.val eB0), [])]⟩
theorem hDeriveErrors1_ok : HOk Tryd.prog hDeriveErrors1 := hok_eq mmDeriveErrors_ok hmDeriveErrors1_ok folDeriveErrors (lf := 100000) (k := 1000) (by kernel_rfl)
def hmDeriveErrors2 : List HE := hDeriveErrors1 :: hmDeriveErrors1
theorem hmDeriveErrors2_ok : ∀ x ∈ hmDeriveErrors2, HOk Tryd.prog x := hmemo_cons hDeriveErrors1_ok hmDeriveErrors1_ok
def hDeriveErrors2 : HE := ⟨48, [(eU 58)], [], [((.val eB0), [])]⟩
theorem hDeriveErrors2_ok : HOk Tryd.prog hDeriveErrors2 := hok_eq mmDeriveErrors_ok hmDeriveErrors2_ok folDeriveErrors (lf := 100000) (k := 1000) (by kernel_rfl)
def hmDeriveErrors3 : List HE := hDeriveErrors2 :: hmDeriveErrors2
theorem hmDeriveErrors3_ok : ∀ x ∈ hmDeriveErrors3, HOk Tryd.prog x := hmemo_cons hDeriveErrors2_ok hmDeriveErrors2_ok
def hDeriveErrors3 : HE := ⟨49, [(eS [83])], [], [((.val eB1), [])]⟩
theorem hDeriveErrors3_ok : HOk Tryd.prog hDeriveErrors3 := hok_eq mmDeriveErrors_ok hmDeriveErrors3_ok folDeriveErrors (lf := 100000) (k := 1000) (by kernel_rfl)
def hmDeriveErrors4 : List HE := hDeriveErrors3 :: hmDeriveErrors3
theorem hmDeriveErrors4_ok : ∀ x ∈ hmDeriveErrors4, HOk Tryd.prog x := hmemo_cons hDeriveErrors3_ok hmDeriveErrors3_ok
def hDeriveErrors4 : HE := ⟨47, [(eU 97)], [], [((.val eB1), [])]⟩
theorem hDeriveErrors4_ok : HOk Tryd.prog hDeriveErrors4 := hok_eq mmDeriveErrors_ok hmDeriveErrors4_ok folDeriveErrors (lf := 100000) (k := 1000) (by kernel_rfl)
def hmDeriveErrors5 : List HE := hDeriveErrors4 :: hmDeriveErrors4
theorem hmDeriveErrors5_ok : ∀ x ∈ hmDeriveErrors5, HOk Tryd.prog x := hmemo_cons hDeriveErrors4_ok hmDeriveErrors4_ok
def hDeriveErrors5 : HE := ⟨47, [(eU 32)], [], [((.val eB0), [])]⟩
theorem hDeriveErrors5_ok : HOk Tryd.prog hDeriveErrors5 := hok_eq mmDeriveErrors_ok hmDeriveErrors5_ok folDeriveErrors (lf := 100000) (k := 1000) (by kernel_rfl)
def hmDeriveErrors6 : List HE := hDeriveErrors5 :: hmDeriveErrors5
theorem hmDeriveErrors6_ok : ∀ x ∈ hmDeriveErrors6, HOk Tryd.prog x := hmemo_cons hDeriveErrors5_ok hmDeriveErrors5_ok
def hDeriveErrors6 : HE := ⟨48, [(eU 32)], [], [((.val eB0), [])]⟩
theorem hDeriveErrors6_ok : HOk Tryd.prog hDeriveErrors6 := hok_eq mmDeriveErrors_ok hmDeriveErrors6_ok folDeriveErrors (lf := 100000) (k := 1000) (by kernel_rfl)
def hmDeriveErrors7 : List HE := hDeriveErrors6 :: hmDeriveErrors6
theorem hmDeriveErrors7_ok : ∀ x ∈ hmDeriveErrors7, HOk Tryd.prog x := hmemo_cons hDeriveErrors6_ok hmDeriveErrors6_ok
def hDeriveErrors7 : HE := ⟨49, [(eS [97])], [], [((.val eB1), [])]⟩
theorem hDeriveErrors7_ok : HOk Tryd.prog hDeriveErrors7 := hok_eq mmDeriveErrors_ok hmDeriveErrors7_ok folDeriveErrors (lf := 100000) (k := 1000) (by kernel_rfl)
def hmDeriveErrors8 : List HE := hDeriveErrors7 :: hmDeriveErrors7
theorem hmDeriveErrors8_ok : ∀ x ∈ hmDeriveErrors8, HOk Tryd.prog x := hmemo_cons hDeriveErrors7_ok hmDeriveErrors7_ok
def hDeriveErrors8 : HE := ⟨47, [(eU 98)], [], [((.val eB1), [])]⟩
theorem hDeriveErrors8_ok : HOk Tryd.prog hDeriveErrors8 := hok_eq mmDeriveErrors_ok hmDeriveErrors8_ok folDeriveErrors (lf := 100000) (k := 1000) (by kernel_rfl)
def hmDeriveErrors9 : List HE := hDeriveErrors8 :: hmDeriveErrors8
theorem hmDeriveErrors9_ok : ∀ x ∈ hmDeriveErrors9, HOk Tryd.prog x := hmemo_cons hDeriveErrors8_ok hmDeriveErrors8_ok
def hDeriveErrors9 : HE := ⟨47, [(eU 10)], [], [((.val eB0), [])]⟩
theorem hDeriveErrors9_ok : HOk Tryd.prog hDeriveErrors9 := hok_eq mmDeriveErrors_ok hmDeriveErrors9_ok folDeriveErrors (lf := 100000) (k := 1000) (by kernel_rfl)
def hmDeriveErrors10 : List HE := hDeriveErrors9 :: hmDeriveErrors9
theorem hmDeriveErrors10_ok : ∀ x ∈ hmDeriveErrors10, HOk Tryd.prog x := hmemo_cons hDeriveErrors9_ok hmDeriveErrors9_ok
def hDeriveErrors10 : HE := ⟨48, [(eU 10)], [], [((.val eB0), [])]⟩
theorem hDeriveErrors10_ok : HOk Tryd.prog hDeriveErrors10 := hok_eq mmDeriveErrors_ok hmDeriveErrors10_ok folDeriveErrors (lf := 100000) (k := 1000) (by kernel_rfl)
def hmDeriveErrors11 : List HE := hDeriveErrors10 :: hmDeriveErrors10
theorem hmDeriveErrors11_ok : ∀ x ∈ hmDeriveErrors11, HOk Tryd.prog x := hmemo_cons hDeriveErrors10_ok hmDeriveErrors10_ok
def hDeriveErrors11 : HE := ⟨49, [(eS [98])], [], [((.val eB1), [])]⟩
theorem hDeriveErrors11_ok : HOk Tryd.prog hDeriveErrors11 := hok_eq mmDeriveErrors_ok hmDeriveErrors11_ok folDeriveErrors (lf := 100000) (k := 1000) (by kernel_rfl)
def hmDeriveErrors12 : List HE := hDeriveErrors11 :: hmDeriveErrors11
theorem hmDeriveErrors12_ok : ∀ x ∈ hmDeriveErrors12, HOk Tryd.prog x := hmemo_cons hDeriveErrors11_ok hmDeriveErrors11_ok
def bderiveErrors1 : Blk := ⟨[(eI 1),(eS [83]),(eI 1),(eI 1),(eI 3),(eS [58]),(eI 1),(eI 2),(eI 2),(eS [97]),(eI 1),(eI 4),(eI 1),(eS [83]),(eI 1),(eI 6),(eI 4),(eS [124]),(eI 1),(eI 8),(eI 2),(eS [98]),(eI 1),(eI 10),(eI 5),(eS []),(eI 1),(eI 11)],70,[(6,28),(5,24),(4,20),(3,16),(2,12),(1,8),(0,4)],7,0,false,6,none⟩
def hDeriveErrors12 : HE := ⟨29, [(eS [83,58,32,97,32,83,32,124,32,98,10])], [], [((.val (.tup [(.sl 0 6 0 7 none 4),(eI 0),(eI 0)])), [bderiveErrors1])]⟩
theorem hDeriveErrors12_ok : HOk Tryd.prog hDeriveErrors12 := hok_eq mmDeriveErrors_ok hmDeriveErrors12_ok folDeriveErrors (lf := 100000) (k := 1000) (by kernel_rfl)
def hmDeriveErrors13 : List HE := hDeriveErrors12 :: hmDeriveErrors12
theorem hmDeriveErrors13_ok : ∀ x ∈ hmDeriveErrors13, HOk Tryd.prog x := hmemo_cons hDeriveErrors12_ok hmDeriveErrors12_ok
def bderiveErrors2 : Blk := ⟨[(eI 1),(eS [83]),(eI 1),(eI 1),(.sl 2 4 0 5 none 4)],74,[(0,5)],1,0,false,0,none⟩
def bderiveErrors3 : Blk := ⟨[(eI 2),(eS [97]),(eI 1),(eI 4),(eI 1),(eS [83]),(eI 1),(eI 6),(eI 4),(eS [124]),(eI 1),(eI 8),(eI 2),(eS [98]),(eI 1),(eI 10),(eI 5),(eS []),(eI 1),(eI 11)],70,[(4,20),(3,16),(2,12),(1,8),(0,4)],5,0,false,4,none⟩
def hDeriveErrors13 : HE := ⟨30, [(.sl 0 6 0 7 none 4)], [bderiveErrors1], [((.val (.tup [(.sl 1 0 0 1 none 5),(.agg [(eI 0),(eS []),(eI 0),(eI 0)]),eB1])), [bderiveErrors2, bderiveErrors3])]⟩
theorem hDeriveErrors13_ok : HOk Tryd.prog hDeriveErrors13 := hok_eq mmDeriveErrors_ok hmDeriveErrors13_ok folDeriveErrors (lf := 100000) (k := 1000) (by kernel_rfl)
def hmDeriveErrors14 : List HE := hDeriveErrors13 :: hmDeriveErrors13
theorem hmDeriveErrors14_ok : ∀ x ∈ hmDeriveErrors14, HOk Tryd.prog x := hmemo_cons hDeriveErrors13_ok hmDeriveErrors13_ok
def bderiveErrors4 : Blk := ⟨[(eS [97]),(eS [98])],9,[(1,2),(0,1)],2,0,false,1,none⟩
def bderiveErrors5 : Blk := ⟨[(eS [83])],9,[(0,1)],1,0,false,0,none⟩
def bderiveErrors6 : Blk := ⟨[(eI 100),(.sl 3 1 0 2 none 1),(eI 100),(.sl 4 0 0 1 none 1)],63,[(1,4),(0,2)],2,0,false,1,none⟩
def bderiveErrors7 : Blk := ⟨[(eI 1),(eI 100)],3,[(1,2),(0,1)],2,0,false,1,none⟩
def bderiveErrors8 : Blk := ⟨[(eI 2)],3,[(0,1)],1,0,false,0,none⟩
def hDeriveErrors14 : HE := ⟨9, [(eS [83,58,32,97,32,83,32,124,32,98,10])], [], [((.val (.tup [(.agg [(.sl 0 1 0 2 none 1),(.sl 1 0 0 1 none 1),(.sl 2 1 0 2 none 2)]),(eI 0),(eI 0),(eI 0)])), [bderiveErrors4, bderiveErrors5, bderiveErrors6, bderiveErrors7, bderiveErrors8])]⟩
theorem hDeriveErrors14_ok : HOk Tryd.prog hDeriveErrors14 := hok_eq mmDeriveErrors_ok hmDeriveErrors14_ok folDeriveErrors (lf := 100000) (k := 1000) (by kernel_rfl)
def hmDeriveErrors15 : List HE := hDeriveErrors14 :: hmDeriveErrors14
theorem hmDeriveErrors15_ok : ∀ x ∈ hmDeriveErrors15, HOk Tryd.prog x := hmemo_cons hDeriveErrors14_ok hmDeriveErrors14_ok
def hDeriveErrors15 : HE := ⟨17, [(eI 1)], [], [((.val (.agg [(.sl 0 1 0 2 none 1),(.sl 1 0 0 1 none 1),(.sl 2 1 0 2 none 2)])), [bderiveErrors4, bderiveErrors5, bderiveErrors6, bderiveErrors7, bderiveErrors8])]⟩
theorem hDeriveErrors15_ok : HOk Tryd.prog hDeriveErrors15 := hok_eq mmDeriveErrors_ok hmDeriveErrors15_ok folDeriveErrors (lf := 100000) (k := 1000) (by kernel_rfl)
def hmDeriveErrors16 : List HE := hDeriveErrors15 :: hmDeriveErrors15
theorem hmDeriveErrors16_ok : ∀ x ∈ hmDeriveErrors16, HOk Tryd.prog x := hmemo_cons hDeriveErrors15_ok hmDeriveErrors15_ok
def tderiveErrors1 : List Nat := [65,66,67,68,69,70,71,72,73,74,75,76,77,78,79,80,81,82,83,84,85,86,87,88,89,90,97,98,99,100,101,102,103,104,105,106,107,108,109,110,111,112,113,114,115,116,117,118,119,120,121,122,48,49,50,51,52,53,54,55,56,57]
def hDeriveErrors16 : HE := ⟨85, [(eT tderiveErrors1)], [], [((.val (.tup [(.agg [eB0,eB0,eB0,eB0,eB0,eB0,eB0,eB0,eB0,eB0,eB0,eB0,eB0,eB0,eB0,eB0,eB0,eB0,eB0,eB0,eB0,eB0,eB0,eB0,eB0,eB0,eB0,eB0,eB0,eB0,eB0,eB0,eB0,eB0,eB0,eB0,eB0,eB0,eB0,eB0,eB0,eB0,eB0,eB0,eB0,eB0,eB0,eB0,eB1,eB1,eB1,eB1,eB1,eB1,eB1,eB1,eB1,eB1,eB0,eB0,eB0,eB0,eB0,eB0,eB0,eB1,eB1,eB1,eB1,eB1,eB1,eB1,eB1,eB1,eB1,eB1,eB1,eB1,eB1,eB1,eB1,eB1,eB1,eB1,eB1,eB1,eB1,eB1,eB1,eB1,eB1,eB0,eB0,eB0,eB0,eB0,eB0,eB1,eB1,eB1,eB1,eB1,eB1,eB1,eB1,eB1,eB1,eB1,eB1,eB1,eB1,eB1,eB1,eB1,eB1,eB1,eB1,eB1,eB1,eB1,eB1,eB1,eB1,eB0,eB0,eB0,eB0,eB0,eB0,eB0,eB0,eB0,eB0,eB0,eB0,eB0,eB0,eB0,eB0,eB0,eB0,eB0,eB0,eB0,eB0,eB0,eB0,eB0,eB0,eB0,eB0,eB0,eB0,eB0,eB0,eB0,eB0,eB0,eB0,eB0,eB0,eB0,eB0,eB0,eB0,eB0,eB0,eB0,eB0,eB0,eB0,eB0,eB0,eB0,eB0,eB0,eB0,eB0,eB0,eB0,eB0,eB0,eB0,eB0,eB0,eB0,eB0,eB0,eB0,eB0,eB0,eB0,eB0,eB0,eB0,eB0,eB0,eB0,eB0,eB0,eB0,eB0,eB0,eB0,eB0,eB0,eB0,eB0,eB0,eB0,eB0,eB0,eB0,eB0,eB0,eB0,eB0,eB0,eB0,eB0,eB0,eB0,eB0,eB0,eB0,eB0,eB0,eB0,eB0,eB0,eB0,eB0,eB0,eB0,eB0,eB0,eB0,eB0,eB0,eB0,eB0,eB0,eB0,eB0,eB0,eB0,eB0,eB0,eB0,eB0,eB0,eB0,eB0,eB0,eB0,eB0]),eB1])), [])]⟩
theorem hDeriveErrors16_ok : HOk Tryd.prog hDeriveErrors16 := hok_eq mmDeriveErrors_ok hmDeriveErrors16_ok folDeriveErrors (lf := 100000) (k := 1000) (by kernel_rfl)
def hmDeriveErrors17 : List HE := hDeriveErrors16 :: hmDeriveErrors16
theorem hmDeriveErrors17_ok : ∀ x ∈ hmDeriveErrors17, HOk Tryd.prog x := hmemo_cons hDeriveErrors16_ok hmDeriveErrors16_ok
def hDeriveErrors17 : HE := ⟨67, [(eS [97])], [], [((.val eB1), [])]⟩
theorem hDeriveErrors17_ok : HOk Tryd.prog hDeriveErrors17 := hok_eq mmDeriveErrors_ok hmDeriveErrors17_ok folDeriveErrors (lf := 100000) (k := 1000) (by kernel_rfl)
def hmDeriveErrors18 : List HE := hDeriveErrors17 :: hmDeriveErrors17
theorem hmDeriveErrors18_ok : ∀ x ∈ hmDeriveErrors18, HOk Tryd.prog x := hmemo_cons hDeriveErrors17_ok hmDeriveErrors17_ok
def hDeriveErrors18 : HE := ⟨67, [(eS [98])], [], [((.val eB1), [])]⟩
theorem hDeriveErrors18_ok : HOk Tryd.prog hDeriveErrors18 := hok_eq mmDeriveErrors_ok hmDeriveErrors18_ok folDeriveErrors (lf := 100000) (k := 1000) (by kernel_rfl)
def hmDeriveErrors19 : List HE := hDeriveErrors18 :: hmDeriveErrors18
theorem hmDeriveErrors19_ok : ∀ x ∈ hmDeriveErrors19, HOk Tryd.prog x := hmemo_cons hDeriveErrors18_ok hmDeriveErrors18_ok
def hDeriveErrors19 : HE := ⟨67, [(eS [83])], [], [((.val eB1), [])]⟩
theorem hDeriveErrors19_ok : HOk Tryd.prog hDeriveErrors19 := hok_eq mmDeriveErrors_ok hmDeriveErrors19_ok folDeriveErrors (lf := 100000) (k := 1000) (by kernel_rfl)
def hmDeriveErrors20 : List HE := hDeriveErrors19 :: hmDeriveErrors19
theorem hmDeriveErrors20_ok : ∀ x ∈ hmDeriveErrors20, HOk Tryd.prog x := hmemo_cons hDeriveErrors19_ok hmDeriveErrors19_ok
def hDeriveErrors20 : HE := ⟨59, [(.agg [(.sl 0 1 0 2 none 1),(.sl 1 0 0 1 none 1),(.sl 2 1 0 2 none 2)])], [bderiveErrors4, bderiveErrors5, bderiveErrors6, bderiveErrors7, bderiveErrors8], [((.val eB1), [])]⟩
theorem hDeriveErrors20_ok : HOk Tryd.prog hDeriveErrors20 := hok_eq mmDeriveErrors_ok hmDeriveErrors20_ok folDeriveErrors (lf := 100000) (k := 1000) (by kernel_rfl)
def hmDeriveErrors21 : List HE := hDeriveErrors20 :: hmDeriveErrors20
theorem hmDeriveErrors21_ok : ∀ x ∈ hmDeriveErrors21, HOk Tryd.prog x := hmemo_cons hDeriveErrors20_ok hmDeriveErrors20_ok
def hDeriveErrors21 : HE := ⟨60, [(.agg [(.sl 0 1 0 2 none 1),(.sl 1 0 0 1 none 1),(.sl 2 1 0 2 none 2)])], [bderiveErrors4, bderiveErrors5, bderiveErrors6, bderiveErrors7, bderiveErrors8], [((.val eB1), [])]⟩
theorem hDeriveErrors21_ok : HOk Tryd.prog hDeriveErrors21 := hok_eq mmDeriveErrors_ok hmDeriveErrors21_ok folDeriveErrors (lf := 100000) (k := 1000) (by kernel_rfl)
def hmDeriveErrors22 : List HE := hDeriveErrors21 :: hmDeriveErrors21
theorem hmDeriveErrors22_ok : ∀ x ∈ hmDeriveErrors22, HOk Tryd.prog x := hmemo_cons hDeriveErrors21_ok hmDeriveErrors21_ok
def hDeriveErrors22 : HE := ⟨50, [(.agg [(.sl 0 1 0 2 none 1),(.sl 1 0 0 1 none 1),(.sl 2 1 0 2 none 2)])], [bderiveErrors4, bderiveErrors5, bderiveErrors6, bderiveErrors7, bderiveErrors8], [((.val (eI 0)), [])]⟩
theorem hDeriveErrors22_ok : HOk Tryd.prog hDeriveErrors22 := hok_eq mmDeriveErrors_ok hmDeriveErrors22_ok folDeriveErrors (lf := 100000) (k := 1000) (by kernel_rfl)
def hmDeriveErrors23 : List HE := hDeriveErrors22 :: hmDeriveErrors22
theorem hmDeriveErrors23_ok : ∀ x ∈ hmDeriveErrors23, HOk Tryd.prog x := hmemo_cons hDeriveErrors22_ok hmDeriveErrors22_ok
def hDeriveErrors23 : HE := ⟨50, [(.agg [(.lit (.slice none 0 0)),(.lit (.slice none 0 0)),(.lit (.slice none 0 0))])], [], [((.val (eI 1)), [])]⟩
theorem hDeriveErrors23_ok : HOk Tryd.prog hDeriveErrors23 := hok_eq mmDeriveErrors_ok hmDeriveErrors23_ok folDeriveErrors (lf := 100000) (k := 1000) (by kernel_rfl)
def hmDeriveErrors24 : List HE := hDeriveErrors23 :: hmDeriveErrors23
theorem hmDeriveErrors24_ok : ∀ x ∈ hmDeriveErrors24, HOk Tryd.prog x := hmemo_cons hDeriveErrors23_ok hmDeriveErrors23_ok
def hDeriveErrors24 : HE := ⟨13, [(.agg [(.sl 0 1 0 2 none 1),(.sl 1 0 0 1 none 1),(.sl 2 1 0 2 none 2)]),(eI 100),(.sl 5 0 0 1 (some 1) 1)], [bderiveErrors4, bderiveErrors5, bderiveErrors6, bderiveErrors7, bderiveErrors8, bderiveErrors8], [((.val eB1), [])]⟩
theorem hDeriveErrors24_ok : HOk Tryd.prog hDeriveErrors24 := hok_eq mmDeriveErrors_ok hmDeriveErrors24_ok folDeriveErrors (lf := 100000) (k := 1000) (by kernel_rfl)
def hmDeriveErrors25 : List HE := hDeriveErrors24 :: hmDeriveErrors24
theorem hmDeriveErrors25_ok : ∀ x ∈ hmDeriveErrors25, HOk Tryd.prog x := hmemo_cons hDeriveErrors24_ok hmDeriveErrors24_ok
def bderiveErrors9 : Blk := ⟨[(eI 1),(eS [83]),(eI 1),(eI 1),(eI 3),(eS [58]),(eI 1),(eI 2),(eI 1),(eS [83]),(eI 1),(eI 4),(eI 1),(eS [83]),(eI 1),(eI 6),(eI 4),(eS [124]),(eI 1),(eI 8),(eI 2),(eS [97]),(eI 1),(eI 10),(eI 5),(eS []),(eI 1),(eI 11)],70,[(6,28),(5,24),(4,20),(3,16),(2,12),(1,8),(0,4)],7,0,false,6,none⟩
def hDeriveErrors25 : HE := ⟨29, [(eS [83,58,32,83,32,83,32,124,32,97,10])], [], [((.val (.tup [(.sl 0 6 0 7 none 4),(eI 0),(eI 0)])), [bderiveErrors9])]⟩
theorem hDeriveErrors25_ok : HOk Tryd.prog hDeriveErrors25 := hok_eq mmDeriveErrors_ok hmDeriveErrors25_ok folDeriveErrors (lf := 100000) (k := 1000) (by kernel_rfl)
def hmDeriveErrors26 : List HE := hDeriveErrors25 :: hmDeriveErrors25
theorem hmDeriveErrors26_ok : ∀ x ∈ hmDeriveErrors26, HOk Tryd.prog x := hmemo_cons hDeriveErrors25_ok hmDeriveErrors25_ok
def bderiveErrors10 : Blk := ⟨[(eI 1),(eS [83]),(eI 1),(eI 4),(eI 1),(eS [83]),(eI 1),(eI 6),(eI 4),(eS [124]),(eI 1),(eI 8),(eI 2),(eS [97]),(eI 1),(eI 10),(eI 5),(eS []),(eI 1),(eI 11)],70,[(4,20),(3,16),(2,12),(1,8),(0,4)],5,0,false,4,none⟩
def hDeriveErrors26 : HE := ⟨30, [(.sl 0 6 0 7 none 4)], [bderiveErrors9], [((.val (.tup [(.sl 1 0 0 1 none 5),(.agg [(eI 0),(eS []),(eI 0),(eI 0)]),eB1])), [bderiveErrors2, bderiveErrors10])]⟩
theorem hDeriveErrors26_ok : HOk Tryd.prog hDeriveErrors26 := hok_eq mmDeriveErrors_ok hmDeriveErrors26_ok folDeriveErrors (lf := 100000) (k := 1000) (by kernel_rfl)
def hmDeriveErrors27 : List HE := hDeriveErrors26 :: hmDeriveErrors26
theorem hmDeriveErrors27_ok : ∀ x ∈ hmDeriveErrors27, HOk Tryd.prog x := hmemo_cons hDeriveErrors26_ok hmDeriveErrors26_ok
def bderiveErrors11 : Blk := ⟨[(eS [97])],9,[(0,1)],1,0,false,0,none⟩
def bderiveErrors12 : Blk := ⟨[(eI 100),(eI 100)],3,[(1,2),(0,1)],2,0,false,1,none⟩
def bderiveErrors13 : Blk := ⟨[(eI 1)],3,[(0,1)],1,0,false,0,none⟩
def hDeriveErrors27 : HE := ⟨9, [(eS [83,58,32,83,32,83,32,124,32,97,10])], [], [((.val (.tup [(.agg [(.sl 0 0 0 1 none 1),(.sl 1 0 0 1 none 1),(.sl 2 1 0 2 none 2)]),(eI 0),(eI 0),(eI 0)])), [bderiveErrors11, bderiveErrors5, bderiveErrors6, bderiveErrors12, bderiveErrors13])]⟩
theorem hDeriveErrors27_ok : HOk Tryd.prog hDeriveErrors27 := hok_eq mmDeriveErrors_ok hmDeriveErrors27_ok folDeriveErrors (lf := 100000) (k := 1000) (by kernel_rfl)
def hmDeriveErrors28 : List HE := hDeriveErrors27 :: hmDeriveErrors27
theorem hmDeriveErrors28_ok : ∀ x ∈ hmDeriveErrors28, HOk Tryd.prog x := hmemo_cons hDeriveErrors27_ok hmDeriveErrors27_ok
def hDeriveErrors28 : HE := ⟨59, [(.agg [(.sl 0 0 0 1 none 1),(.sl 1 0 0 1 none 1),(.sl 2 1 0 2 none 2)])], [bderiveErrors11, bderiveErrors5, bderiveErrors6, bderiveErrors12, bderiveErrors13], [((.val eB1), [])]⟩
theorem hDeriveErrors28_ok : HOk Tryd.prog hDeriveErrors28 := hok_eq mmDeriveErrors_ok hmDeriveErrors28_ok folDeriveErrors (lf := 100000) (k := 1000) (by kernel_rfl)
def hmDeriveErrors29 : List HE := hDeriveErrors28 :: hmDeriveErrors28
theorem hmDeriveErrors29_ok : ∀ x ∈ hmDeriveErrors29, HOk Tryd.prog x := hmemo_cons hDeriveErrors28_ok hmDeriveErrors28_ok
def hDeriveErrors29 : HE := ⟨60, [(.agg [(.sl 0 0 0 1 none 1),(.sl 1 0 0 1 none 1),(.sl 2 1 0 2 none 2)])], [bderiveErrors11, bderiveErrors5, bderiveErrors6, bderiveErrors12, bderiveErrors13], [((.val eB1), [])]⟩
theorem hDeriveErrors29_ok : HOk Tryd.prog hDeriveErrors29 := hok_eq mmDeriveErrors_ok hmDeriveErrors29_ok folDeriveErrors (lf := 100000) (k := 1000) (by kernel_rfl)
def hmDeriveErrors30 : List HE := hDeriveErrors29 :: hmDeriveErrors29
theorem hmDeriveErrors30_ok : ∀ x ∈ hmDeriveErrors30, HOk Tryd.prog x := hmemo_cons hDeriveErrors29_ok hmDeriveErrors29_ok
def hDeriveErrors30 : HE := ⟨50, [(.agg [(.sl 0 0 0 1 none 1),(.sl 1 0 0 1 none 1),(.sl 2 1 0 2 none 2)])], [bderiveErrors11, bderiveErrors5, bderiveErrors6, bderiveErrors12, bderiveErrors13], [((.val (eI 0)), [])]⟩
theorem hDeriveErrors30_ok : HOk Tryd.prog hDeriveErrors30 := hok_eq mmDeriveErrors_ok hmDeriveErrors30_ok folDeriveErrors (lf := 100000) (k := 1000) (by kernel_rfl)
def hmDeriveErrors31 : List HE := hDeriveErrors30 :: hmDeriveErrors30
theorem hmDeriveErrors31_ok : ∀ x ∈ hmDeriveErrors31, HOk Tryd.prog x := hmemo_cons hDeriveErrors30_ok hmDeriveErrors30_ok
def hDeriveErrors31 : HE := ⟨13, [(.agg [(.sl 0 0 0 1 none 1),(.sl 1 0 0 1 none 1),(.sl 2 1 0 2 none 2)]),(eI 100),(.sl 5 0 0 1 (some 1) 1)], [bderiveErrors11, bderiveErrors5, bderiveErrors6, bderiveErrors12, bderiveErrors13, bderiveErrors13], [((.val eB1), [])]⟩
theorem hDeriveErrors31_ok : HOk Tryd.prog hDeriveErrors31 := hok_eq mmDeriveErrors_ok hmDeriveErrors31_ok folDeriveErrors (lf := 100000) (k := 1000) (by kernel_rfl)
def hmDeriveErrors32 : List HE := hDeriveErrors31 :: hmDeriveErrors31
theorem hmDeriveErrors32_ok : ∀ x ∈ hmDeriveErrors32, HOk Tryd.prog x := hmemo_cons hDeriveErrors31_ok hmDeriveErrors31_ok
def hDeriveErrors32 : HE := ⟨13, [(.agg [(.sl 0 0 0 1 none 1),(.sl 1 0 0 1 none 1),(.sl 2 1 0 2 none 2)]),(eI 100),(.lit (.slice none 0 0))], [bderiveErrors11, bderiveErrors5, bderiveErrors6, bderiveErrors12, bderiveErrors13], [((.val eB0), [])]⟩
theorem hDeriveErrors32_ok : HOk Tryd.prog hDeriveErrors32 := hok_eq mmDeriveErrors_ok hmDeriveErrors32_ok folDeriveErrors (lf := 100000) (k := 1000) (by kernel_rfl)
def hmDeriveErrors33 : List HE := hDeriveErrors32 :: hmDeriveErrors32
theorem hmDeriveErrors33_ok : ∀ x ∈ hmDeriveErrors33, HOk Tryd.prog x := hmemo_cons hDeriveErrors32_ok hmDeriveErrors32_ok
def hDeriveErrors33 : HE := ⟨16, [], [], [((.val eB1), [])]⟩
theorem hDeriveErrors33_ok : HOk Tryd.prog hDeriveErrors33 := hok_eq mmDeriveErrors_ok hmDeriveErrors33_ok folDeriveErrors (lf := 100000) (k := 1000) (by kernel_rfl)
def hmDeriveErrors34 : List HE := hDeriveErrors33 :: hmDeriveErrors33
theorem hmDeriveErrors34_ok : ∀ x ∈ hmDeriveErrors34, HOk Tryd.prog x := hmemo_cons hDeriveErrors33_ok hmDeriveErrors33_ok
end Go.Proofs.YtdahingnadnonaaDoor.E
