/- Calls that WordForms makes, each carried out once over the memory that it is given. -/
import Derived.Test.YtiaimendiblgfaaDoorEWithin
import Derived.Test.YtiaimendiblgfaaDoorESplit
import Derived.Test.YtiaimendiblgfaaDoorProg
import Derived.KernelRfl
namespace Go.Proofs.YtiaimendiblgfaaDoor.E
open Go Go.EV Go.RowKit Go.Proofs
set_option linter.unusedVariables false
set_option maxRecDepth 100000
abbrev eI (n : Nat) : AV := .lit (.int .i64 (Int.ofNat n))
abbrev eU (n : Nat) : AV := .lit (.int .u8 (Int.ofNat n))
abbrev eS (l : List Nat) : AV := .lit (.string (sb l))
abbrev eT (l : List Nat) : AV := .lit (.string (sb l))
abbrev eB1 : AV := .lit (.bool true)
abbrev eB0 : AV := .lit (.bool false)
def mmWordForms : Memo := [(14, [.any .i64, .lit (.int .i64 (Int.ofNat 9))], upto 9)]
theorem mmWordForms_ok : ∀ x ∈ mmWordForms, Contract Tryd.prog x := memo_cons (within_c 9 (by omega)) (memo_nil _)
theorem folWordForms : Tryd.prog.follows .mixedOrders = true := by kernel_rfl
def hmWordForms0 : List HE := []
theorem hmWordForms0_ok : ∀ x ∈ hmWordForms0, HOk Tryd.prog x := hmemo_nil _
def hWordForms0 : HE := ⟨42, [(eU 83)], [], [((.val eB1), [])]⟩
theorem hWordForms0_ok : HOk Tryd.prog hWordForms0 := hok_eq mmWordForms_ok hmWordForms0_ok folWordForms (lf := 100000) (k := 1000) (by kernel_rfl)
def hmWordForms1 : List HE := hWordForms0 :: hmWordForms0
theorem hmWordForms1_ok : ∀ x ∈ hmWordForms1, HOk Tryd.prog x := hmemo_cons hWordForms0_ok hmWordForms0_ok
def hWordForms1 : HE := ⟨42, [(eU 58)], [], [((.val eB0), [])]⟩
theorem hWordForms1_ok : HOk Tryd.prog hWordForms1 := hok_eq mmWordForms_ok hmWordForms1_ok folWordForms (lf := 100000) (k := 1000) (by kernel_rfl)
def hmWordForms2 : List HE := hWordForms1 :: hmWordForms1
theorem hmWordForms2_ok : ∀ x ∈ hmWordForms2, HOk Tryd.prog x := hmemo_cons hWordForms1_ok hmWordForms1_ok
def hWordForms2 : HE := ⟨43, [(eU 58)], [], [((.val eB0), [])]⟩
theorem hWordForms2_ok : HOk Tryd.prog hWordForms2 := hok_eq mmWordForms_ok hmWordForms2_ok folWordForms (lf := 100000) (k := 1000) (by kernel_rfl)
def hmWordForms3 : List HE := hWordForms2 :: hmWordForms2
theorem hmWordForms3_ok : ∀ x ∈ hmWordForms3, HOk Tryd.prog x := hmemo_cons hWordForms2_ok hmWordForms2_ok
def hWordForms3 : HE := ⟨36, [(eS [83])], [], [((.val eB1), [])]⟩
theorem hWordForms3_ok : HOk Tryd.prog hWordForms3 := hok_eq mmWordForms_ok hmWordForms3_ok folWordForms (lf := 100000) (k := 1000) (by kernel_rfl)
def hmWordForms4 : List HE := hWordForms3 :: hmWordForms3
theorem hmWordForms4_ok : ∀ x ∈ hmWordForms4, HOk Tryd.prog x := hmemo_cons hWordForms3_ok hmWordForms3_ok
def hWordForms4 : HE := ⟨42, [(eU 84)], [], [((.val eB1), [])]⟩
theorem hWordForms4_ok : HOk Tryd.prog hWordForms4 := hok_eq mmWordForms_ok hmWordForms4_ok folWordForms (lf := 100000) (k := 1000) (by kernel_rfl)
def hmWordForms5 : List HE := hWordForms4 :: hmWordForms4
theorem hmWordForms5_ok : ∀ x ∈ hmWordForms5, HOk Tryd.prog x := hmemo_cons hWordForms4_ok hmWordForms4_ok
def hWordForms5 : HE := ⟨42, [(eU 32)], [], [((.val eB0), [])]⟩
theorem hWordForms5_ok : HOk Tryd.prog hWordForms5 := hok_eq mmWordForms_ok hmWordForms5_ok folWordForms (lf := 100000) (k := 1000) (by kernel_rfl)
def hmWordForms6 : List HE := hWordForms5 :: hmWordForms5
theorem hmWordForms6_ok : ∀ x ∈ hmWordForms6, HOk Tryd.prog x := hmemo_cons hWordForms5_ok hmWordForms5_ok
def hWordForms6 : HE := ⟨43, [(eU 32)], [], [((.val eB0), [])]⟩
theorem hWordForms6_ok : HOk Tryd.prog hWordForms6 := hok_eq mmWordForms_ok hmWordForms6_ok folWordForms (lf := 100000) (k := 1000) (by kernel_rfl)
def hmWordForms7 : List HE := hWordForms6 :: hmWordForms6
theorem hmWordForms7_ok : ∀ x ∈ hmWordForms7, HOk Tryd.prog x := hmemo_cons hWordForms6_ok hmWordForms6_ok
def hWordForms7 : HE := ⟨36, [(eS [84])], [], [((.val eB1), [])]⟩
theorem hWordForms7_ok : HOk Tryd.prog hWordForms7 := hok_eq mmWordForms_ok hmWordForms7_ok folWordForms (lf := 100000) (k := 1000) (by kernel_rfl)
def hmWordForms8 : List HE := hWordForms7 :: hmWordForms7
theorem hmWordForms8_ok : ∀ x ∈ hmWordForms8, HOk Tryd.prog x := hmemo_cons hWordForms7_ok hmWordForms7_ok
def hWordForms8 : HE := ⟨42, [(eU 99)], [], [((.val eB1), [])]⟩
theorem hWordForms8_ok : HOk Tryd.prog hWordForms8 := hok_eq mmWordForms_ok hmWordForms8_ok folWordForms (lf := 100000) (k := 1000) (by kernel_rfl)
def hmWordForms9 : List HE := hWordForms8 :: hmWordForms8
theorem hmWordForms9_ok : ∀ x ∈ hmWordForms9, HOk Tryd.prog x := hmemo_cons hWordForms8_ok hmWordForms8_ok
def hWordForms9 : HE := ⟨42, [(eU 10)], [], [((.val eB0), [])]⟩
theorem hWordForms9_ok : HOk Tryd.prog hWordForms9 := hok_eq mmWordForms_ok hmWordForms9_ok folWordForms (lf := 100000) (k := 1000) (by kernel_rfl)
def hmWordForms10 : List HE := hWordForms9 :: hmWordForms9
theorem hmWordForms10_ok : ∀ x ∈ hmWordForms10, HOk Tryd.prog x := hmemo_cons hWordForms9_ok hmWordForms9_ok
def hWordForms10 : HE := ⟨43, [(eU 10)], [], [((.val eB0), [])]⟩
theorem hWordForms10_ok : HOk Tryd.prog hWordForms10 := hok_eq mmWordForms_ok hmWordForms10_ok folWordForms (lf := 100000) (k := 1000) (by kernel_rfl)
def hmWordForms11 : List HE := hWordForms10 :: hmWordForms10
theorem hmWordForms11_ok : ∀ x ∈ hmWordForms11, HOk Tryd.prog x := hmemo_cons hWordForms10_ok hmWordForms10_ok
def hWordForms11 : HE := ⟨36, [(eS [99])], [], [((.val eB1), [])]⟩
theorem hWordForms11_ok : HOk Tryd.prog hWordForms11 := hok_eq mmWordForms_ok hmWordForms11_ok folWordForms (lf := 100000) (k := 1000) (by kernel_rfl)
def hmWordForms12 : List HE := hWordForms11 :: hmWordForms11
theorem hmWordForms12_ok : ∀ x ∈ hmWordForms12, HOk Tryd.prog x := hmemo_cons hWordForms11_ok hmWordForms11_ok
def hWordForms12 : HE := ⟨42, [(eU 98)], [], [((.val eB1), [])]⟩
theorem hWordForms12_ok : HOk Tryd.prog hWordForms12 := hok_eq mmWordForms_ok hmWordForms12_ok folWordForms (lf := 100000) (k := 1000) (by kernel_rfl)
def hmWordForms13 : List HE := hWordForms12 :: hmWordForms12
theorem hmWordForms13_ok : ∀ x ∈ hmWordForms13, HOk Tryd.prog x := hmemo_cons hWordForms12_ok hmWordForms12_ok
def hWordForms13 : HE := ⟨36, [(eS [98])], [], [((.val eB1), [])]⟩
theorem hWordForms13_ok : HOk Tryd.prog hWordForms13 := hok_eq mmWordForms_ok hmWordForms13_ok folWordForms (lf := 100000) (k := 1000) (by kernel_rfl)
def hmWordForms14 : List HE := hWordForms13 :: hmWordForms13
theorem hmWordForms14_ok : ∀ x ∈ hmWordForms14, HOk Tryd.prog x := hmemo_cons hWordForms13_ok hmWordForms13_ok
def hWordForms14 : HE := ⟨42, [(eU 85)], [], [((.val eB1), [])]⟩
theorem hWordForms14_ok : HOk Tryd.prog hWordForms14 := hok_eq mmWordForms_ok hmWordForms14_ok folWordForms (lf := 100000) (k := 1000) (by kernel_rfl)
def hmWordForms15 : List HE := hWordForms14 :: hmWordForms14
theorem hmWordForms15_ok : ∀ x ∈ hmWordForms15, HOk Tryd.prog x := hmemo_cons hWordForms14_ok hmWordForms14_ok
def hWordForms15 : HE := ⟨36, [(eS [85])], [], [((.val eB1), [])]⟩
theorem hWordForms15_ok : HOk Tryd.prog hWordForms15 := hok_eq mmWordForms_ok hmWordForms15_ok folWordForms (lf := 100000) (k := 1000) (by kernel_rfl)
def hmWordForms16 : List HE := hWordForms15 :: hmWordForms15
theorem hmWordForms16_ok : ∀ x ∈ hmWordForms16, HOk Tryd.prog x := hmemo_cons hWordForms15_ok hmWordForms15_ok
def hWordForms16 : HE := ⟨42, [(eU 97)], [], [((.val eB1), [])]⟩
theorem hWordForms16_ok : HOk Tryd.prog hWordForms16 := hok_eq mmWordForms_ok hmWordForms16_ok folWordForms (lf := 100000) (k := 1000) (by kernel_rfl)
def hmWordForms17 : List HE := hWordForms16 :: hmWordForms16
theorem hmWordForms17_ok : ∀ x ∈ hmWordForms17, HOk Tryd.prog x := hmemo_cons hWordForms16_ok hmWordForms16_ok
def hWordForms17 : HE := ⟨36, [(eS [97])], [], [((.val eB1), [])]⟩
theorem hWordForms17_ok : HOk Tryd.prog hWordForms17 := hok_eq mmWordForms_ok hmWordForms17_ok folWordForms (lf := 100000) (k := 1000) (by kernel_rfl)
def hmWordForms18 : List HE := hWordForms17 :: hmWordForms17
theorem hmWordForms18_ok : ∀ x ∈ hmWordForms18, HOk Tryd.prog x := hmemo_cons hWordForms17_ok hmWordForms17_ok
def hWordForms18 : HE := ⟨42, [(eU 86)], [], [((.val eB1), [])]⟩
theorem hWordForms18_ok : HOk Tryd.prog hWordForms18 := hok_eq mmWordForms_ok hmWordForms18_ok folWordForms (lf := 100000) (k := 1000) (by kernel_rfl)
def hmWordForms19 : List HE := hWordForms18 :: hmWordForms18
theorem hmWordForms19_ok : ∀ x ∈ hmWordForms19, HOk Tryd.prog x := hmemo_cons hWordForms18_ok hmWordForms18_ok
def hWordForms19 : HE := ⟨36, [(eS [86])], [], [((.val eB1), [])]⟩
theorem hWordForms19_ok : HOk Tryd.prog hWordForms19 := hok_eq mmWordForms_ok hmWordForms19_ok folWordForms (lf := 100000) (k := 1000) (by kernel_rfl)
def hmWordForms20 : List HE := hWordForms19 :: hmWordForms19
theorem hmWordForms20_ok : ∀ x ∈ hmWordForms20, HOk Tryd.prog x := hmemo_cons hWordForms19_ok hmWordForms19_ok
def hWordForms20 : HE := ⟨42, [(eU 87)], [], [((.val eB1), [])]⟩
theorem hWordForms20_ok : HOk Tryd.prog hWordForms20 := hok_eq mmWordForms_ok hmWordForms20_ok folWordForms (lf := 100000) (k := 1000) (by kernel_rfl)
def hmWordForms21 : List HE := hWordForms20 :: hmWordForms20
theorem hmWordForms21_ok : ∀ x ∈ hmWordForms21, HOk Tryd.prog x := hmemo_cons hWordForms20_ok hmWordForms20_ok
def hWordForms21 : HE := ⟨36, [(eS [87])], [], [((.val eB1), [])]⟩
theorem hWordForms21_ok : HOk Tryd.prog hWordForms21 := hok_eq mmWordForms_ok hmWordForms21_ok folWordForms (lf := 100000) (k := 1000) (by kernel_rfl)
def hmWordForms22 : List HE := hWordForms21 :: hmWordForms21
theorem hmWordForms22_ok : ∀ x ∈ hmWordForms22, HOk Tryd.prog x := hmemo_cons hWordForms21_ok hmWordForms21_ok
def bwordForms1 : Blk := ⟨[(eI 1),(eS [83]),(eI 1),(eI 1),(eI 3),(eS [58]),(eI 1),(eI 2),(eI 1),(eS [84]),(eI 1),(eI 4),(eI 1),(eS [84]),(eI 1),(eI 6),(eI 4),(eS [124]),(eI 1),(eI 8),(eI 2),(eS [99]),(eI 1),(eI 10),(eI 5),(eS []),(eI 1),(eI 11),(eI 1),(eS [84]),(eI 2),(eI 1),(eI 3),(eS [58]),(eI 2),(eI 2),(eI 2),(eS [98]),(eI 2),(eI 4),(eI 1),(eS [85]),(eI 2),(eI 6),(eI 4),(eS [124]),(eI 2),(eI 8),(eI 2),(eS [97]),(eI 2),(eI 10),(eI 1),(eS [85]),(eI 2),(eI 12),(eI 5),(eS []),(eI 2),(eI 13),(eI 1),(eS [85]),(eI 3),(eI 1),(eI 3),(eS [58]),(eI 3),(eI 2),(eI 2),(eS [97]),(eI 3),(eI 4),(eI 4),(eS [124]),(eI 3),(eI 6),(eI 2),(eS [98]),(eI 3),(eI 8),(eI 4),(eS [124]),(eI 3),(eI 10),(eI 5),(eS []),(eI 3),(eI 11),(eI 1),(eS [86]),(eI 4),(eI 1),(eI 3),(eS [58]),(eI 4),(eI 2),(eI 1),(eS [86]),(eI 4),(eI 4),(eI 2),(eS [97]),(eI 4),(eI 6),(eI 5),(eS []),(eI 4),(eI 7),(eI 1),(eS [87]),(eI 5),(eI 1),(eI 3),(eS [58]),(eI 5),(eI 2),(eI 1),(eS [84]),(eI 5),(eI 4),(eI 1),(eS [84]),(eI 5),(eI 6),(eI 5),(eS []),(eI 5),(eI 7)],67,[(31,128),(30,124),(29,120),(28,116),(27,112),(26,108),(25,104),(24,100),(23,96),(22,92),(21,88),(20,84),(19,80),(18,76),(17,72),(16,68),(15,64),(14,60),(13,56),(12,52),(11,48),(10,44),(9,40),(8,36),(7,32),(6,28),(5,24),(4,20),(3,16),(2,12),(1,8),(0,4)],32,0,false,31,none⟩
def twordForms1 : List Nat := [83,58,32,84,32,84,32,124,32,99,10,84,58,32,98,32,85,32,124,32,97,32,85,10,85,58,32,97,32,124,32,98,32,124,10,86,58,32,86,32,97,10,87,58,32,84,32,84,10]
def hWordForms22 : HE := ⟨28, [(eT twordForms1)], [], [((.val (.tup [(.sl 0 31 0 32 none 4),(eI 0),(eI 0)])), [bwordForms1])]⟩
theorem hWordForms22_ok : HOk Tryd.prog hWordForms22 := hok_eq mmWordForms_ok hmWordForms22_ok folWordForms (lf := 100000) (k := 1000) (by kernel_rfl)
def hmWordForms23 : List HE := hWordForms22 :: hmWordForms22
theorem hmWordForms23_ok : ∀ x ∈ hmWordForms23, HOk Tryd.prog x := hmemo_cons hWordForms22_ok hmWordForms22_ok
def bwordForms2 : Blk := ⟨[(eI 1),(eS [83]),(eI 1),(eI 1),(.sl 2 4 0 5 none 4),(eI 1),(eS [84]),(eI 2),(eI 1),(.sl 3 5 0 6 none 4),(eI 1),(eS [85]),(eI 3),(eI 1),(.sl 4 4 0 5 none 4),(eI 1),(eS [86]),(eI 4),(eI 1),(.sl 5 2 0 3 none 4),(eI 1),(eS [87]),(eI 5),(eI 1),(.sl 6 2 0 3 none 4)],71,[(4,25),(3,20),(2,15),(1,10),(0,5)],5,0,false,4,none⟩
def bwordForms3 : Blk := ⟨[(eI 1),(eS [84]),(eI 1),(eI 4),(eI 1),(eS [84]),(eI 1),(eI 6),(eI 4),(eS [124]),(eI 1),(eI 8),(eI 2),(eS [99]),(eI 1),(eI 10),(eI 5),(eS []),(eI 1),(eI 11)],67,[(4,20),(3,16),(2,12),(1,8),(0,4)],5,0,false,4,none⟩
def bwordForms4 : Blk := ⟨[(eI 2),(eS [98]),(eI 2),(eI 4),(eI 1),(eS [85]),(eI 2),(eI 6),(eI 4),(eS [124]),(eI 2),(eI 8),(eI 2),(eS [97]),(eI 2),(eI 10),(eI 1),(eS [85]),(eI 2),(eI 12),(eI 5),(eS []),(eI 2),(eI 13)],67,[(5,24),(4,20),(3,16),(2,12),(1,8),(0,4)],6,0,false,5,none⟩
def bwordForms5 : Blk := ⟨[(eI 2),(eS [97]),(eI 3),(eI 4),(eI 4),(eS [124]),(eI 3),(eI 6),(eI 2),(eS [98]),(eI 3),(eI 8),(eI 4),(eS [124]),(eI 3),(eI 10),(eI 5),(eS []),(eI 3),(eI 11)],67,[(4,20),(3,16),(2,12),(1,8),(0,4)],5,0,false,4,none⟩
def bwordForms6 : Blk := ⟨[(eI 1),(eS [86]),(eI 4),(eI 4),(eI 2),(eS [97]),(eI 4),(eI 6),(eI 5),(eS []),(eI 4),(eI 7)],67,[(2,12),(1,8),(0,4)],3,0,false,2,none⟩
def bwordForms7 : Blk := ⟨[(eI 1),(eS [84]),(eI 5),(eI 4),(eI 1),(eS [84]),(eI 5),(eI 6),(eI 5),(eS []),(eI 5),(eI 7)],67,[(2,12),(1,8),(0,4)],3,0,false,2,none⟩
def hWordForms23 : HE := ⟨29, [(.sl 0 31 0 32 none 4)], [bwordForms1], [((.val (.tup [(.sl 1 4 0 5 none 5),(.agg [(eI 0),(eS []),(eI 0),(eI 0)]),eB1])), [bwordForms2, bwordForms3, bwordForms4, bwordForms5, bwordForms6, bwordForms7])]⟩
theorem hWordForms23_ok : HOk Tryd.prog hWordForms23 := hok_eq mmWordForms_ok hmWordForms23_ok folWordForms (lf := 100000) (k := 1000) (by kernel_rfl)
def hmWordForms24 : List HE := hWordForms23 :: hmWordForms23
theorem hmWordForms24_ok : ∀ x ∈ hmWordForms24, HOk Tryd.prog x := hmemo_cons hWordForms23_ok hmWordForms23_ok
def bwordForms8 : Blk := ⟨[(eS [99]),(eS [98]),(eS [97])],9,[(2,3),(1,2),(0,1)],3,0,false,2,none⟩
def bwordForms9 : Blk := ⟨[(eS [83]),(eS [84]),(eS [85]),(eS [86]),(eS [87])],9,[(4,5),(3,4),(2,3),(1,2),(0,1)],5,0,false,4,none⟩
def bwordForms10 : Blk := ⟨[(eI 100),(.sl 3 1 0 2 none 1),(eI 100),(.sl 4 0 0 1 none 1),(eI 101),(.sl 5 1 0 2 none 1),(eI 101),(.sl 6 1 0 2 none 1),(eI 102),(.sl 7 0 0 1 none 1),(eI 102),(.sl 8 0 0 1 none 1),(eI 102),(.lit (.slice none 0 0)),(eI 103),(.sl 9 1 0 2 none 1),(eI 104),(.sl 10 1 0 2 none 1)],37,[(8,18),(7,16),(6,14),(5,12),(4,10),(3,8),(2,6),(1,4),(0,2)],9,0,false,8,none⟩
def bwordForms11 : Blk := ⟨[(eI 101),(eI 101)],3,[(1,2),(0,1)],2,0,false,1,none⟩
def bwordForms12 : Blk := ⟨[(eI 1)],3,[(0,1)],1,0,false,0,none⟩
def bwordForms13 : Blk := ⟨[(eI 2),(eI 102)],3,[(1,2),(0,1)],2,0,false,1,none⟩
def bwordForms14 : Blk := ⟨[(eI 3),(eI 102)],3,[(1,2),(0,1)],2,0,false,1,none⟩
def bwordForms15 : Blk := ⟨[(eI 3)],3,[(0,1)],1,0,false,0,none⟩
def bwordForms16 : Blk := ⟨[(eI 2)],3,[(0,1)],1,0,false,0,none⟩
def bwordForms17 : Blk := ⟨[(eI 103),(eI 3)],3,[(1,2),(0,1)],2,0,false,1,none⟩
def hWordForms24 : HE := ⟨13, [(eT twordForms1)], [], [((.val (.tup [(.agg [(.sl 0 2 0 3 none 1),(.sl 1 4 0 5 none 1),(.sl 2 8 0 9 none 2)]),(eI 0),(eI 0),(eI 0)])), [bwordForms8, bwordForms9, bwordForms10, bwordForms11, bwordForms12, bwordForms13, bwordForms14, bwordForms15, bwordForms16, bwordForms17, bwordForms11])]⟩
theorem hWordForms24_ok : HOk Tryd.prog hWordForms24 := hok_eq mmWordForms_ok hmWordForms24_ok folWordForms (lf := 100000) (k := 1000) (by kernel_rfl)
def hmWordForms25 : List HE := hWordForms24 :: hmWordForms24
theorem hmWordForms25_ok : ∀ x ∈ hmWordForms25, HOk Tryd.prog x := hmemo_cons hWordForms24_ok hmWordForms24_ok
def twordForms2 : List Nat := [65,66,67,68,69,70,71,72,73,74,75,76,77,78,79,80,81,82,83,84,85,86,87,88,89,90,97,98,99,100,101,102,103,104,105,106,107,108,109,110,111,112,113,114,115,116,117,118,119,120,121,122,48,49,50,51,52,53,54,55,56,57]
def hWordForms25 : HE := ⟨72, [(eT twordForms2)], [], [((.val (.tup [(.agg [eB0,eB0,eB0,eB0,eB0,eB0,eB0,eB0,eB0,eB0,eB0,eB0,eB0,eB0,eB0,eB0,eB0,eB0,eB0,eB0,eB0,eB0,eB0,eB0,eB0,eB0,eB0,eB0,eB0,eB0,eB0,eB0,eB0,eB0,eB0,eB0,eB0,eB0,eB0,eB0,eB0,eB0,eB0,eB0,eB0,eB0,eB0,eB0,eB1,eB1,eB1,eB1,eB1,eB1,eB1,eB1,eB1,eB1,eB0,eB0,eB0,eB0,eB0,eB0,eB0,eB1,eB1,eB1,eB1,eB1,eB1,eB1,eB1,eB1,eB1,eB1,eB1,eB1,eB1,eB1,eB1,eB1,eB1,eB1,eB1,eB1,eB1,eB1,eB1,eB1,eB1,eB0,eB0,eB0,eB0,eB0,eB0,eB1,eB1,eB1,eB1,eB1,eB1,eB1,eB1,eB1,eB1,eB1,eB1,eB1,eB1,eB1,eB1,eB1,eB1,eB1,eB1,eB1,eB1,eB1,eB1,eB1,eB1,eB0,eB0,eB0,eB0,eB0,eB0,eB0,eB0,eB0,eB0,eB0,eB0,eB0,eB0,eB0,eB0,eB0,eB0,eB0,eB0,eB0,eB0,eB0,eB0,eB0,eB0,eB0,eB0,eB0,eB0,eB0,eB0,eB0,eB0,eB0,eB0,eB0,eB0,eB0,eB0,eB0,eB0,eB0,eB0,eB0,eB0,eB0,eB0,eB0,eB0,eB0,eB0,eB0,eB0,eB0,eB0,eB0,eB0,eB0,eB0,eB0,eB0,eB0,eB0,eB0,eB0,eB0,eB0,eB0,eB0,eB0,eB0,eB0,eB0,eB0,eB0,eB0,eB0,eB0,eB0,eB0,eB0,eB0,eB0,eB0,eB0,eB0,eB0,eB0,eB0,eB0,eB0,eB0,eB0,eB0,eB0,eB0,eB0,eB0,eB0,eB0,eB0,eB0,eB0,eB0,eB0,eB0,eB0,eB0,eB0,eB0,eB0,eB0,eB0,eB0,eB0,eB0,eB0,eB0,eB0,eB0,eB0,eB0,eB0,eB0,eB0,eB0,eB0,eB0,eB0,eB0,eB0,eB0]),eB1])), [])]⟩
theorem hWordForms25_ok : HOk Tryd.prog hWordForms25 := hok_eq mmWordForms_ok hmWordForms25_ok folWordForms (lf := 100000) (k := 1000) (by kernel_rfl)
def hmWordForms26 : List HE := hWordForms25 :: hmWordForms25
theorem hmWordForms26_ok : ∀ x ∈ hmWordForms26, HOk Tryd.prog x := hmemo_cons hWordForms25_ok hmWordForms25_ok
def hWordForms26 : HE := ⟨53, [(eS [99])], [], [((.val eB1), [])]⟩
theorem hWordForms26_ok : HOk Tryd.prog hWordForms26 := hok_eq mmWordForms_ok hmWordForms26_ok folWordForms (lf := 100000) (k := 1000) (by kernel_rfl)
def hmWordForms27 : List HE := hWordForms26 :: hmWordForms26
theorem hmWordForms27_ok : ∀ x ∈ hmWordForms27, HOk Tryd.prog x := hmemo_cons hWordForms26_ok hmWordForms26_ok
def hWordForms27 : HE := ⟨53, [(eS [98])], [], [((.val eB1), [])]⟩
theorem hWordForms27_ok : HOk Tryd.prog hWordForms27 := hok_eq mmWordForms_ok hmWordForms27_ok folWordForms (lf := 100000) (k := 1000) (by kernel_rfl)
def hmWordForms28 : List HE := hWordForms27 :: hmWordForms27
theorem hmWordForms28_ok : ∀ x ∈ hmWordForms28, HOk Tryd.prog x := hmemo_cons hWordForms27_ok hmWordForms27_ok
def hWordForms28 : HE := ⟨53, [(eS [97])], [], [((.val eB1), [])]⟩
theorem hWordForms28_ok : HOk Tryd.prog hWordForms28 := hok_eq mmWordForms_ok hmWordForms28_ok folWordForms (lf := 100000) (k := 1000) (by kernel_rfl)
def hmWordForms29 : List HE := hWordForms28 :: hmWordForms28
theorem hmWordForms29_ok : ∀ x ∈ hmWordForms29, HOk Tryd.prog x := hmemo_cons hWordForms28_ok hmWordForms28_ok
def hWordForms29 : HE := ⟨53, [(eS [83])], [], [((.val eB1), [])]⟩
theorem hWordForms29_ok : HOk Tryd.prog hWordForms29 := hok_eq mmWordForms_ok hmWordForms29_ok folWordForms (lf := 100000) (k := 1000) (by kernel_rfl)
def hmWordForms30 : List HE := hWordForms29 :: hmWordForms29
theorem hmWordForms30_ok : ∀ x ∈ hmWordForms30, HOk Tryd.prog x := hmemo_cons hWordForms29_ok hmWordForms29_ok
def hWordForms30 : HE := ⟨53, [(eS [84])], [], [((.val eB1), [])]⟩
theorem hWordForms30_ok : HOk Tryd.prog hWordForms30 := hok_eq mmWordForms_ok hmWordForms30_ok folWordForms (lf := 100000) (k := 1000) (by kernel_rfl)
def hmWordForms31 : List HE := hWordForms30 :: hmWordForms30
theorem hmWordForms31_ok : ∀ x ∈ hmWordForms31, HOk Tryd.prog x := hmemo_cons hWordForms30_ok hmWordForms30_ok
def hWordForms31 : HE := ⟨53, [(eS [85])], [], [((.val eB1), [])]⟩
theorem hWordForms31_ok : HOk Tryd.prog hWordForms31 := hok_eq mmWordForms_ok hmWordForms31_ok folWordForms (lf := 100000) (k := 1000) (by kernel_rfl)
def hmWordForms32 : List HE := hWordForms31 :: hmWordForms31
theorem hmWordForms32_ok : ∀ x ∈ hmWordForms32, HOk Tryd.prog x := hmemo_cons hWordForms31_ok hmWordForms31_ok
def hWordForms32 : HE := ⟨53, [(eS [86])], [], [((.val eB1), [])]⟩
theorem hWordForms32_ok : HOk Tryd.prog hWordForms32 := hok_eq mmWordForms_ok hmWordForms32_ok folWordForms (lf := 100000) (k := 1000) (by kernel_rfl)
def hmWordForms33 : List HE := hWordForms32 :: hmWordForms32
theorem hmWordForms33_ok : ∀ x ∈ hmWordForms33, HOk Tryd.prog x := hmemo_cons hWordForms32_ok hmWordForms32_ok
def hWordForms33 : HE := ⟨53, [(eS [87])], [], [((.val eB1), [])]⟩
theorem hWordForms33_ok : HOk Tryd.prog hWordForms33 := hok_eq mmWordForms_ok hmWordForms33_ok folWordForms (lf := 100000) (k := 1000) (by kernel_rfl)
def hmWordForms34 : List HE := hWordForms33 :: hmWordForms33
theorem hmWordForms34_ok : ∀ x ∈ hmWordForms34, HOk Tryd.prog x := hmemo_cons hWordForms33_ok hmWordForms33_ok
def bwordForms18 : Blk := ⟨[(eI 104),(.sl 3 1 0 2 none 1),(eI 100),(.sl 4 0 0 1 none 1),(eI 101),(.sl 5 1 0 2 none 1),(eI 101),(.sl 6 1 0 2 none 1),(eI 102),(.sl 7 0 0 1 none 1),(eI 102),(.sl 8 0 0 1 none 1),(eI 102),(.lit (.slice none 0 0)),(eI 103),(.sl 9 1 0 2 none 1),(eI 100),(.sl 10 1 0 2 none 1)],37,[(8,18)],9,0,false,10,none⟩
def hWordForms34 : HE := ⟨45, [(.agg [(.sl 0 2 0 3 none 1),(.sl 1 4 0 5 none 1),(.sl 2 8 0 9 none 2)])], [bwordForms8, bwordForms9, bwordForms18, bwordForms11, bwordForms12, bwordForms13, bwordForms14, bwordForms15, bwordForms16, bwordForms17, bwordForms11], [((.val eB1), [])]⟩
theorem hWordForms34_ok : HOk Tryd.prog hWordForms34 := hok_eq mmWordForms_ok hmWordForms34_ok folWordForms (lf := 100000) (k := 1000) (by kernel_rfl)
def hmWordForms35 : List HE := hWordForms34 :: hmWordForms34
theorem hmWordForms35_ok : ∀ x ∈ hmWordForms35, HOk Tryd.prog x := hmemo_cons hWordForms34_ok hmWordForms34_ok
def hWordForms35 : HE := ⟨46, [(.agg [(.sl 0 2 0 3 none 1),(.sl 1 4 0 5 none 1),(.sl 2 8 0 9 none 2)])], [bwordForms8, bwordForms9, bwordForms18, bwordForms11, bwordForms12, bwordForms13, bwordForms14, bwordForms15, bwordForms16, bwordForms17, bwordForms11], [((.val eB1), [])]⟩
theorem hWordForms35_ok : HOk Tryd.prog hWordForms35 := hok_eq mmWordForms_ok hmWordForms35_ok folWordForms (lf := 100000) (k := 1000) (by kernel_rfl)
def hmWordForms36 : List HE := hWordForms35 :: hmWordForms35
theorem hmWordForms36_ok : ∀ x ∈ hmWordForms36, HOk Tryd.prog x := hmemo_cons hWordForms35_ok hmWordForms35_ok
def hWordForms36 : HE := ⟨31, [(.agg [(.sl 0 2 0 3 none 1),(.sl 1 4 0 5 none 1),(.sl 2 8 0 9 none 2)])], [bwordForms8, bwordForms9, bwordForms18, bwordForms11, bwordForms12, bwordForms13, bwordForms14, bwordForms15, bwordForms16, bwordForms17, bwordForms11], [((.val (eI 0)), [])]⟩
theorem hWordForms36_ok : HOk Tryd.prog hWordForms36 := hok_eq mmWordForms_ok hmWordForms36_ok folWordForms (lf := 100000) (k := 1000) (by kernel_rfl)
def hmWordForms37 : List HE := hWordForms36 :: hmWordForms36
theorem hmWordForms37_ok : ∀ x ∈ hmWordForms37, HOk Tryd.prog x := hmemo_cons hWordForms36_ok hmWordForms36_ok
def bwordForms19 : Blk := ⟨[(.sl 1 0 0 5 (some 5) 1),(.sl 2 0 0 5 (some 5) 1)],75,[(0,2)],1,0,false,0,none⟩
def bwordForms20 : Blk := ⟨[(.lit (.slice none 0 0)),(.lit (.slice none 0 0)),(.lit (.slice none 0 0)),(.lit (.slice none 0 0)),(.lit (.slice none 0 0))],22,[(0,5)],1,0,false,0,none⟩
def bwordForms21 : Blk := ⟨[eB0,eB0,eB0,eB0,eB0],4,[(0,5)],1,0,false,0,none⟩
def hWordForms37 : HE := ⟨49, [(.ptr 0 0 0),(.sl 3 1 0 2 none 1)], [bwordForms19, bwordForms20, bwordForms21, bwordForms11], [((.val (.tup [(.lit (.slice none 0 0)),eB0])), [])]⟩
theorem hWordForms37_ok : HOk Tryd.prog hWordForms37 := hok_eq mmWordForms_ok hmWordForms37_ok folWordForms (lf := 100000) (k := 1000) (by kernel_rfl)
def hmWordForms38 : List HE := hWordForms37 :: hmWordForms37
theorem hmWordForms38_ok : ∀ x ∈ hmWordForms38, HOk Tryd.prog x := hmemo_cons hWordForms37_ok hmWordForms37_ok
def hWordForms38 : HE := ⟨49, [(.ptr 0 0 0),(.sl 3 0 0 1 none 1)], [bwordForms19, bwordForms20, bwordForms21, bwordForms12], [((.val (.tup [(.sl 4 0 0 1 none 1),eB1])), [bwordForms12])]⟩
theorem hWordForms38_ok : HOk Tryd.prog hWordForms38 := hok_eq mmWordForms_ok hmWordForms38_ok folWordForms (lf := 100000) (k := 1000) (by kernel_rfl)
def hmWordForms39 : List HE := hWordForms38 :: hmWordForms38
theorem hmWordForms39_ok : ∀ x ∈ hmWordForms39, HOk Tryd.prog x := hmemo_cons hWordForms38_ok hmWordForms38_ok
def bwordForms22 : Blk := ⟨[(.sl 1 0 0 5 (some 5) 1),(.sl 3 0 0 5 (some 5) 1)],75,[(0,2)],1,0,false,0,none⟩
def bwordForms23 : Blk := ⟨[(.sl 2 0 0 1 none 1),(.lit (.slice none 0 0)),(.lit (.slice none 0 0)),(.lit (.slice none 0 0)),(.lit (.slice none 0 0))],22,[(0,5)],1,0,false,1,none⟩
def bwordForms24 : Blk := ⟨[eB1,eB0,eB0,eB0,eB0],4,[(0,5)],1,0,false,1,none⟩
def hWordForms39 : HE := ⟨49, [(.ptr 0 0 0),(.sl 4 1 0 2 none 1)], [bwordForms22, bwordForms23, bwordForms12, bwordForms24, bwordForms13], [((.val (.tup [(.lit (.slice none 0 0)),eB0])), [])]⟩
theorem hWordForms39_ok : HOk Tryd.prog hWordForms39 := hok_eq mmWordForms_ok hmWordForms39_ok folWordForms (lf := 100000) (k := 1000) (by kernel_rfl)
def hmWordForms40 : List HE := hWordForms39 :: hmWordForms39
theorem hmWordForms40_ok : ∀ x ∈ hmWordForms40, HOk Tryd.prog x := hmemo_cons hWordForms39_ok hmWordForms39_ok
def hWordForms40 : HE := ⟨49, [(.ptr 0 0 0),(.sl 4 1 0 2 none 1)], [bwordForms22, bwordForms23, bwordForms12, bwordForms24, bwordForms14], [((.val (.tup [(.lit (.slice none 0 0)),eB0])), [])]⟩
theorem hWordForms40_ok : HOk Tryd.prog hWordForms40 := hok_eq mmWordForms_ok hmWordForms40_ok folWordForms (lf := 100000) (k := 1000) (by kernel_rfl)
def hmWordForms41 : List HE := hWordForms40 :: hmWordForms40
theorem hmWordForms41_ok : ∀ x ∈ hmWordForms41, HOk Tryd.prog x := hmemo_cons hWordForms40_ok hmWordForms40_ok
def hWordForms41 : HE := ⟨49, [(.ptr 0 0 0),(.sl 4 0 0 1 none 1)], [bwordForms22, bwordForms23, bwordForms12, bwordForms24, bwordForms15], [((.val (.tup [(.sl 5 0 0 1 none 1),eB1])), [bwordForms15])]⟩
theorem hWordForms41_ok : HOk Tryd.prog hWordForms41 := hok_eq mmWordForms_ok hmWordForms41_ok folWordForms (lf := 100000) (k := 1000) (by kernel_rfl)
def hmWordForms42 : List HE := hWordForms41 :: hmWordForms41
theorem hmWordForms42_ok : ∀ x ∈ hmWordForms42, HOk Tryd.prog x := hmemo_cons hWordForms41_ok hmWordForms41_ok
def bwordForms25 : Blk := ⟨[(.sl 1 0 0 5 (some 5) 1),(.sl 4 0 0 5 (some 5) 1)],75,[(0,2)],1,0,false,0,none⟩
def bwordForms26 : Blk := ⟨[(.sl 2 0 0 1 none 1),(.lit (.slice none 0 0)),(.sl 3 0 0 1 none 1),(.lit (.slice none 0 0)),(.lit (.slice none 0 0))],22,[(0,5)],1,0,false,2,none⟩
def bwordForms27 : Blk := ⟨[eB1,eB0,eB1,eB0,eB0],4,[(0,5)],1,0,false,2,none⟩
def hWordForms42 : HE := ⟨49, [(.ptr 0 0 0),(.sl 5 0 0 1 none 1)], [bwordForms25, bwordForms26, bwordForms12, bwordForms15, bwordForms27, bwordForms16], [((.val (.tup [(.sl 6 0 0 1 none 1),eB1])), [bwordForms16])]⟩
theorem hWordForms42_ok : HOk Tryd.prog hWordForms42 := hok_eq mmWordForms_ok hmWordForms42_ok folWordForms (lf := 100000) (k := 1000) (by kernel_rfl)
def hmWordForms43 : List HE := hWordForms42 :: hmWordForms42
theorem hmWordForms43_ok : ∀ x ∈ hmWordForms43, HOk Tryd.prog x := hmemo_cons hWordForms42_ok hmWordForms42_ok
def hWordForms43 : HE := ⟨9, [(.sl 0 0 0 1 none 1),(.sl 1 0 0 1 none 1)], [bwordForms16, bwordForms15], [((.val eB1), [])]⟩
theorem hWordForms43_ok : HOk Tryd.prog hWordForms43 := hok_eq mmWordForms_ok hmWordForms43_ok folWordForms (lf := 100000) (k := 1000) (by kernel_rfl)
def hmWordForms44 : List HE := hWordForms43 :: hmWordForms43
theorem hmWordForms44_ok : ∀ x ∈ hmWordForms44, HOk Tryd.prog x := hmemo_cons hWordForms43_ok hmWordForms43_ok
def bwordForms28 : Blk := ⟨[(.sl 2 0 0 1 none 1),(.lit (.slice none 0 0)),(.sl 3 0 0 1 none 1),(.lit (.slice none 0 0)),(.lit (.slice none 0 0))],22,[(0,5)],1,0,false,3,none⟩
def bwordForms29 : Blk := ⟨[eB1,eB0,eB1,eB0,eB0],4,[(0,5)],1,0,false,3,none⟩
def bwordForms30 : Blk := ⟨[],3,[(0,0)],1,0,false,0,none⟩
def hWordForms44 : HE := ⟨49, [(.ptr 0 0 0),(.lit (.slice none 0 0))], [bwordForms25, bwordForms28, bwordForms12, bwordForms16, bwordForms29], [((.val (.tup [(.sl 5 0 0 0 (some 0) 1),eB1])), [bwordForms30])]⟩
theorem hWordForms44_ok : HOk Tryd.prog hWordForms44 := hok_eq mmWordForms_ok hmWordForms44_ok folWordForms (lf := 100000) (k := 1000) (by kernel_rfl)
def hmWordForms45 : List HE := hWordForms44 :: hmWordForms44
theorem hmWordForms45_ok : ∀ x ∈ hmWordForms45, HOk Tryd.prog x := hmemo_cons hWordForms44_ok hmWordForms44_ok
def hWordForms45 : HE := ⟨9, [(.sl 0 0 0 0 (some 0) 1),(.sl 1 0 0 1 none 1)], [bwordForms30, bwordForms16], [((.val eB1), [])]⟩
theorem hWordForms45_ok : HOk Tryd.prog hWordForms45 := hok_eq mmWordForms_ok hmWordForms45_ok folWordForms (lf := 100000) (k := 1000) (by kernel_rfl)
def hmWordForms46 : List HE := hWordForms45 :: hmWordForms45
theorem hmWordForms46_ok : ∀ x ∈ hmWordForms46, HOk Tryd.prog x := hmemo_cons hWordForms45_ok hmWordForms45_ok
def bwordForms31 : Blk := ⟨[(.sl 2 0 0 1 none 1),(.lit (.slice none 0 0)),(.sl 3 0 0 0 (some 0) 1),(.lit (.slice none 0 0)),(.lit (.slice none 0 0))],22,[(0,5)],1,0,false,4,none⟩
def bwordForms32 : Blk := ⟨[eB1,eB0,eB1,eB0,eB0],4,[(0,5)],1,0,false,4,none⟩
def hWordForms46 : HE := ⟨49, [(.ptr 0 0 0),(.sl 5 1 0 2 none 1)], [bwordForms25, bwordForms31, bwordForms12, bwordForms30, bwordForms32, bwordForms17], [((.val (.tup [(.lit (.slice none 0 0)),eB0])), [])]⟩
theorem hWordForms46_ok : HOk Tryd.prog hWordForms46 := hok_eq mmWordForms_ok hmWordForms46_ok folWordForms (lf := 100000) (k := 1000) (by kernel_rfl)
def hmWordForms47 : List HE := hWordForms46 :: hmWordForms46
theorem hmWordForms47_ok : ∀ x ∈ hmWordForms47, HOk Tryd.prog x := hmemo_cons hWordForms46_ok hmWordForms46_ok
def hWordForms47 : HE := ⟨49, [(.ptr 0 0 0),(.sl 5 1 0 2 none 1)], [bwordForms25, bwordForms31, bwordForms12, bwordForms30, bwordForms32, bwordForms11], [((.val (.tup [(.lit (.slice none 0 0)),eB0])), [])]⟩
theorem hWordForms47_ok : HOk Tryd.prog hWordForms47 := hok_eq mmWordForms_ok hmWordForms47_ok folWordForms (lf := 100000) (k := 1000) (by kernel_rfl)
def hmWordForms48 : List HE := hWordForms47 :: hmWordForms47
theorem hmWordForms48_ok : ∀ x ∈ hmWordForms48, HOk Tryd.prog x := hmemo_cons hWordForms47_ok hmWordForms47_ok
def hWordForms48 : HE := ⟨49, [(.ptr 0 0 0),(.sl 5 0 0 1 none 1)], [bwordForms25, bwordForms31, bwordForms12, bwordForms30, bwordForms32, bwordForms12], [((.val (.tup [(.sl 6 0 0 1 none 1),eB1])), [bwordForms12])]⟩
theorem hWordForms48_ok : HOk Tryd.prog hWordForms48 := hok_eq mmWordForms_ok hmWordForms48_ok folWordForms (lf := 100000) (k := 1000) (by kernel_rfl)
def hmWordForms49 : List HE := hWordForms48 :: hmWordForms48
theorem hmWordForms49_ok : ∀ x ∈ hmWordForms49, HOk Tryd.prog x := hmemo_cons hWordForms48_ok hmWordForms48_ok
def hWordForms49 : HE := ⟨9, [(.sl 0 0 0 1 none 1),(.sl 1 0 0 1 none 1)], [bwordForms12, bwordForms12], [((.val eB0), [])]⟩
theorem hWordForms49_ok : HOk Tryd.prog hWordForms49 := hok_eq mmWordForms_ok hmWordForms49_ok folWordForms (lf := 100000) (k := 1000) (by kernel_rfl)
def hmWordForms50 : List HE := hWordForms49 :: hmWordForms49
theorem hmWordForms50_ok : ∀ x ∈ hmWordForms50, HOk Tryd.prog x := hmemo_cons hWordForms49_ok hmWordForms49_ok
def hWordForms50 : HE := ⟨49, [(.ptr 0 0 0),(.sl 5 1 0 2 none 1)], [bwordForms25, bwordForms31, bwordForms12, bwordForms30, bwordForms32, bwordForms13], [((.val (.tup [(.sl 6 0 0 1 none 1),eB1])), [bwordForms16])]⟩
theorem hWordForms50_ok : HOk Tryd.prog hWordForms50 := hok_eq mmWordForms_ok hmWordForms50_ok folWordForms (lf := 100000) (k := 1000) (by kernel_rfl)
def hmWordForms51 : List HE := hWordForms50 :: hmWordForms50
theorem hmWordForms51_ok : ∀ x ∈ hmWordForms51, HOk Tryd.prog x := hmemo_cons hWordForms50_ok hmWordForms50_ok
def bwordForms33 : Blk := ⟨[(.sl 1 0 0 5 (some 5) 1),(.sl 5 0 0 5 (some 5) 1)],75,[(0,2)],1,0,false,0,none⟩
def bwordForms34 : Blk := ⟨[(.sl 2 0 0 1 none 1),(.sl 3 0 0 1 none 1),(.sl 4 0 0 0 (some 0) 1),(.lit (.slice none 0 0)),(.lit (.slice none 0 0))],22,[(0,5)],1,0,false,5,none⟩
def bwordForms35 : Blk := ⟨[eB1,eB1,eB1,eB0,eB0],4,[(0,5)],1,0,false,5,none⟩
def hWordForms51 : HE := ⟨49, [(.ptr 0 0 0),(.sl 6 1 0 2 none 1)], [bwordForms33, bwordForms34, bwordForms12, bwordForms16, bwordForms30, bwordForms35, bwordForms14], [((.val (.tup [(.sl 7 0 0 1 none 1),eB1])), [bwordForms15])]⟩
theorem hWordForms51_ok : HOk Tryd.prog hWordForms51 := hok_eq mmWordForms_ok hmWordForms51_ok folWordForms (lf := 100000) (k := 1000) (by kernel_rfl)
def hmWordForms52 : List HE := hWordForms51 :: hmWordForms51
theorem hmWordForms52_ok : ∀ x ∈ hmWordForms52, HOk Tryd.prog x := hmemo_cons hWordForms51_ok hmWordForms51_ok
def hWordForms52 : HE := ⟨9, [(.sl 0 0 0 1 none 1),(.sl 1 0 0 1 none 1)], [bwordForms15, bwordForms16], [((.val eB0), [])]⟩
theorem hWordForms52_ok : HOk Tryd.prog hWordForms52 := hok_eq mmWordForms_ok hmWordForms52_ok folWordForms (lf := 100000) (k := 1000) (by kernel_rfl)
def hmWordForms53 : List HE := hWordForms52 :: hmWordForms52
theorem hmWordForms53_ok : ∀ x ∈ hmWordForms53, HOk Tryd.prog x := hmemo_cons hWordForms52_ok hmWordForms52_ok
def hWordForms53 : HE := ⟨49, [(.ptr 0 0 0),(.sl 6 0 0 1 none 1)], [bwordForms33, bwordForms34, bwordForms12, bwordForms16, bwordForms30, bwordForms35, bwordForms15], [((.val (.tup [(.sl 7 0 0 1 none 1),eB1])), [bwordForms15])]⟩
theorem hWordForms53_ok : HOk Tryd.prog hWordForms53 := hok_eq mmWordForms_ok hmWordForms53_ok folWordForms (lf := 100000) (k := 1000) (by kernel_rfl)
def hmWordForms54 : List HE := hWordForms53 :: hmWordForms53
theorem hmWordForms54_ok : ∀ x ∈ hmWordForms54, HOk Tryd.prog x := hmemo_cons hWordForms53_ok hmWordForms53_ok
def hWordForms54 : HE := ⟨9, [(.sl 0 0 0 1 none 1),(.sl 1 0 0 0 (some 0) 1)], [bwordForms15, bwordForms30], [((.val eB0), [])]⟩
theorem hWordForms54_ok : HOk Tryd.prog hWordForms54 := hok_eq mmWordForms_ok hmWordForms54_ok folWordForms (lf := 100000) (k := 1000) (by kernel_rfl)
def hmWordForms55 : List HE := hWordForms54 :: hmWordForms54
theorem hmWordForms55_ok : ∀ x ∈ hmWordForms55, HOk Tryd.prog x := hmemo_cons hWordForms54_ok hmWordForms54_ok
def hWordForms55 : HE := ⟨49, [(.ptr 0 0 0),(.sl 6 0 0 1 none 1)], [bwordForms33, bwordForms34, bwordForms12, bwordForms16, bwordForms30, bwordForms35, bwordForms16], [((.val (.tup [(.sl 7 0 0 1 none 1),eB1])), [bwordForms16])]⟩
theorem hWordForms55_ok : HOk Tryd.prog hWordForms55 := hok_eq mmWordForms_ok hmWordForms55_ok folWordForms (lf := 100000) (k := 1000) (by kernel_rfl)
def hmWordForms56 : List HE := hWordForms55 :: hmWordForms55
theorem hmWordForms56_ok : ∀ x ∈ hmWordForms56, HOk Tryd.prog x := hmemo_cons hWordForms55_ok hmWordForms55_ok
def hWordForms56 : HE := ⟨9, [(.sl 0 0 0 1 none 1),(.sl 1 0 0 0 (some 0) 1)], [bwordForms16, bwordForms30], [((.val eB0), [])]⟩
theorem hWordForms56_ok : HOk Tryd.prog hWordForms56 := hok_eq mmWordForms_ok hmWordForms56_ok folWordForms (lf := 100000) (k := 1000) (by kernel_rfl)
def hmWordForms57 : List HE := hWordForms56 :: hmWordForms56
theorem hmWordForms57_ok : ∀ x ∈ hmWordForms57, HOk Tryd.prog x := hmemo_cons hWordForms56_ok hmWordForms56_ok
def hWordForms57 : HE := ⟨49, [(.ptr 0 0 0),(.lit (.slice none 0 0))], [bwordForms33, bwordForms34, bwordForms12, bwordForms16, bwordForms30, bwordForms35], [((.val (.tup [(.sl 6 0 0 0 (some 0) 1),eB1])), [bwordForms30])]⟩
theorem hWordForms57_ok : HOk Tryd.prog hWordForms57 := hok_eq mmWordForms_ok hmWordForms57_ok folWordForms (lf := 100000) (k := 1000) (by kernel_rfl)
def hmWordForms58 : List HE := hWordForms57 :: hmWordForms57
theorem hmWordForms58_ok : ∀ x ∈ hmWordForms58, HOk Tryd.prog x := hmemo_cons hWordForms57_ok hmWordForms57_ok
def hWordForms58 : HE := ⟨9, [(.sl 0 0 0 0 (some 0) 1),(.sl 1 0 0 0 (some 0) 1)], [bwordForms30, bwordForms30], [((.val eB0), [])]⟩
theorem hWordForms58_ok : HOk Tryd.prog hWordForms58 := hok_eq mmWordForms_ok hmWordForms58_ok folWordForms (lf := 100000) (k := 1000) (by kernel_rfl)
def hmWordForms59 : List HE := hWordForms58 :: hmWordForms58
theorem hmWordForms59_ok : ∀ x ∈ hmWordForms59, HOk Tryd.prog x := hmemo_cons hWordForms58_ok hmWordForms58_ok
def hWordForms59 : HE := ⟨49, [(.ptr 0 0 0),(.sl 6 1 0 2 none 1)], [bwordForms33, bwordForms34, bwordForms12, bwordForms16, bwordForms30, bwordForms35, bwordForms17], [((.val (.tup [(.lit (.slice none 0 0)),eB0])), [])]⟩
theorem hWordForms59_ok : HOk Tryd.prog hWordForms59 := hok_eq mmWordForms_ok hmWordForms59_ok folWordForms (lf := 100000) (k := 1000) (by kernel_rfl)
def hmWordForms60 : List HE := hWordForms59 :: hmWordForms59
theorem hmWordForms60_ok : ∀ x ∈ hmWordForms60, HOk Tryd.prog x := hmemo_cons hWordForms59_ok hmWordForms59_ok
def bwordForms36 : Blk := ⟨[(eI 2),(eI 2)],3,[(1,2),(0,1)],2,0,false,1,none⟩
def hWordForms60 : HE := ⟨49, [(.ptr 0 0 0),(.sl 6 1 0 2 none 1)], [bwordForms33, bwordForms34, bwordForms12, bwordForms16, bwordForms30, bwordForms35, bwordForms11], [((.val (.tup [(.sl 7 1 0 2 none 1),eB1])), [bwordForms36])]⟩
theorem hWordForms60_ok : HOk Tryd.prog hWordForms60 := hok_eq mmWordForms_ok hmWordForms60_ok folWordForms (lf := 100000) (k := 1000) (by kernel_rfl)
def hmWordForms61 : List HE := hWordForms60 :: hmWordForms60
theorem hmWordForms61_ok : ∀ x ∈ hmWordForms61, HOk Tryd.prog x := hmemo_cons hWordForms60_ok hmWordForms60_ok
def hWordForms61 : HE := ⟨9, [(.sl 0 1 0 2 none 1),(.sl 1 0 0 1 none 1)], [bwordForms36, bwordForms12], [((.val eB0), [])]⟩
theorem hWordForms61_ok : HOk Tryd.prog hWordForms61 := hok_eq mmWordForms_ok hmWordForms61_ok folWordForms (lf := 100000) (k := 1000) (by kernel_rfl)
def hmWordForms62 : List HE := hWordForms61 :: hmWordForms61
theorem hmWordForms62_ok : ∀ x ∈ hmWordForms62, HOk Tryd.prog x := hmemo_cons hWordForms61_ok hmWordForms61_ok
def bwordForms37 : Blk := ⟨[(.sl 1 0 0 5 (some 5) 1),(.sl 6 0 0 5 (some 5) 1)],75,[(0,2)],1,0,false,0,none⟩
def bwordForms38 : Blk := ⟨[(.sl 2 0 0 1 none 1),(.sl 3 0 0 1 none 1),(.sl 4 0 0 0 (some 0) 1),(.lit (.slice none 0 0)),(.sl 5 1 0 2 none 1)],22,[(0,5)],1,0,false,6,none⟩
def bwordForms39 : Blk := ⟨[eB1,eB1,eB1,eB0,eB1],4,[(0,5)],1,0,false,6,none⟩
def hWordForms62 : HE := ⟨49, [(.ptr 0 0 0),(.sl 7 0 0 1 none 1)], [bwordForms37, bwordForms38, bwordForms12, bwordForms16, bwordForms30, bwordForms36, bwordForms39, bwordForms12], [((.val (.tup [(.sl 8 0 0 1 none 1),eB1])), [bwordForms12])]⟩
theorem hWordForms62_ok : HOk Tryd.prog hWordForms62 := hok_eq mmWordForms_ok hmWordForms62_ok folWordForms (lf := 100000) (k := 1000) (by kernel_rfl)
def hmWordForms63 : List HE := hWordForms62 :: hmWordForms62
theorem hmWordForms63_ok : ∀ x ∈ hmWordForms63, HOk Tryd.prog x := hmemo_cons hWordForms62_ok hmWordForms62_ok
def hWordForms63 : HE := ⟨49, [(.ptr 0 0 0),(.sl 7 1 0 2 none 1)], [bwordForms37, bwordForms38, bwordForms12, bwordForms16, bwordForms30, bwordForms36, bwordForms39, bwordForms13], [((.val (.tup [(.sl 8 0 0 1 none 1),eB1])), [bwordForms16])]⟩
theorem hWordForms63_ok : HOk Tryd.prog hWordForms63 := hok_eq mmWordForms_ok hmWordForms63_ok folWordForms (lf := 100000) (k := 1000) (by kernel_rfl)
def hmWordForms64 : List HE := hWordForms63 :: hmWordForms63
theorem hmWordForms64_ok : ∀ x ∈ hmWordForms64, HOk Tryd.prog x := hmemo_cons hWordForms63_ok hmWordForms63_ok
def hWordForms64 : HE := ⟨9, [(.sl 0 0 0 1 none 1),(.sl 1 0 0 1 none 1)], [bwordForms16, bwordForms16], [((.val eB0), [])]⟩
theorem hWordForms64_ok : HOk Tryd.prog hWordForms64 := hok_eq mmWordForms_ok hmWordForms64_ok folWordForms (lf := 100000) (k := 1000) (by kernel_rfl)
def hmWordForms65 : List HE := hWordForms64 :: hmWordForms64
theorem hmWordForms65_ok : ∀ x ∈ hmWordForms65, HOk Tryd.prog x := hmemo_cons hWordForms64_ok hmWordForms64_ok
def hWordForms65 : HE := ⟨49, [(.ptr 0 0 0),(.sl 7 1 0 2 none 1)], [bwordForms37, bwordForms38, bwordForms12, bwordForms16, bwordForms30, bwordForms36, bwordForms39, bwordForms14], [((.val (.tup [(.sl 8 0 0 1 none 1),eB1])), [bwordForms15])]⟩
theorem hWordForms65_ok : HOk Tryd.prog hWordForms65 := hok_eq mmWordForms_ok hmWordForms65_ok folWordForms (lf := 100000) (k := 1000) (by kernel_rfl)
def hmWordForms66 : List HE := hWordForms65 :: hmWordForms65
theorem hmWordForms66_ok : ∀ x ∈ hmWordForms66, HOk Tryd.prog x := hmemo_cons hWordForms65_ok hmWordForms65_ok
def hWordForms66 : HE := ⟨49, [(.ptr 0 0 0),(.sl 7 0 0 1 none 1)], [bwordForms37, bwordForms38, bwordForms12, bwordForms16, bwordForms30, bwordForms36, bwordForms39, bwordForms15], [((.val (.tup [(.sl 8 0 0 1 none 1),eB1])), [bwordForms15])]⟩
theorem hWordForms66_ok : HOk Tryd.prog hWordForms66 := hok_eq mmWordForms_ok hmWordForms66_ok folWordForms (lf := 100000) (k := 1000) (by kernel_rfl)
def hmWordForms67 : List HE := hWordForms66 :: hmWordForms66
theorem hmWordForms67_ok : ∀ x ∈ hmWordForms67, HOk Tryd.prog x := hmemo_cons hWordForms66_ok hmWordForms66_ok
def hWordForms67 : HE := ⟨49, [(.ptr 0 0 0),(.sl 7 0 0 1 none 1)], [bwordForms37, bwordForms38, bwordForms12, bwordForms16, bwordForms30, bwordForms36, bwordForms39, bwordForms16], [((.val (.tup [(.sl 8 0 0 1 none 1),eB1])), [bwordForms16])]⟩
theorem hWordForms67_ok : HOk Tryd.prog hWordForms67 := hok_eq mmWordForms_ok hmWordForms67_ok folWordForms (lf := 100000) (k := 1000) (by kernel_rfl)
def hmWordForms68 : List HE := hWordForms67 :: hmWordForms67
theorem hmWordForms68_ok : ∀ x ∈ hmWordForms68, HOk Tryd.prog x := hmemo_cons hWordForms67_ok hmWordForms67_ok
def hWordForms68 : HE := ⟨49, [(.ptr 0 0 0),(.lit (.slice none 0 0))], [bwordForms37, bwordForms38, bwordForms12, bwordForms16, bwordForms30, bwordForms36, bwordForms39], [((.val (.tup [(.sl 7 0 0 0 (some 0) 1),eB1])), [bwordForms30])]⟩
theorem hWordForms68_ok : HOk Tryd.prog hWordForms68 := hok_eq mmWordForms_ok hmWordForms68_ok folWordForms (lf := 100000) (k := 1000) (by kernel_rfl)
def hmWordForms69 : List HE := hWordForms68 :: hmWordForms68
theorem hmWordForms69_ok : ∀ x ∈ hmWordForms69, HOk Tryd.prog x := hmemo_cons hWordForms68_ok hmWordForms68_ok
def hWordForms69 : HE := ⟨49, [(.ptr 0 0 0),(.sl 7 1 0 2 none 1)], [bwordForms37, bwordForms38, bwordForms12, bwordForms16, bwordForms30, bwordForms36, bwordForms39, bwordForms17], [((.val (.tup [(.lit (.slice none 0 0)),eB0])), [])]⟩
theorem hWordForms69_ok : HOk Tryd.prog hWordForms69 := hok_eq mmWordForms_ok hmWordForms69_ok folWordForms (lf := 100000) (k := 1000) (by kernel_rfl)
def hmWordForms70 : List HE := hWordForms69 :: hmWordForms69
theorem hmWordForms70_ok : ∀ x ∈ hmWordForms70, HOk Tryd.prog x := hmemo_cons hWordForms69_ok hmWordForms69_ok
def hWordForms70 : HE := ⟨49, [(.ptr 0 0 0),(.sl 7 1 0 2 none 1)], [bwordForms37, bwordForms38, bwordForms12, bwordForms16, bwordForms30, bwordForms36, bwordForms39, bwordForms11], [((.val (.tup [(.sl 8 1 0 2 none 1),eB1])), [bwordForms36])]⟩
theorem hWordForms70_ok : HOk Tryd.prog hWordForms70 := hok_eq mmWordForms_ok hmWordForms70_ok folWordForms (lf := 100000) (k := 1000) (by kernel_rfl)
def hmWordForms71 : List HE := hWordForms70 :: hmWordForms70
theorem hmWordForms71_ok : ∀ x ∈ hmWordForms71, HOk Tryd.prog x := hmemo_cons hWordForms70_ok hmWordForms70_ok
def hWordForms71 : HE := ⟨9, [(.sl 0 1 0 2 none 1),(.sl 1 1 0 2 none 1)], [bwordForms36, bwordForms36], [((.val eB0), [])]⟩
theorem hWordForms71_ok : HOk Tryd.prog hWordForms71 := hok_eq mmWordForms_ok hmWordForms71_ok folWordForms (lf := 100000) (k := 1000) (by kernel_rfl)
def hmWordForms72 : List HE := hWordForms71 :: hmWordForms71
theorem hmWordForms72_ok : ∀ x ∈ hmWordForms72, HOk Tryd.prog x := hmemo_cons hWordForms71_ok hmWordForms71_ok
def bwordForms40 : Blk := ⟨[(.sl 12 0 0 5 (some 5) 1),(.sl 17 0 0 5 (some 5) 1)],75,[(0,2)],1,0,false,0,none⟩
def bwordForms41 : Blk := ⟨[(.sl 13 0 0 1 none 1),(.sl 14 0 0 1 none 1),(.sl 15 0 0 0 (some 0) 1),(.lit (.slice none 0 0)),(.sl 16 1 0 2 none 1)],22,[(0,5)],1,0,false,6,none⟩
def hWordForms72 : HE := ⟨32, [(.agg [(.sl 0 2 0 3 none 1),(.sl 1 4 0 5 none 1),(.sl 2 8 0 9 none 2)])], [bwordForms8, bwordForms9, bwordForms18, bwordForms11, bwordForms12, bwordForms13, bwordForms14, bwordForms15, bwordForms16, bwordForms17, bwordForms11], [((.val (.ptr 11 0 0)), [bwordForms40, bwordForms41, bwordForms12, bwordForms16, bwordForms30, bwordForms36, bwordForms39])]⟩
theorem hWordForms72_ok : HOk Tryd.prog hWordForms72 := hok_eq mmWordForms_ok hmWordForms72_ok folWordForms (lf := 100000) (k := 1000) (by kernel_rfl)
def hmWordForms73 : List HE := hWordForms72 :: hmWordForms72
theorem hmWordForms73_ok : ∀ x ∈ hmWordForms73, HOk Tryd.prog x := hmemo_cons hWordForms72_ok hmWordForms72_ok
def bwordForms42 : Blk := ⟨[(.sl 12 0 0 1 none 1),(.sl 13 0 0 1 none 1),(.sl 14 0 0 0 (some 0) 1),(.lit (.slice none 0 0)),(.sl 15 1 0 2 none 1)],22,[(0,5)],1,0,false,6,none⟩
def hWordForms73 : HE := ⟨15, [(.agg [(.sl 0 2 0 3 none 1),(.sl 1 4 0 5 none 1),(.sl 2 8 0 9 none 2)])], [bwordForms8, bwordForms9, bwordForms18, bwordForms11, bwordForms12, bwordForms13, bwordForms14, bwordForms15, bwordForms16, bwordForms17, bwordForms11], [((.val (.tup [(.sl 11 0 0 5 (some 5) 1),(eI 0)])), [bwordForms42, bwordForms12, bwordForms16, bwordForms30, bwordForms36])]⟩
theorem hWordForms73_ok : HOk Tryd.prog hWordForms73 := hok_eq mmWordForms_ok hmWordForms73_ok folWordForms (lf := 100000) (k := 1000) (by kernel_rfl)
def hmWordForms74 : List HE := hWordForms73 :: hmWordForms73
theorem hmWordForms74_ok : ∀ x ∈ hmWordForms74, HOk Tryd.prog x := hmemo_cons hWordForms73_ok hmWordForms73_ok
def bwordForms43 : Blk := ⟨[(eI 103),(.sl 3 1 0 2 none 1),(eI 100),(.sl 4 0 0 1 none 1),(eI 101),(.sl 5 1 0 2 none 1),(eI 101),(.sl 6 1 0 2 none 1),(eI 102),(.sl 7 0 0 1 none 1),(eI 102),(.sl 8 0 0 1 none 1),(eI 102),(.lit (.slice none 0 0)),(eI 100),(.sl 9 1 0 2 none 1),(eI 104),(.sl 10 1 0 2 none 1)],37,[(8,18)],9,0,false,10,none⟩
def hWordForms74 : HE := ⟨45, [(.agg [(.sl 0 2 0 3 none 1),(.sl 1 4 0 5 none 1),(.sl 2 8 0 9 none 2)])], [bwordForms8, bwordForms9, bwordForms43, bwordForms17, bwordForms12, bwordForms13, bwordForms14, bwordForms15, bwordForms16, bwordForms11, bwordForms11], [((.val eB1), [])]⟩
theorem hWordForms74_ok : HOk Tryd.prog hWordForms74 := hok_eq mmWordForms_ok hmWordForms74_ok folWordForms (lf := 100000) (k := 1000) (by kernel_rfl)
def hmWordForms75 : List HE := hWordForms74 :: hmWordForms74
theorem hmWordForms75_ok : ∀ x ∈ hmWordForms75, HOk Tryd.prog x := hmemo_cons hWordForms74_ok hmWordForms74_ok
def hWordForms75 : HE := ⟨46, [(.agg [(.sl 0 2 0 3 none 1),(.sl 1 4 0 5 none 1),(.sl 2 8 0 9 none 2)])], [bwordForms8, bwordForms9, bwordForms43, bwordForms17, bwordForms12, bwordForms13, bwordForms14, bwordForms15, bwordForms16, bwordForms11, bwordForms11], [((.val eB1), [])]⟩
theorem hWordForms75_ok : HOk Tryd.prog hWordForms75 := hok_eq mmWordForms_ok hmWordForms75_ok folWordForms (lf := 100000) (k := 1000) (by kernel_rfl)
def hmWordForms76 : List HE := hWordForms75 :: hmWordForms75
theorem hmWordForms76_ok : ∀ x ∈ hmWordForms76, HOk Tryd.prog x := hmemo_cons hWordForms75_ok hmWordForms75_ok
def hWordForms76 : HE := ⟨31, [(.agg [(.sl 0 2 0 3 none 1),(.sl 1 4 0 5 none 1),(.sl 2 8 0 9 none 2)])], [bwordForms8, bwordForms9, bwordForms43, bwordForms17, bwordForms12, bwordForms13, bwordForms14, bwordForms15, bwordForms16, bwordForms11, bwordForms11], [((.val (eI 0)), [])]⟩
theorem hWordForms76_ok : HOk Tryd.prog hWordForms76 := hok_eq mmWordForms_ok hmWordForms76_ok folWordForms (lf := 100000) (k := 1000) (by kernel_rfl)
def hmWordForms77 : List HE := hWordForms76 :: hmWordForms76
theorem hmWordForms77_ok : ∀ x ∈ hmWordForms77, HOk Tryd.prog x := hmemo_cons hWordForms76_ok hmWordForms76_ok
def hWordForms77 : HE := ⟨49, [(.ptr 0 0 0),(.sl 3 1 0 2 none 1)], [bwordForms19, bwordForms20, bwordForms21, bwordForms17], [((.val (.tup [(.lit (.slice none 0 0)),eB0])), [])]⟩
theorem hWordForms77_ok : HOk Tryd.prog hWordForms77 := hok_eq mmWordForms_ok hmWordForms77_ok folWordForms (lf := 100000) (k := 1000) (by kernel_rfl)
def hmWordForms78 : List HE := hWordForms77 :: hmWordForms77
theorem hmWordForms78_ok : ∀ x ∈ hmWordForms78, HOk Tryd.prog x := hmemo_cons hWordForms77_ok hmWordForms77_ok
def hWordForms78 : HE := ⟨32, [(.agg [(.sl 0 2 0 3 none 1),(.sl 1 4 0 5 none 1),(.sl 2 8 0 9 none 2)])], [bwordForms8, bwordForms9, bwordForms43, bwordForms17, bwordForms12, bwordForms13, bwordForms14, bwordForms15, bwordForms16, bwordForms11, bwordForms11], [((.val (.ptr 11 0 0)), [bwordForms40, bwordForms41, bwordForms12, bwordForms16, bwordForms30, bwordForms36, bwordForms39])]⟩
theorem hWordForms78_ok : HOk Tryd.prog hWordForms78 := hok_eq mmWordForms_ok hmWordForms78_ok folWordForms (lf := 100000) (k := 1000) (by kernel_rfl)
def hmWordForms79 : List HE := hWordForms78 :: hmWordForms78
theorem hmWordForms79_ok : ∀ x ∈ hmWordForms79, HOk Tryd.prog x := hmemo_cons hWordForms78_ok hmWordForms78_ok
def hWordForms79 : HE := ⟨15, [(.agg [(.sl 0 2 0 3 none 1),(.sl 1 4 0 5 none 1),(.sl 2 8 0 9 none 2)])], [bwordForms8, bwordForms9, bwordForms43, bwordForms17, bwordForms12, bwordForms13, bwordForms14, bwordForms15, bwordForms16, bwordForms11, bwordForms11], [((.val (.tup [(.sl 11 0 0 5 (some 5) 1),(eI 0)])), [bwordForms42, bwordForms12, bwordForms16, bwordForms30, bwordForms36])]⟩
theorem hWordForms79_ok : HOk Tryd.prog hWordForms79 := hok_eq mmWordForms_ok hmWordForms79_ok folWordForms (lf := 100000) (k := 1000) (by kernel_rfl)
def hmWordForms80 : List HE := hWordForms79 :: hmWordForms79
theorem hmWordForms80_ok : ∀ x ∈ hmWordForms80, HOk Tryd.prog x := hmemo_cons hWordForms79_ok hmWordForms79_ok
def bwordForms44 : Blk := ⟨[(eI 102),(.lit (.slice none 0 0)),(eI 100),(.sl 3 0 0 1 none 1),(eI 101),(.sl 4 1 0 2 none 1),(eI 101),(.sl 5 1 0 2 none 1),(eI 102),(.sl 6 0 0 1 none 1),(eI 102),(.sl 7 0 0 1 none 1),(eI 100),(.sl 8 1 0 2 none 1),(eI 103),(.sl 9 1 0 2 none 1),(eI 104),(.sl 10 1 0 2 none 1)],37,[(8,18)],9,0,false,10,none⟩
def hWordForms80 : HE := ⟨45, [(.agg [(.sl 0 2 0 3 none 1),(.sl 1 4 0 5 none 1),(.sl 2 8 0 9 none 2)])], [bwordForms8, bwordForms9, bwordForms44, bwordForms12, bwordForms13, bwordForms14, bwordForms15, bwordForms16, bwordForms11, bwordForms17, bwordForms11], [((.val eB1), [])]⟩
theorem hWordForms80_ok : HOk Tryd.prog hWordForms80 := hok_eq mmWordForms_ok hmWordForms80_ok folWordForms (lf := 100000) (k := 1000) (by kernel_rfl)
def hmWordForms81 : List HE := hWordForms80 :: hmWordForms80
theorem hmWordForms81_ok : ∀ x ∈ hmWordForms81, HOk Tryd.prog x := hmemo_cons hWordForms80_ok hmWordForms80_ok
def hWordForms81 : HE := ⟨46, [(.agg [(.sl 0 2 0 3 none 1),(.sl 1 4 0 5 none 1),(.sl 2 8 0 9 none 2)])], [bwordForms8, bwordForms9, bwordForms44, bwordForms12, bwordForms13, bwordForms14, bwordForms15, bwordForms16, bwordForms11, bwordForms17, bwordForms11], [((.val eB1), [])]⟩
theorem hWordForms81_ok : HOk Tryd.prog hWordForms81 := hok_eq mmWordForms_ok hmWordForms81_ok folWordForms (lf := 100000) (k := 1000) (by kernel_rfl)
def hmWordForms82 : List HE := hWordForms81 :: hmWordForms81
theorem hmWordForms82_ok : ∀ x ∈ hmWordForms82, HOk Tryd.prog x := hmemo_cons hWordForms81_ok hmWordForms81_ok
def hWordForms82 : HE := ⟨31, [(.agg [(.sl 0 2 0 3 none 1),(.sl 1 4 0 5 none 1),(.sl 2 8 0 9 none 2)])], [bwordForms8, bwordForms9, bwordForms44, bwordForms12, bwordForms13, bwordForms14, bwordForms15, bwordForms16, bwordForms11, bwordForms17, bwordForms11], [((.val (eI 0)), [])]⟩
theorem hWordForms82_ok : HOk Tryd.prog hWordForms82 := hok_eq mmWordForms_ok hmWordForms82_ok folWordForms (lf := 100000) (k := 1000) (by kernel_rfl)
def hmWordForms83 : List HE := hWordForms82 :: hmWordForms82
theorem hmWordForms83_ok : ∀ x ∈ hmWordForms83, HOk Tryd.prog x := hmemo_cons hWordForms82_ok hmWordForms82_ok
def hWordForms83 : HE := ⟨49, [(.ptr 0 0 0),(.lit (.slice none 0 0))], [bwordForms19, bwordForms20, bwordForms21], [((.val (.tup [(.sl 3 0 0 0 (some 0) 1),eB1])), [bwordForms30])]⟩
theorem hWordForms83_ok : HOk Tryd.prog hWordForms83 := hok_eq mmWordForms_ok hmWordForms83_ok folWordForms (lf := 100000) (k := 1000) (by kernel_rfl)
def hmWordForms84 : List HE := hWordForms83 :: hmWordForms83
theorem hmWordForms84_ok : ∀ x ∈ hmWordForms84, HOk Tryd.prog x := hmemo_cons hWordForms83_ok hmWordForms83_ok
def bwordForms45 : Blk := ⟨[(.lit (.slice none 0 0)),(.lit (.slice none 0 0)),(.sl 2 0 0 0 (some 0) 1),(.lit (.slice none 0 0)),(.lit (.slice none 0 0))],22,[(0,5)],1,0,false,1,none⟩
def bwordForms46 : Blk := ⟨[eB0,eB0,eB1,eB0,eB0],4,[(0,5)],1,0,false,1,none⟩
def hWordForms84 : HE := ⟨49, [(.ptr 0 0 0),(.sl 4 0 0 1 none 1)], [bwordForms22, bwordForms45, bwordForms30, bwordForms46, bwordForms12], [((.val (.tup [(.sl 5 0 0 1 none 1),eB1])), [bwordForms12])]⟩
theorem hWordForms84_ok : HOk Tryd.prog hWordForms84 := hok_eq mmWordForms_ok hmWordForms84_ok folWordForms (lf := 100000) (k := 1000) (by kernel_rfl)
def hmWordForms85 : List HE := hWordForms84 :: hmWordForms84
theorem hmWordForms85_ok : ∀ x ∈ hmWordForms85, HOk Tryd.prog x := hmemo_cons hWordForms84_ok hmWordForms84_ok
def bwordForms47 : Blk := ⟨[(.sl 13 0 0 1 none 1),(.sl 14 0 0 1 none 1),(.sl 15 0 0 0 (some 0) 1),(.lit (.slice none 0 0)),(.sl 16 1 0 2 none 1)],22,[(0,5)],1,0,false,4,none⟩
def bwordForms48 : Blk := ⟨[eB1,eB1,eB1,eB0,eB1],4,[(0,5)],1,0,false,4,none⟩
def hWordForms85 : HE := ⟨32, [(.agg [(.sl 0 2 0 3 none 1),(.sl 1 4 0 5 none 1),(.sl 2 8 0 9 none 2)])], [bwordForms8, bwordForms9, bwordForms44, bwordForms12, bwordForms13, bwordForms14, bwordForms15, bwordForms16, bwordForms11, bwordForms17, bwordForms11], [((.val (.ptr 11 0 0)), [bwordForms40, bwordForms47, bwordForms12, bwordForms16, bwordForms30, bwordForms36, bwordForms48])]⟩
theorem hWordForms85_ok : HOk Tryd.prog hWordForms85 := hok_eq mmWordForms_ok hmWordForms85_ok folWordForms (lf := 100000) (k := 1000) (by kernel_rfl)
def hmWordForms86 : List HE := hWordForms85 :: hmWordForms85
theorem hmWordForms86_ok : ∀ x ∈ hmWordForms86, HOk Tryd.prog x := hmemo_cons hWordForms85_ok hmWordForms85_ok
def bwordForms49 : Blk := ⟨[(.sl 12 0 0 1 none 1),(.sl 13 0 0 1 none 1),(.sl 14 0 0 0 (some 0) 1),(.lit (.slice none 0 0)),(.sl 15 1 0 2 none 1)],22,[(0,5)],1,0,false,4,none⟩
def hWordForms86 : HE := ⟨15, [(.agg [(.sl 0 2 0 3 none 1),(.sl 1 4 0 5 none 1),(.sl 2 8 0 9 none 2)])], [bwordForms8, bwordForms9, bwordForms44, bwordForms12, bwordForms13, bwordForms14, bwordForms15, bwordForms16, bwordForms11, bwordForms17, bwordForms11], [((.val (.tup [(.sl 11 0 0 5 (some 5) 1),(eI 0)])), [bwordForms49, bwordForms12, bwordForms16, bwordForms30, bwordForms36])]⟩
theorem hWordForms86_ok : HOk Tryd.prog hWordForms86 := hok_eq mmWordForms_ok hmWordForms86_ok folWordForms (lf := 100000) (k := 1000) (by kernel_rfl)
def hmWordForms87 : List HE := hWordForms86 :: hmWordForms86
theorem hmWordForms87_ok : ∀ x ∈ hmWordForms87, HOk Tryd.prog x := hmemo_cons hWordForms86_ok hmWordForms86_ok
def bwordForms50 : Blk := ⟨[(eI 102),(.sl 3 0 0 1 none 1),(eI 100),(.sl 4 0 0 1 none 1),(eI 101),(.sl 5 1 0 2 none 1),(eI 101),(.sl 6 1 0 2 none 1),(eI 102),(.sl 7 0 0 1 none 1),(eI 100),(.sl 8 1 0 2 none 1),(eI 102),(.lit (.slice none 0 0)),(eI 103),(.sl 9 1 0 2 none 1),(eI 104),(.sl 10 1 0 2 none 1)],37,[(8,18)],9,0,false,10,none⟩
def hWordForms87 : HE := ⟨45, [(.agg [(.sl 0 2 0 3 none 1),(.sl 1 4 0 5 none 1),(.sl 2 8 0 9 none 2)])], [bwordForms8, bwordForms9, bwordForms50, bwordForms16, bwordForms12, bwordForms13, bwordForms14, bwordForms15, bwordForms11, bwordForms17, bwordForms11], [((.val eB1), [])]⟩
theorem hWordForms87_ok : HOk Tryd.prog hWordForms87 := hok_eq mmWordForms_ok hmWordForms87_ok folWordForms (lf := 100000) (k := 1000) (by kernel_rfl)
def hmWordForms88 : List HE := hWordForms87 :: hmWordForms87
theorem hmWordForms88_ok : ∀ x ∈ hmWordForms88, HOk Tryd.prog x := hmemo_cons hWordForms87_ok hmWordForms87_ok
def hWordForms88 : HE := ⟨46, [(.agg [(.sl 0 2 0 3 none 1),(.sl 1 4 0 5 none 1),(.sl 2 8 0 9 none 2)])], [bwordForms8, bwordForms9, bwordForms50, bwordForms16, bwordForms12, bwordForms13, bwordForms14, bwordForms15, bwordForms11, bwordForms17, bwordForms11], [((.val eB1), [])]⟩
theorem hWordForms88_ok : HOk Tryd.prog hWordForms88 := hok_eq mmWordForms_ok hmWordForms88_ok folWordForms (lf := 100000) (k := 1000) (by kernel_rfl)
def hmWordForms89 : List HE := hWordForms88 :: hmWordForms88
theorem hmWordForms89_ok : ∀ x ∈ hmWordForms89, HOk Tryd.prog x := hmemo_cons hWordForms88_ok hmWordForms88_ok
def hWordForms89 : HE := ⟨31, [(.agg [(.sl 0 2 0 3 none 1),(.sl 1 4 0 5 none 1),(.sl 2 8 0 9 none 2)])], [bwordForms8, bwordForms9, bwordForms50, bwordForms16, bwordForms12, bwordForms13, bwordForms14, bwordForms15, bwordForms11, bwordForms17, bwordForms11], [((.val (eI 0)), [])]⟩
theorem hWordForms89_ok : HOk Tryd.prog hWordForms89 := hok_eq mmWordForms_ok hmWordForms89_ok folWordForms (lf := 100000) (k := 1000) (by kernel_rfl)
def hmWordForms90 : List HE := hWordForms89 :: hmWordForms89
theorem hmWordForms90_ok : ∀ x ∈ hmWordForms90, HOk Tryd.prog x := hmemo_cons hWordForms89_ok hmWordForms89_ok
def hWordForms90 : HE := ⟨49, [(.ptr 0 0 0),(.sl 3 0 0 1 none 1)], [bwordForms19, bwordForms20, bwordForms21, bwordForms16], [((.val (.tup [(.sl 4 0 0 1 none 1),eB1])), [bwordForms16])]⟩
theorem hWordForms90_ok : HOk Tryd.prog hWordForms90 := hok_eq mmWordForms_ok hmWordForms90_ok folWordForms (lf := 100000) (k := 1000) (by kernel_rfl)
def hmWordForms91 : List HE := hWordForms90 :: hmWordForms90
theorem hmWordForms91_ok : ∀ x ∈ hmWordForms91, HOk Tryd.prog x := hmemo_cons hWordForms90_ok hmWordForms90_ok
def bwordForms51 : Blk := ⟨[(.lit (.slice none 0 0)),(.lit (.slice none 0 0)),(.sl 2 0 0 1 none 1),(.lit (.slice none 0 0)),(.lit (.slice none 0 0))],22,[(0,5)],1,0,false,1,none⟩
def hWordForms91 : HE := ⟨49, [(.ptr 0 0 0),(.sl 4 0 0 1 none 1)], [bwordForms22, bwordForms51, bwordForms16, bwordForms46, bwordForms12], [((.val (.tup [(.sl 5 0 0 1 none 1),eB1])), [bwordForms12])]⟩
theorem hWordForms91_ok : HOk Tryd.prog hWordForms91 := hok_eq mmWordForms_ok hmWordForms91_ok folWordForms (lf := 100000) (k := 1000) (by kernel_rfl)
def hmWordForms92 : List HE := hWordForms91 :: hmWordForms91
theorem hmWordForms92_ok : ∀ x ∈ hmWordForms92, HOk Tryd.prog x := hmemo_cons hWordForms91_ok hmWordForms91_ok
def hWordForms92 : HE := ⟨49, [(.ptr 0 0 0),(.sl 5 1 0 2 none 1)], [bwordForms25, bwordForms26, bwordForms12, bwordForms16, bwordForms27, bwordForms13], [((.val (.tup [(.sl 6 1 0 2 none 1),eB1])), [bwordForms36])]⟩
theorem hWordForms92_ok : HOk Tryd.prog hWordForms92 := hok_eq mmWordForms_ok hmWordForms92_ok folWordForms (lf := 100000) (k := 1000) (by kernel_rfl)
def hmWordForms93 : List HE := hWordForms92 :: hmWordForms92
theorem hmWordForms93_ok : ∀ x ∈ hmWordForms93, HOk Tryd.prog x := hmemo_cons hWordForms92_ok hmWordForms92_ok
def bwordForms52 : Blk := ⟨[(.sl 2 0 0 1 none 1),(.sl 3 1 0 2 none 1),(.sl 4 0 0 1 none 1),(.lit (.slice none 0 0)),(.lit (.slice none 0 0))],22,[(0,5)],1,0,false,3,none⟩
def bwordForms53 : Blk := ⟨[eB1,eB1,eB1,eB0,eB0],4,[(0,5)],1,0,false,3,none⟩
def bwordForms54 : Blk := ⟨[(eI 3),(eI 2)],3,[(1,2),(0,1)],2,0,false,1,none⟩
def hWordForms93 : HE := ⟨49, [(.ptr 0 0 0),(.sl 6 1 0 2 none 1)], [bwordForms33, bwordForms52, bwordForms12, bwordForms36, bwordForms16, bwordForms53, bwordForms14], [((.val (.tup [(.sl 7 1 0 2 none 1),eB1])), [bwordForms54])]⟩
theorem hWordForms93_ok : HOk Tryd.prog hWordForms93 := hok_eq mmWordForms_ok hmWordForms93_ok folWordForms (lf := 100000) (k := 1000) (by kernel_rfl)
def hmWordForms94 : List HE := hWordForms93 :: hmWordForms93
theorem hmWordForms94_ok : ∀ x ∈ hmWordForms94, HOk Tryd.prog x := hmemo_cons hWordForms93_ok hmWordForms93_ok
def hWordForms94 : HE := ⟨9, [(.sl 0 1 0 2 none 1),(.sl 1 1 0 2 none 1)], [bwordForms54, bwordForms36], [((.val eB0), [])]⟩
theorem hWordForms94_ok : HOk Tryd.prog hWordForms94 := hok_eq mmWordForms_ok hmWordForms94_ok folWordForms (lf := 100000) (k := 1000) (by kernel_rfl)
def hmWordForms95 : List HE := hWordForms94 :: hmWordForms94
theorem hmWordForms95_ok : ∀ x ∈ hmWordForms95, HOk Tryd.prog x := hmemo_cons hWordForms94_ok hmWordForms94_ok
def hWordForms95 : HE := ⟨49, [(.ptr 0 0 0),(.sl 6 0 0 1 none 1)], [bwordForms33, bwordForms52, bwordForms12, bwordForms36, bwordForms16, bwordForms53, bwordForms15], [((.val (.tup [(.sl 7 0 0 1 none 1),eB1])), [bwordForms15])]⟩
theorem hWordForms95_ok : HOk Tryd.prog hWordForms95 := hok_eq mmWordForms_ok hmWordForms95_ok folWordForms (lf := 100000) (k := 1000) (by kernel_rfl)
def hmWordForms96 : List HE := hWordForms95 :: hmWordForms95
theorem hmWordForms96_ok : ∀ x ∈ hmWordForms96, HOk Tryd.prog x := hmemo_cons hWordForms95_ok hmWordForms95_ok
def bwordForms55 : Blk := ⟨[(eI 2),(eI 2),(eI 2),(eI 2)],3,[(1,4),(0,2)],2,0,false,1,none⟩
def hWordForms96 : HE := ⟨49, [(.ptr 0 0 0),(.sl 6 1 0 2 none 1)], [bwordForms33, bwordForms52, bwordForms12, bwordForms36, bwordForms16, bwordForms53, bwordForms11], [((.val (.tup [(.sl 7 1 0 4 none 1),eB1])), [bwordForms55])]⟩
theorem hWordForms96_ok : HOk Tryd.prog hWordForms96 := hok_eq mmWordForms_ok hmWordForms96_ok folWordForms (lf := 100000) (k := 1000) (by kernel_rfl)
def hmWordForms97 : List HE := hWordForms96 :: hmWordForms96
theorem hmWordForms97_ok : ∀ x ∈ hmWordForms97, HOk Tryd.prog x := hmemo_cons hWordForms96_ok hmWordForms96_ok
def hWordForms97 : HE := ⟨9, [(.sl 0 1 0 4 none 1),(.sl 1 0 0 1 none 1)], [bwordForms55, bwordForms12], [((.val eB0), [])]⟩
theorem hWordForms97_ok : HOk Tryd.prog hWordForms97 := hok_eq mmWordForms_ok hmWordForms97_ok folWordForms (lf := 100000) (k := 1000) (by kernel_rfl)
def hmWordForms98 : List HE := hWordForms97 :: hmWordForms97
theorem hmWordForms98_ok : ∀ x ∈ hmWordForms98, HOk Tryd.prog x := hmemo_cons hWordForms97_ok hmWordForms97_ok
def hWordForms98 : HE := ⟨49, [(.ptr 0 0 0),(.lit (.slice none 0 0))], [bwordForms33, bwordForms52, bwordForms12, bwordForms36, bwordForms16, bwordForms53], [((.val (.tup [(.sl 6 0 0 0 (some 0) 1),eB1])), [bwordForms30])]⟩
theorem hWordForms98_ok : HOk Tryd.prog hWordForms98 := hok_eq mmWordForms_ok hmWordForms98_ok folWordForms (lf := 100000) (k := 1000) (by kernel_rfl)
def hmWordForms99 : List HE := hWordForms98 :: hmWordForms98
theorem hmWordForms99_ok : ∀ x ∈ hmWordForms99, HOk Tryd.prog x := hmemo_cons hWordForms98_ok hmWordForms98_ok
def bwordForms56 : Blk := ⟨[(.sl 2 0 0 1 none 1),(.sl 3 1 0 2 none 1),(.sl 4 0 0 0 (some 0) 1),(.lit (.slice none 0 0)),(.lit (.slice none 0 0))],22,[(0,5)],1,0,false,4,none⟩
def bwordForms57 : Blk := ⟨[eB1,eB1,eB1,eB0,eB0],4,[(0,5)],1,0,false,4,none⟩
def hWordForms99 : HE := ⟨49, [(.ptr 0 0 0),(.sl 6 1 0 2 none 1)], [bwordForms33, bwordForms56, bwordForms12, bwordForms36, bwordForms30, bwordForms57, bwordForms17], [((.val (.tup [(.lit (.slice none 0 0)),eB0])), [])]⟩
theorem hWordForms99_ok : HOk Tryd.prog hWordForms99 := hok_eq mmWordForms_ok hmWordForms99_ok folWordForms (lf := 100000) (k := 1000) (by kernel_rfl)
def hmWordForms100 : List HE := hWordForms99 :: hmWordForms99
theorem hmWordForms100_ok : ∀ x ∈ hmWordForms100, HOk Tryd.prog x := hmemo_cons hWordForms99_ok hmWordForms99_ok
def hWordForms100 : HE := ⟨49, [(.ptr 0 0 0),(.sl 6 1 0 2 none 1)], [bwordForms33, bwordForms56, bwordForms12, bwordForms36, bwordForms30, bwordForms57, bwordForms11], [((.val (.tup [(.sl 7 1 0 4 none 1),eB1])), [bwordForms55])]⟩
theorem hWordForms100_ok : HOk Tryd.prog hWordForms100 := hok_eq mmWordForms_ok hmWordForms100_ok folWordForms (lf := 100000) (k := 1000) (by kernel_rfl)
def hmWordForms101 : List HE := hWordForms100 :: hmWordForms100
theorem hmWordForms101_ok : ∀ x ∈ hmWordForms101, HOk Tryd.prog x := hmemo_cons hWordForms100_ok hmWordForms100_ok
def bwordForms58 : Blk := ⟨[(.sl 2 0 0 1 none 1),(.sl 3 1 0 2 none 1),(.sl 4 0 0 0 (some 0) 1),(.lit (.slice none 0 0)),(.sl 5 1 0 4 none 1)],22,[(0,5)],1,0,false,5,none⟩
def bwordForms59 : Blk := ⟨[eB1,eB1,eB1,eB0,eB1],4,[(0,5)],1,0,false,5,none⟩
def hWordForms101 : HE := ⟨49, [(.ptr 0 0 0),(.sl 7 0 0 1 none 1)], [bwordForms37, bwordForms58, bwordForms12, bwordForms36, bwordForms30, bwordForms55, bwordForms59, bwordForms16], [((.val (.tup [(.sl 8 0 0 1 none 1),eB1])), [bwordForms16])]⟩
theorem hWordForms101_ok : HOk Tryd.prog hWordForms101 := hok_eq mmWordForms_ok hmWordForms101_ok folWordForms (lf := 100000) (k := 1000) (by kernel_rfl)
def hmWordForms102 : List HE := hWordForms101 :: hmWordForms101
theorem hmWordForms102_ok : ∀ x ∈ hmWordForms102, HOk Tryd.prog x := hmemo_cons hWordForms101_ok hmWordForms101_ok
def hWordForms102 : HE := ⟨49, [(.ptr 0 0 0),(.sl 7 0 0 1 none 1)], [bwordForms37, bwordForms58, bwordForms12, bwordForms36, bwordForms30, bwordForms55, bwordForms59, bwordForms12], [((.val (.tup [(.sl 8 0 0 1 none 1),eB1])), [bwordForms12])]⟩
theorem hWordForms102_ok : HOk Tryd.prog hWordForms102 := hok_eq mmWordForms_ok hmWordForms102_ok folWordForms (lf := 100000) (k := 1000) (by kernel_rfl)
def hmWordForms103 : List HE := hWordForms102 :: hmWordForms102
theorem hmWordForms103_ok : ∀ x ∈ hmWordForms103, HOk Tryd.prog x := hmemo_cons hWordForms102_ok hmWordForms102_ok
def hWordForms103 : HE := ⟨49, [(.ptr 0 0 0),(.sl 7 1 0 2 none 1)], [bwordForms37, bwordForms58, bwordForms12, bwordForms36, bwordForms30, bwordForms55, bwordForms59, bwordForms13], [((.val (.tup [(.sl 8 0 0 1 none 1),eB1])), [bwordForms16])]⟩
theorem hWordForms103_ok : HOk Tryd.prog hWordForms103 := hok_eq mmWordForms_ok hmWordForms103_ok folWordForms (lf := 100000) (k := 1000) (by kernel_rfl)
def hmWordForms104 : List HE := hWordForms103 :: hmWordForms103
theorem hmWordForms104_ok : ∀ x ∈ hmWordForms104, HOk Tryd.prog x := hmemo_cons hWordForms103_ok hmWordForms103_ok
def hWordForms104 : HE := ⟨9, [(.sl 0 0 0 1 none 1),(.sl 1 1 0 2 none 1)], [bwordForms16, bwordForms36], [((.val eB1), [])]⟩
theorem hWordForms104_ok : HOk Tryd.prog hWordForms104 := hok_eq mmWordForms_ok hmWordForms104_ok folWordForms (lf := 100000) (k := 1000) (by kernel_rfl)
def hmWordForms105 : List HE := hWordForms104 :: hmWordForms104
theorem hmWordForms105_ok : ∀ x ∈ hmWordForms105, HOk Tryd.prog x := hmemo_cons hWordForms104_ok hmWordForms104_ok
def bwordForms60 : Blk := ⟨[(.sl 2 0 0 1 none 1),(.sl 3 0 0 1 none 1),(.sl 4 0 0 0 (some 0) 1),(.lit (.slice none 0 0)),(.sl 5 1 0 4 none 1)],22,[(0,5)],1,0,false,6,none⟩
def hWordForms105 : HE := ⟨49, [(.ptr 0 0 0),(.sl 7 1 0 2 none 1)], [bwordForms37, bwordForms60, bwordForms12, bwordForms16, bwordForms30, bwordForms55, bwordForms39, bwordForms14], [((.val (.tup [(.sl 8 0 0 1 none 1),eB1])), [bwordForms15])]⟩
theorem hWordForms105_ok : HOk Tryd.prog hWordForms105 := hok_eq mmWordForms_ok hmWordForms105_ok folWordForms (lf := 100000) (k := 1000) (by kernel_rfl)
def hmWordForms106 : List HE := hWordForms105 :: hmWordForms105
theorem hmWordForms106_ok : ∀ x ∈ hmWordForms106, HOk Tryd.prog x := hmemo_cons hWordForms105_ok hmWordForms105_ok
def hWordForms106 : HE := ⟨49, [(.ptr 0 0 0),(.sl 7 0 0 1 none 1)], [bwordForms37, bwordForms60, bwordForms12, bwordForms16, bwordForms30, bwordForms55, bwordForms39, bwordForms15], [((.val (.tup [(.sl 8 0 0 1 none 1),eB1])), [bwordForms15])]⟩
theorem hWordForms106_ok : HOk Tryd.prog hWordForms106 := hok_eq mmWordForms_ok hmWordForms106_ok folWordForms (lf := 100000) (k := 1000) (by kernel_rfl)
def hmWordForms107 : List HE := hWordForms106 :: hmWordForms106
theorem hmWordForms107_ok : ∀ x ∈ hmWordForms107, HOk Tryd.prog x := hmemo_cons hWordForms106_ok hmWordForms106_ok
def hWordForms107 : HE := ⟨49, [(.ptr 0 0 0),(.sl 7 1 0 2 none 1)], [bwordForms37, bwordForms60, bwordForms12, bwordForms16, bwordForms30, bwordForms55, bwordForms39, bwordForms11], [((.val (.tup [(.sl 8 1 0 2 none 1),eB1])), [bwordForms36])]⟩
theorem hWordForms107_ok : HOk Tryd.prog hWordForms107 := hok_eq mmWordForms_ok hmWordForms107_ok folWordForms (lf := 100000) (k := 1000) (by kernel_rfl)
def hmWordForms108 : List HE := hWordForms107 :: hmWordForms107
theorem hmWordForms108_ok : ∀ x ∈ hmWordForms108, HOk Tryd.prog x := hmemo_cons hWordForms107_ok hmWordForms107_ok
def hWordForms108 : HE := ⟨49, [(.ptr 0 0 0),(.lit (.slice none 0 0))], [bwordForms37, bwordForms60, bwordForms12, bwordForms16, bwordForms30, bwordForms55, bwordForms39], [((.val (.tup [(.sl 7 0 0 0 (some 0) 1),eB1])), [bwordForms30])]⟩
theorem hWordForms108_ok : HOk Tryd.prog hWordForms108 := hok_eq mmWordForms_ok hmWordForms108_ok folWordForms (lf := 100000) (k := 1000) (by kernel_rfl)
def hmWordForms109 : List HE := hWordForms108 :: hmWordForms108
theorem hmWordForms109_ok : ∀ x ∈ hmWordForms109, HOk Tryd.prog x := hmemo_cons hWordForms108_ok hmWordForms108_ok
def hWordForms109 : HE := ⟨49, [(.ptr 0 0 0),(.sl 7 1 0 2 none 1)], [bwordForms37, bwordForms60, bwordForms12, bwordForms16, bwordForms30, bwordForms55, bwordForms39, bwordForms17], [((.val (.tup [(.lit (.slice none 0 0)),eB0])), [])]⟩
theorem hWordForms109_ok : HOk Tryd.prog hWordForms109 := hok_eq mmWordForms_ok hmWordForms109_ok folWordForms (lf := 100000) (k := 1000) (by kernel_rfl)
def hmWordForms110 : List HE := hWordForms109 :: hmWordForms109
theorem hmWordForms110_ok : ∀ x ∈ hmWordForms110, HOk Tryd.prog x := hmemo_cons hWordForms109_ok hmWordForms109_ok
def hWordForms110 : HE := ⟨9, [(.sl 0 1 0 2 none 1),(.sl 1 1 0 4 none 1)], [bwordForms36, bwordForms55], [((.val eB1), [])]⟩
theorem hWordForms110_ok : HOk Tryd.prog hWordForms110 := hok_eq mmWordForms_ok hmWordForms110_ok folWordForms (lf := 100000) (k := 1000) (by kernel_rfl)
def hmWordForms111 : List HE := hWordForms110 :: hmWordForms110
theorem hmWordForms111_ok : ∀ x ∈ hmWordForms111, HOk Tryd.prog x := hmemo_cons hWordForms110_ok hmWordForms110_ok
def bwordForms61 : Blk := ⟨[(.sl 13 0 0 1 none 1),(.sl 14 0 0 1 none 1),(.sl 15 0 0 0 (some 0) 1),(.lit (.slice none 0 0)),(.sl 16 1 0 2 none 1)],22,[(0,5)],1,0,false,7,none⟩
def bwordForms62 : Blk := ⟨[eB1,eB1,eB1,eB0,eB1],4,[(0,5)],1,0,false,7,none⟩
def hWordForms111 : HE := ⟨32, [(.agg [(.sl 0 2 0 3 none 1),(.sl 1 4 0 5 none 1),(.sl 2 8 0 9 none 2)])], [bwordForms8, bwordForms9, bwordForms50, bwordForms16, bwordForms12, bwordForms13, bwordForms14, bwordForms15, bwordForms11, bwordForms17, bwordForms11], [((.val (.ptr 11 0 0)), [bwordForms40, bwordForms61, bwordForms12, bwordForms16, bwordForms30, bwordForms36, bwordForms62])]⟩
theorem hWordForms111_ok : HOk Tryd.prog hWordForms111 := hok_eq mmWordForms_ok hmWordForms111_ok folWordForms (lf := 100000) (k := 1000) (by kernel_rfl)
def hmWordForms112 : List HE := hWordForms111 :: hmWordForms111
theorem hmWordForms112_ok : ∀ x ∈ hmWordForms112, HOk Tryd.prog x := hmemo_cons hWordForms111_ok hmWordForms111_ok
def bwordForms63 : Blk := ⟨[(.sl 12 0 0 1 none 1),(.sl 13 0 0 1 none 1),(.sl 14 0 0 0 (some 0) 1),(.lit (.slice none 0 0)),(.sl 15 1 0 2 none 1)],22,[(0,5)],1,0,false,7,none⟩
def hWordForms112 : HE := ⟨15, [(.agg [(.sl 0 2 0 3 none 1),(.sl 1 4 0 5 none 1),(.sl 2 8 0 9 none 2)])], [bwordForms8, bwordForms9, bwordForms50, bwordForms16, bwordForms12, bwordForms13, bwordForms14, bwordForms15, bwordForms11, bwordForms17, bwordForms11], [((.val (.tup [(.sl 11 0 0 5 (some 5) 1),(eI 0)])), [bwordForms63, bwordForms12, bwordForms16, bwordForms30, bwordForms36])]⟩
theorem hWordForms112_ok : HOk Tryd.prog hWordForms112 := hok_eq mmWordForms_ok hmWordForms112_ok folWordForms (lf := 100000) (k := 1000) (by kernel_rfl)
def hmWordForms113 : List HE := hWordForms112 :: hmWordForms112
theorem hmWordForms113_ok : ∀ x ∈ hmWordForms113, HOk Tryd.prog x := hmemo_cons hWordForms112_ok hmWordForms112_ok
def bwordForms64 : Blk := ⟨[(eI 102),(.sl 3 0 0 1 none 1),(eI 100),(.sl 4 0 0 1 none 1),(eI 101),(.sl 5 1 0 2 none 1),(eI 101),(.sl 6 1 0 2 none 1),(eI 100),(.sl 7 1 0 2 none 1),(eI 102),(.sl 8 0 0 1 none 1),(eI 102),(.lit (.slice none 0 0)),(eI 103),(.sl 9 1 0 2 none 1),(eI 104),(.sl 10 1 0 2 none 1)],37,[(8,18)],9,0,false,10,none⟩
def hWordForms113 : HE := ⟨45, [(.agg [(.sl 0 2 0 3 none 1),(.sl 1 4 0 5 none 1),(.sl 2 8 0 9 none 2)])], [bwordForms8, bwordForms9, bwordForms64, bwordForms15, bwordForms12, bwordForms13, bwordForms14, bwordForms11, bwordForms16, bwordForms17, bwordForms11], [((.val eB1), [])]⟩
theorem hWordForms113_ok : HOk Tryd.prog hWordForms113 := hok_eq mmWordForms_ok hmWordForms113_ok folWordForms (lf := 100000) (k := 1000) (by kernel_rfl)
def hmWordForms114 : List HE := hWordForms113 :: hmWordForms113
theorem hmWordForms114_ok : ∀ x ∈ hmWordForms114, HOk Tryd.prog x := hmemo_cons hWordForms113_ok hmWordForms113_ok
def hWordForms114 : HE := ⟨46, [(.agg [(.sl 0 2 0 3 none 1),(.sl 1 4 0 5 none 1),(.sl 2 8 0 9 none 2)])], [bwordForms8, bwordForms9, bwordForms64, bwordForms15, bwordForms12, bwordForms13, bwordForms14, bwordForms11, bwordForms16, bwordForms17, bwordForms11], [((.val eB1), [])]⟩
theorem hWordForms114_ok : HOk Tryd.prog hWordForms114 := hok_eq mmWordForms_ok hmWordForms114_ok folWordForms (lf := 100000) (k := 1000) (by kernel_rfl)
def hmWordForms115 : List HE := hWordForms114 :: hmWordForms114
theorem hmWordForms115_ok : ∀ x ∈ hmWordForms115, HOk Tryd.prog x := hmemo_cons hWordForms114_ok hmWordForms114_ok
def hWordForms115 : HE := ⟨31, [(.agg [(.sl 0 2 0 3 none 1),(.sl 1 4 0 5 none 1),(.sl 2 8 0 9 none 2)])], [bwordForms8, bwordForms9, bwordForms64, bwordForms15, bwordForms12, bwordForms13, bwordForms14, bwordForms11, bwordForms16, bwordForms17, bwordForms11], [((.val (eI 0)), [])]⟩
theorem hWordForms115_ok : HOk Tryd.prog hWordForms115 := hok_eq mmWordForms_ok hmWordForms115_ok folWordForms (lf := 100000) (k := 1000) (by kernel_rfl)
def hmWordForms116 : List HE := hWordForms115 :: hmWordForms115
theorem hmWordForms116_ok : ∀ x ∈ hmWordForms116, HOk Tryd.prog x := hmemo_cons hWordForms115_ok hmWordForms115_ok
def hWordForms116 : HE := ⟨49, [(.ptr 0 0 0),(.sl 3 0 0 1 none 1)], [bwordForms19, bwordForms20, bwordForms21, bwordForms15], [((.val (.tup [(.sl 4 0 0 1 none 1),eB1])), [bwordForms15])]⟩
theorem hWordForms116_ok : HOk Tryd.prog hWordForms116 := hok_eq mmWordForms_ok hmWordForms116_ok folWordForms (lf := 100000) (k := 1000) (by kernel_rfl)
def hmWordForms117 : List HE := hWordForms116 :: hmWordForms116
theorem hmWordForms117_ok : ∀ x ∈ hmWordForms117, HOk Tryd.prog x := hmemo_cons hWordForms116_ok hmWordForms116_ok
def hWordForms117 : HE := ⟨49, [(.ptr 0 0 0),(.sl 4 0 0 1 none 1)], [bwordForms22, bwordForms51, bwordForms15, bwordForms46, bwordForms12], [((.val (.tup [(.sl 5 0 0 1 none 1),eB1])), [bwordForms12])]⟩
theorem hWordForms117_ok : HOk Tryd.prog hWordForms117 := hok_eq mmWordForms_ok hmWordForms117_ok folWordForms (lf := 100000) (k := 1000) (by kernel_rfl)
def hmWordForms118 : List HE := hWordForms117 :: hmWordForms117
theorem hmWordForms118_ok : ∀ x ∈ hmWordForms118, HOk Tryd.prog x := hmemo_cons hWordForms117_ok hmWordForms117_ok
def bwordForms65 : Blk := ⟨[(eI 2),(eI 3)],3,[(1,2),(0,1)],2,0,false,1,none⟩
def hWordForms118 : HE := ⟨49, [(.ptr 0 0 0),(.sl 5 1 0 2 none 1)], [bwordForms25, bwordForms26, bwordForms12, bwordForms15, bwordForms27, bwordForms13], [((.val (.tup [(.sl 6 1 0 2 none 1),eB1])), [bwordForms65])]⟩
theorem hWordForms118_ok : HOk Tryd.prog hWordForms118 := hok_eq mmWordForms_ok hmWordForms118_ok folWordForms (lf := 100000) (k := 1000) (by kernel_rfl)
def hmWordForms119 : List HE := hWordForms118 :: hmWordForms118
theorem hmWordForms119_ok : ∀ x ∈ hmWordForms119, HOk Tryd.prog x := hmemo_cons hWordForms118_ok hmWordForms118_ok
def bwordForms66 : Blk := ⟨[(eI 3),(eI 3)],3,[(1,2),(0,1)],2,0,false,1,none⟩
def hWordForms119 : HE := ⟨49, [(.ptr 0 0 0),(.sl 6 1 0 2 none 1)], [bwordForms33, bwordForms52, bwordForms12, bwordForms65, bwordForms15, bwordForms53, bwordForms14], [((.val (.tup [(.sl 7 1 0 2 none 1),eB1])), [bwordForms66])]⟩
theorem hWordForms119_ok : HOk Tryd.prog hWordForms119 := hok_eq mmWordForms_ok hmWordForms119_ok folWordForms (lf := 100000) (k := 1000) (by kernel_rfl)
def hmWordForms120 : List HE := hWordForms119 :: hmWordForms119
theorem hmWordForms120_ok : ∀ x ∈ hmWordForms120, HOk Tryd.prog x := hmemo_cons hWordForms119_ok hmWordForms119_ok
def hWordForms120 : HE := ⟨9, [(.sl 0 1 0 2 none 1),(.sl 1 1 0 2 none 1)], [bwordForms66, bwordForms65], [((.val eB0), [])]⟩
theorem hWordForms120_ok : HOk Tryd.prog hWordForms120 := hok_eq mmWordForms_ok hmWordForms120_ok folWordForms (lf := 100000) (k := 1000) (by kernel_rfl)
def hmWordForms121 : List HE := hWordForms120 :: hmWordForms120
theorem hmWordForms121_ok : ∀ x ∈ hmWordForms121, HOk Tryd.prog x := hmemo_cons hWordForms120_ok hmWordForms120_ok
def bwordForms67 : Blk := ⟨[(eI 2),(eI 3),(eI 2),(eI 3)],3,[(1,4),(0,2)],2,0,false,1,none⟩
def hWordForms121 : HE := ⟨49, [(.ptr 0 0 0),(.sl 6 1 0 2 none 1)], [bwordForms33, bwordForms52, bwordForms12, bwordForms65, bwordForms15, bwordForms53, bwordForms11], [((.val (.tup [(.sl 7 1 0 4 none 1),eB1])), [bwordForms67])]⟩
theorem hWordForms121_ok : HOk Tryd.prog hWordForms121 := hok_eq mmWordForms_ok hmWordForms121_ok folWordForms (lf := 100000) (k := 1000) (by kernel_rfl)
def hmWordForms122 : List HE := hWordForms121 :: hmWordForms121
theorem hmWordForms122_ok : ∀ x ∈ hmWordForms122, HOk Tryd.prog x := hmemo_cons hWordForms121_ok hmWordForms121_ok
def hWordForms122 : HE := ⟨9, [(.sl 0 1 0 4 none 1),(.sl 1 0 0 1 none 1)], [bwordForms67, bwordForms12], [((.val eB0), [])]⟩
theorem hWordForms122_ok : HOk Tryd.prog hWordForms122 := hok_eq mmWordForms_ok hmWordForms122_ok folWordForms (lf := 100000) (k := 1000) (by kernel_rfl)
def hmWordForms123 : List HE := hWordForms122 :: hmWordForms122
theorem hmWordForms123_ok : ∀ x ∈ hmWordForms123, HOk Tryd.prog x := hmemo_cons hWordForms122_ok hmWordForms122_ok
def hWordForms123 : HE := ⟨49, [(.ptr 0 0 0),(.sl 6 0 0 1 none 1)], [bwordForms33, bwordForms52, bwordForms12, bwordForms65, bwordForms15, bwordForms53, bwordForms16], [((.val (.tup [(.sl 7 0 0 1 none 1),eB1])), [bwordForms16])]⟩
theorem hWordForms123_ok : HOk Tryd.prog hWordForms123 := hok_eq mmWordForms_ok hmWordForms123_ok folWordForms (lf := 100000) (k := 1000) (by kernel_rfl)
def hmWordForms124 : List HE := hWordForms123 :: hmWordForms123
theorem hmWordForms124_ok : ∀ x ∈ hmWordForms124, HOk Tryd.prog x := hmemo_cons hWordForms123_ok hmWordForms123_ok
def bwordForms68 : Blk := ⟨[(.sl 2 0 0 1 none 1),(.sl 3 1 0 2 none 1),(.sl 4 0 0 1 none 1),(.lit (.slice none 0 0)),(.lit (.slice none 0 0))],22,[(0,5)],1,0,false,4,none⟩
def hWordForms124 : HE := ⟨49, [(.ptr 0 0 0),(.lit (.slice none 0 0))], [bwordForms33, bwordForms68, bwordForms12, bwordForms65, bwordForms16, bwordForms57], [((.val (.tup [(.sl 6 0 0 0 (some 0) 1),eB1])), [bwordForms30])]⟩
theorem hWordForms124_ok : HOk Tryd.prog hWordForms124 := hok_eq mmWordForms_ok hmWordForms124_ok folWordForms (lf := 100000) (k := 1000) (by kernel_rfl)
def hmWordForms125 : List HE := hWordForms124 :: hmWordForms124
theorem hmWordForms125_ok : ∀ x ∈ hmWordForms125, HOk Tryd.prog x := hmemo_cons hWordForms124_ok hmWordForms124_ok
def bwordForms69 : Blk := ⟨[(.sl 2 0 0 1 none 1),(.sl 3 1 0 2 none 1),(.sl 4 0 0 0 (some 0) 1),(.lit (.slice none 0 0)),(.lit (.slice none 0 0))],22,[(0,5)],1,0,false,5,none⟩
def hWordForms125 : HE := ⟨49, [(.ptr 0 0 0),(.sl 6 1 0 2 none 1)], [bwordForms33, bwordForms69, bwordForms12, bwordForms65, bwordForms30, bwordForms35, bwordForms17], [((.val (.tup [(.lit (.slice none 0 0)),eB0])), [])]⟩
theorem hWordForms125_ok : HOk Tryd.prog hWordForms125 := hok_eq mmWordForms_ok hmWordForms125_ok folWordForms (lf := 100000) (k := 1000) (by kernel_rfl)
def hmWordForms126 : List HE := hWordForms125 :: hmWordForms125
theorem hmWordForms126_ok : ∀ x ∈ hmWordForms126, HOk Tryd.prog x := hmemo_cons hWordForms125_ok hmWordForms125_ok
def hWordForms126 : HE := ⟨49, [(.ptr 0 0 0),(.sl 6 1 0 2 none 1)], [bwordForms33, bwordForms69, bwordForms12, bwordForms65, bwordForms30, bwordForms35, bwordForms11], [((.val (.tup [(.sl 7 1 0 4 none 1),eB1])), [bwordForms67])]⟩
theorem hWordForms126_ok : HOk Tryd.prog hWordForms126 := hok_eq mmWordForms_ok hmWordForms126_ok folWordForms (lf := 100000) (k := 1000) (by kernel_rfl)
def hmWordForms127 : List HE := hWordForms126 :: hmWordForms126
theorem hmWordForms127_ok : ∀ x ∈ hmWordForms127, HOk Tryd.prog x := hmemo_cons hWordForms126_ok hmWordForms126_ok
def bwordForms70 : Blk := ⟨[(.sl 2 0 0 1 none 1),(.sl 3 1 0 2 none 1),(.sl 4 0 0 0 (some 0) 1),(.lit (.slice none 0 0)),(.sl 5 1 0 4 none 1)],22,[(0,5)],1,0,false,6,none⟩
def hWordForms127 : HE := ⟨49, [(.ptr 0 0 0),(.sl 7 0 0 1 none 1)], [bwordForms37, bwordForms70, bwordForms12, bwordForms65, bwordForms30, bwordForms67, bwordForms39, bwordForms15], [((.val (.tup [(.sl 8 0 0 1 none 1),eB1])), [bwordForms15])]⟩
theorem hWordForms127_ok : HOk Tryd.prog hWordForms127 := hok_eq mmWordForms_ok hmWordForms127_ok folWordForms (lf := 100000) (k := 1000) (by kernel_rfl)
def hmWordForms128 : List HE := hWordForms127 :: hmWordForms127
theorem hmWordForms128_ok : ∀ x ∈ hmWordForms128, HOk Tryd.prog x := hmemo_cons hWordForms127_ok hmWordForms127_ok
def hWordForms128 : HE := ⟨49, [(.ptr 0 0 0),(.sl 7 0 0 1 none 1)], [bwordForms37, bwordForms70, bwordForms12, bwordForms65, bwordForms30, bwordForms67, bwordForms39, bwordForms12], [((.val (.tup [(.sl 8 0 0 1 none 1),eB1])), [bwordForms12])]⟩
theorem hWordForms128_ok : HOk Tryd.prog hWordForms128 := hok_eq mmWordForms_ok hmWordForms128_ok folWordForms (lf := 100000) (k := 1000) (by kernel_rfl)
def hmWordForms129 : List HE := hWordForms128 :: hmWordForms128
theorem hmWordForms129_ok : ∀ x ∈ hmWordForms129, HOk Tryd.prog x := hmemo_cons hWordForms128_ok hmWordForms128_ok
def hWordForms129 : HE := ⟨49, [(.ptr 0 0 0),(.sl 7 1 0 2 none 1)], [bwordForms37, bwordForms70, bwordForms12, bwordForms65, bwordForms30, bwordForms67, bwordForms39, bwordForms13], [((.val (.tup [(.sl 8 0 0 1 none 1),eB1])), [bwordForms16])]⟩
theorem hWordForms129_ok : HOk Tryd.prog hWordForms129 := hok_eq mmWordForms_ok hmWordForms129_ok folWordForms (lf := 100000) (k := 1000) (by kernel_rfl)
def hmWordForms130 : List HE := hWordForms129 :: hmWordForms129
theorem hmWordForms130_ok : ∀ x ∈ hmWordForms130, HOk Tryd.prog x := hmemo_cons hWordForms129_ok hmWordForms129_ok
def hWordForms130 : HE := ⟨9, [(.sl 0 0 0 1 none 1),(.sl 1 1 0 2 none 1)], [bwordForms16, bwordForms65], [((.val eB1), [])]⟩
theorem hWordForms130_ok : HOk Tryd.prog hWordForms130 := hok_eq mmWordForms_ok hmWordForms130_ok folWordForms (lf := 100000) (k := 1000) (by kernel_rfl)
def hmWordForms131 : List HE := hWordForms130 :: hmWordForms130
theorem hmWordForms131_ok : ∀ x ∈ hmWordForms131, HOk Tryd.prog x := hmemo_cons hWordForms130_ok hmWordForms130_ok
def bwordForms71 : Blk := ⟨[(.sl 2 0 0 1 none 1),(.sl 3 0 0 1 none 1),(.sl 4 0 0 0 (some 0) 1),(.lit (.slice none 0 0)),(.sl 5 1 0 4 none 1)],22,[(0,5)],1,0,false,7,none⟩
def hWordForms131 : HE := ⟨49, [(.ptr 0 0 0),(.sl 7 1 0 2 none 1)], [bwordForms37, bwordForms71, bwordForms12, bwordForms16, bwordForms30, bwordForms67, bwordForms62, bwordForms14], [((.val (.tup [(.sl 8 0 0 1 none 1),eB1])), [bwordForms15])]⟩
theorem hWordForms131_ok : HOk Tryd.prog hWordForms131 := hok_eq mmWordForms_ok hmWordForms131_ok folWordForms (lf := 100000) (k := 1000) (by kernel_rfl)
def hmWordForms132 : List HE := hWordForms131 :: hmWordForms131
theorem hmWordForms132_ok : ∀ x ∈ hmWordForms132, HOk Tryd.prog x := hmemo_cons hWordForms131_ok hmWordForms131_ok
def hWordForms132 : HE := ⟨49, [(.ptr 0 0 0),(.sl 7 1 0 2 none 1)], [bwordForms37, bwordForms71, bwordForms12, bwordForms16, bwordForms30, bwordForms67, bwordForms62, bwordForms11], [((.val (.tup [(.sl 8 1 0 2 none 1),eB1])), [bwordForms36])]⟩
theorem hWordForms132_ok : HOk Tryd.prog hWordForms132 := hok_eq mmWordForms_ok hmWordForms132_ok folWordForms (lf := 100000) (k := 1000) (by kernel_rfl)
def hmWordForms133 : List HE := hWordForms132 :: hmWordForms132
theorem hmWordForms133_ok : ∀ x ∈ hmWordForms133, HOk Tryd.prog x := hmemo_cons hWordForms132_ok hmWordForms132_ok
def hWordForms133 : HE := ⟨49, [(.ptr 0 0 0),(.sl 7 0 0 1 none 1)], [bwordForms37, bwordForms71, bwordForms12, bwordForms16, bwordForms30, bwordForms67, bwordForms62, bwordForms16], [((.val (.tup [(.sl 8 0 0 1 none 1),eB1])), [bwordForms16])]⟩
theorem hWordForms133_ok : HOk Tryd.prog hWordForms133 := hok_eq mmWordForms_ok hmWordForms133_ok folWordForms (lf := 100000) (k := 1000) (by kernel_rfl)
def hmWordForms134 : List HE := hWordForms133 :: hmWordForms133
theorem hmWordForms134_ok : ∀ x ∈ hmWordForms134, HOk Tryd.prog x := hmemo_cons hWordForms133_ok hmWordForms133_ok
def hWordForms134 : HE := ⟨49, [(.ptr 0 0 0),(.lit (.slice none 0 0))], [bwordForms37, bwordForms71, bwordForms12, bwordForms16, bwordForms30, bwordForms67, bwordForms62], [((.val (.tup [(.sl 7 0 0 0 (some 0) 1),eB1])), [bwordForms30])]⟩
theorem hWordForms134_ok : HOk Tryd.prog hWordForms134 := hok_eq mmWordForms_ok hmWordForms134_ok folWordForms (lf := 100000) (k := 1000) (by kernel_rfl)
def hmWordForms135 : List HE := hWordForms134 :: hmWordForms134
theorem hmWordForms135_ok : ∀ x ∈ hmWordForms135, HOk Tryd.prog x := hmemo_cons hWordForms134_ok hmWordForms134_ok
def hWordForms135 : HE := ⟨49, [(.ptr 0 0 0),(.sl 7 1 0 2 none 1)], [bwordForms37, bwordForms71, bwordForms12, bwordForms16, bwordForms30, bwordForms67, bwordForms62, bwordForms17], [((.val (.tup [(.lit (.slice none 0 0)),eB0])), [])]⟩
theorem hWordForms135_ok : HOk Tryd.prog hWordForms135 := hok_eq mmWordForms_ok hmWordForms135_ok folWordForms (lf := 100000) (k := 1000) (by kernel_rfl)
def hmWordForms136 : List HE := hWordForms135 :: hmWordForms135
theorem hmWordForms136_ok : ∀ x ∈ hmWordForms136, HOk Tryd.prog x := hmemo_cons hWordForms135_ok hmWordForms135_ok
def hWordForms136 : HE := ⟨9, [(.sl 0 1 0 2 none 1),(.sl 1 1 0 4 none 1)], [bwordForms36, bwordForms67], [((.val eB1), [])]⟩
theorem hWordForms136_ok : HOk Tryd.prog hWordForms136 := hok_eq mmWordForms_ok hmWordForms136_ok folWordForms (lf := 100000) (k := 1000) (by kernel_rfl)
def hmWordForms137 : List HE := hWordForms136 :: hmWordForms136
theorem hmWordForms137_ok : ∀ x ∈ hmWordForms137, HOk Tryd.prog x := hmemo_cons hWordForms136_ok hmWordForms136_ok
def bwordForms72 : Blk := ⟨[(.sl 13 0 0 1 none 1),(.sl 14 0 0 1 none 1),(.sl 15 0 0 0 (some 0) 1),(.lit (.slice none 0 0)),(.sl 16 1 0 2 none 1)],22,[(0,5)],1,0,false,8,none⟩
def bwordForms73 : Blk := ⟨[eB1,eB1,eB1,eB0,eB1],4,[(0,5)],1,0,false,8,none⟩
def hWordForms137 : HE := ⟨32, [(.agg [(.sl 0 2 0 3 none 1),(.sl 1 4 0 5 none 1),(.sl 2 8 0 9 none 2)])], [bwordForms8, bwordForms9, bwordForms64, bwordForms15, bwordForms12, bwordForms13, bwordForms14, bwordForms11, bwordForms16, bwordForms17, bwordForms11], [((.val (.ptr 11 0 0)), [bwordForms40, bwordForms72, bwordForms12, bwordForms16, bwordForms30, bwordForms36, bwordForms73])]⟩
theorem hWordForms137_ok : HOk Tryd.prog hWordForms137 := hok_eq mmWordForms_ok hmWordForms137_ok folWordForms (lf := 100000) (k := 1000) (by kernel_rfl)
def hmWordForms138 : List HE := hWordForms137 :: hmWordForms137
theorem hmWordForms138_ok : ∀ x ∈ hmWordForms138, HOk Tryd.prog x := hmemo_cons hWordForms137_ok hmWordForms137_ok
def bwordForms74 : Blk := ⟨[(.sl 12 0 0 1 none 1),(.sl 13 0 0 1 none 1),(.sl 14 0 0 0 (some 0) 1),(.lit (.slice none 0 0)),(.sl 15 1 0 2 none 1)],22,[(0,5)],1,0,false,8,none⟩
def hWordForms138 : HE := ⟨15, [(.agg [(.sl 0 2 0 3 none 1),(.sl 1 4 0 5 none 1),(.sl 2 8 0 9 none 2)])], [bwordForms8, bwordForms9, bwordForms64, bwordForms15, bwordForms12, bwordForms13, bwordForms14, bwordForms11, bwordForms16, bwordForms17, bwordForms11], [((.val (.tup [(.sl 11 0 0 5 (some 5) 1),(eI 0)])), [bwordForms74, bwordForms12, bwordForms16, bwordForms30, bwordForms36])]⟩
theorem hWordForms138_ok : HOk Tryd.prog hWordForms138 := hok_eq mmWordForms_ok hmWordForms138_ok folWordForms (lf := 100000) (k := 1000) (by kernel_rfl)
def hmWordForms139 : List HE := hWordForms138 :: hmWordForms138
theorem hmWordForms139_ok : ∀ x ∈ hmWordForms139, HOk Tryd.prog x := hmemo_cons hWordForms138_ok hmWordForms138_ok
def bwordForms75 : Blk := ⟨[(eI 101),(.sl 3 1 0 2 none 1),(eI 100),(.sl 4 0 0 1 none 1),(eI 101),(.sl 5 1 0 2 none 1),(eI 100),(.sl 6 1 0 2 none 1),(eI 102),(.sl 7 0 0 1 none 1),(eI 102),(.sl 8 0 0 1 none 1),(eI 102),(.lit (.slice none 0 0)),(eI 103),(.sl 9 1 0 2 none 1),(eI 104),(.sl 10 1 0 2 none 1)],37,[(8,18)],9,0,false,10,none⟩
def hWordForms139 : HE := ⟨45, [(.agg [(.sl 0 2 0 3 none 1),(.sl 1 4 0 5 none 1),(.sl 2 8 0 9 none 2)])], [bwordForms8, bwordForms9, bwordForms75, bwordForms14, bwordForms12, bwordForms13, bwordForms11, bwordForms15, bwordForms16, bwordForms17, bwordForms11], [((.val eB1), [])]⟩
theorem hWordForms139_ok : HOk Tryd.prog hWordForms139 := hok_eq mmWordForms_ok hmWordForms139_ok folWordForms (lf := 100000) (k := 1000) (by kernel_rfl)
def hmWordForms140 : List HE := hWordForms139 :: hmWordForms139
theorem hmWordForms140_ok : ∀ x ∈ hmWordForms140, HOk Tryd.prog x := hmemo_cons hWordForms139_ok hmWordForms139_ok
def hWordForms140 : HE := ⟨46, [(.agg [(.sl 0 2 0 3 none 1),(.sl 1 4 0 5 none 1),(.sl 2 8 0 9 none 2)])], [bwordForms8, bwordForms9, bwordForms75, bwordForms14, bwordForms12, bwordForms13, bwordForms11, bwordForms15, bwordForms16, bwordForms17, bwordForms11], [((.val eB1), [])]⟩
theorem hWordForms140_ok : HOk Tryd.prog hWordForms140 := hok_eq mmWordForms_ok hmWordForms140_ok folWordForms (lf := 100000) (k := 1000) (by kernel_rfl)
def hmWordForms141 : List HE := hWordForms140 :: hmWordForms140
theorem hmWordForms141_ok : ∀ x ∈ hmWordForms141, HOk Tryd.prog x := hmemo_cons hWordForms140_ok hmWordForms140_ok
def hWordForms141 : HE := ⟨31, [(.agg [(.sl 0 2 0 3 none 1),(.sl 1 4 0 5 none 1),(.sl 2 8 0 9 none 2)])], [bwordForms8, bwordForms9, bwordForms75, bwordForms14, bwordForms12, bwordForms13, bwordForms11, bwordForms15, bwordForms16, bwordForms17, bwordForms11], [((.val (eI 0)), [])]⟩
theorem hWordForms141_ok : HOk Tryd.prog hWordForms141 := hok_eq mmWordForms_ok hmWordForms141_ok folWordForms (lf := 100000) (k := 1000) (by kernel_rfl)
def hmWordForms142 : List HE := hWordForms141 :: hmWordForms141
theorem hmWordForms142_ok : ∀ x ∈ hmWordForms142, HOk Tryd.prog x := hmemo_cons hWordForms141_ok hmWordForms141_ok
def hWordForms142 : HE := ⟨49, [(.ptr 0 0 0),(.sl 3 1 0 2 none 1)], [bwordForms19, bwordForms20, bwordForms21, bwordForms14], [((.val (.tup [(.lit (.slice none 0 0)),eB0])), [])]⟩
theorem hWordForms142_ok : HOk Tryd.prog hWordForms142 := hok_eq mmWordForms_ok hmWordForms142_ok folWordForms (lf := 100000) (k := 1000) (by kernel_rfl)
def hmWordForms143 : List HE := hWordForms142 :: hmWordForms142
theorem hmWordForms143_ok : ∀ x ∈ hmWordForms143, HOk Tryd.prog x := hmemo_cons hWordForms142_ok hmWordForms142_ok
def hWordForms143 : HE := ⟨49, [(.ptr 0 0 0),(.sl 4 1 0 2 none 1)], [bwordForms22, bwordForms23, bwordForms12, bwordForms24, bwordForms11], [((.val (.tup [(.lit (.slice none 0 0)),eB0])), [])]⟩
theorem hWordForms143_ok : HOk Tryd.prog hWordForms143 := hok_eq mmWordForms_ok hmWordForms143_ok folWordForms (lf := 100000) (k := 1000) (by kernel_rfl)
def hmWordForms144 : List HE := hWordForms143 :: hmWordForms143
theorem hmWordForms144_ok : ∀ x ∈ hmWordForms144, HOk Tryd.prog x := hmemo_cons hWordForms143_ok hmWordForms143_ok
def hWordForms144 : HE := ⟨49, [(.ptr 0 0 0),(.sl 5 1 0 2 none 1)], [bwordForms25, bwordForms31, bwordForms12, bwordForms30, bwordForms32, bwordForms14], [((.val (.tup [(.sl 6 0 0 1 none 1),eB1])), [bwordForms15])]⟩
theorem hWordForms144_ok : HOk Tryd.prog hWordForms144 := hok_eq mmWordForms_ok hmWordForms144_ok folWordForms (lf := 100000) (k := 1000) (by kernel_rfl)
def hmWordForms145 : List HE := hWordForms144 :: hmWordForms144
theorem hmWordForms145_ok : ∀ x ∈ hmWordForms145, HOk Tryd.prog x := hmemo_cons hWordForms144_ok hmWordForms144_ok
def hWordForms145 : HE := ⟨49, [(.ptr 0 0 0),(.sl 6 0 0 1 none 1)], [bwordForms33, bwordForms34, bwordForms12, bwordForms15, bwordForms30, bwordForms35, bwordForms12], [((.val (.tup [(.sl 7 0 0 1 none 1),eB1])), [bwordForms12])]⟩
theorem hWordForms145_ok : HOk Tryd.prog hWordForms145 := hok_eq mmWordForms_ok hmWordForms145_ok folWordForms (lf := 100000) (k := 1000) (by kernel_rfl)
def hmWordForms146 : List HE := hWordForms145 :: hmWordForms145
theorem hmWordForms146_ok : ∀ x ∈ hmWordForms146, HOk Tryd.prog x := hmemo_cons hWordForms145_ok hmWordForms145_ok
def hWordForms146 : HE := ⟨49, [(.ptr 0 0 0),(.sl 6 1 0 2 none 1)], [bwordForms33, bwordForms34, bwordForms12, bwordForms15, bwordForms30, bwordForms35, bwordForms13], [((.val (.tup [(.sl 7 0 0 1 none 1),eB1])), [bwordForms16])]⟩
theorem hWordForms146_ok : HOk Tryd.prog hWordForms146 := hok_eq mmWordForms_ok hmWordForms146_ok folWordForms (lf := 100000) (k := 1000) (by kernel_rfl)
def hmWordForms147 : List HE := hWordForms146 :: hmWordForms146
theorem hmWordForms147_ok : ∀ x ∈ hmWordForms147, HOk Tryd.prog x := hmemo_cons hWordForms146_ok hmWordForms146_ok
def hWordForms147 : HE := ⟨32, [(.agg [(.sl 0 2 0 3 none 1),(.sl 1 4 0 5 none 1),(.sl 2 8 0 9 none 2)])], [bwordForms8, bwordForms9, bwordForms75, bwordForms14, bwordForms12, bwordForms13, bwordForms11, bwordForms15, bwordForms16, bwordForms17, bwordForms11], [((.val (.ptr 11 0 0)), [bwordForms40, bwordForms61, bwordForms12, bwordForms16, bwordForms30, bwordForms36, bwordForms62])]⟩
theorem hWordForms147_ok : HOk Tryd.prog hWordForms147 := hok_eq mmWordForms_ok hmWordForms147_ok folWordForms (lf := 100000) (k := 1000) (by kernel_rfl)
def hmWordForms148 : List HE := hWordForms147 :: hmWordForms147
theorem hmWordForms148_ok : ∀ x ∈ hmWordForms148, HOk Tryd.prog x := hmemo_cons hWordForms147_ok hmWordForms147_ok
def hWordForms148 : HE := ⟨15, [(.agg [(.sl 0 2 0 3 none 1),(.sl 1 4 0 5 none 1),(.sl 2 8 0 9 none 2)])], [bwordForms8, bwordForms9, bwordForms75, bwordForms14, bwordForms12, bwordForms13, bwordForms11, bwordForms15, bwordForms16, bwordForms17, bwordForms11], [((.val (.tup [(.sl 11 0 0 5 (some 5) 1),(eI 0)])), [bwordForms63, bwordForms12, bwordForms16, bwordForms30, bwordForms36])]⟩
theorem hWordForms148_ok : HOk Tryd.prog hWordForms148 := hok_eq mmWordForms_ok hmWordForms148_ok folWordForms (lf := 100000) (k := 1000) (by kernel_rfl)
def hmWordForms149 : List HE := hWordForms148 :: hmWordForms148
theorem hmWordForms149_ok : ∀ x ∈ hmWordForms149, HOk Tryd.prog x := hmemo_cons hWordForms148_ok hmWordForms148_ok
def bwordForms76 : Blk := ⟨[(eI 101),(.sl 3 1 0 2 none 1),(eI 100),(.sl 4 0 0 1 none 1),(eI 100),(.sl 5 1 0 2 none 1),(eI 101),(.sl 6 1 0 2 none 1),(eI 102),(.sl 7 0 0 1 none 1),(eI 102),(.sl 8 0 0 1 none 1),(eI 102),(.lit (.slice none 0 0)),(eI 103),(.sl 9 1 0 2 none 1),(eI 104),(.sl 10 1 0 2 none 1)],37,[(8,18)],9,0,false,10,none⟩
def hWordForms149 : HE := ⟨45, [(.agg [(.sl 0 2 0 3 none 1),(.sl 1 4 0 5 none 1),(.sl 2 8 0 9 none 2)])], [bwordForms8, bwordForms9, bwordForms76, bwordForms13, bwordForms12, bwordForms11, bwordForms14, bwordForms15, bwordForms16, bwordForms17, bwordForms11], [((.val eB1), [])]⟩
theorem hWordForms149_ok : HOk Tryd.prog hWordForms149 := hok_eq mmWordForms_ok hmWordForms149_ok folWordForms (lf := 100000) (k := 1000) (by kernel_rfl)
def hmWordForms150 : List HE := hWordForms149 :: hmWordForms149
theorem hmWordForms150_ok : ∀ x ∈ hmWordForms150, HOk Tryd.prog x := hmemo_cons hWordForms149_ok hmWordForms149_ok
def hWordForms150 : HE := ⟨46, [(.agg [(.sl 0 2 0 3 none 1),(.sl 1 4 0 5 none 1),(.sl 2 8 0 9 none 2)])], [bwordForms8, bwordForms9, bwordForms76, bwordForms13, bwordForms12, bwordForms11, bwordForms14, bwordForms15, bwordForms16, bwordForms17, bwordForms11], [((.val eB1), [])]⟩
theorem hWordForms150_ok : HOk Tryd.prog hWordForms150 := hok_eq mmWordForms_ok hmWordForms150_ok folWordForms (lf := 100000) (k := 1000) (by kernel_rfl)
def hmWordForms151 : List HE := hWordForms150 :: hmWordForms150
theorem hmWordForms151_ok : ∀ x ∈ hmWordForms151, HOk Tryd.prog x := hmemo_cons hWordForms150_ok hmWordForms150_ok
def hWordForms151 : HE := ⟨31, [(.agg [(.sl 0 2 0 3 none 1),(.sl 1 4 0 5 none 1),(.sl 2 8 0 9 none 2)])], [bwordForms8, bwordForms9, bwordForms76, bwordForms13, bwordForms12, bwordForms11, bwordForms14, bwordForms15, bwordForms16, bwordForms17, bwordForms11], [((.val (eI 0)), [])]⟩
theorem hWordForms151_ok : HOk Tryd.prog hWordForms151 := hok_eq mmWordForms_ok hmWordForms151_ok folWordForms (lf := 100000) (k := 1000) (by kernel_rfl)
def hmWordForms152 : List HE := hWordForms151 :: hmWordForms151
theorem hmWordForms152_ok : ∀ x ∈ hmWordForms152, HOk Tryd.prog x := hmemo_cons hWordForms151_ok hmWordForms151_ok
def hWordForms152 : HE := ⟨49, [(.ptr 0 0 0),(.sl 3 1 0 2 none 1)], [bwordForms19, bwordForms20, bwordForms21, bwordForms13], [((.val (.tup [(.lit (.slice none 0 0)),eB0])), [])]⟩
theorem hWordForms152_ok : HOk Tryd.prog hWordForms152 := hok_eq mmWordForms_ok hmWordForms152_ok folWordForms (lf := 100000) (k := 1000) (by kernel_rfl)
def hmWordForms153 : List HE := hWordForms152 :: hmWordForms152
theorem hmWordForms153_ok : ∀ x ∈ hmWordForms153, HOk Tryd.prog x := hmemo_cons hWordForms152_ok hmWordForms152_ok
def hWordForms153 : HE := ⟨49, [(.ptr 0 0 0),(.sl 6 0 0 1 none 1)], [bwordForms33, bwordForms34, bwordForms12, bwordForms16, bwordForms30, bwordForms35, bwordForms12], [((.val (.tup [(.sl 7 0 0 1 none 1),eB1])), [bwordForms12])]⟩
theorem hWordForms153_ok : HOk Tryd.prog hWordForms153 := hok_eq mmWordForms_ok hmWordForms153_ok folWordForms (lf := 100000) (k := 1000) (by kernel_rfl)
def hmWordForms154 : List HE := hWordForms153 :: hmWordForms153
theorem hmWordForms154_ok : ∀ x ∈ hmWordForms154, HOk Tryd.prog x := hmemo_cons hWordForms153_ok hmWordForms153_ok
def hWordForms154 : HE := ⟨32, [(.agg [(.sl 0 2 0 3 none 1),(.sl 1 4 0 5 none 1),(.sl 2 8 0 9 none 2)])], [bwordForms8, bwordForms9, bwordForms76, bwordForms13, bwordForms12, bwordForms11, bwordForms14, bwordForms15, bwordForms16, bwordForms17, bwordForms11], [((.val (.ptr 11 0 0)), [bwordForms40, bwordForms41, bwordForms12, bwordForms16, bwordForms30, bwordForms36, bwordForms39])]⟩
theorem hWordForms154_ok : HOk Tryd.prog hWordForms154 := hok_eq mmWordForms_ok hmWordForms154_ok folWordForms (lf := 100000) (k := 1000) (by kernel_rfl)
def hmWordForms155 : List HE := hWordForms154 :: hmWordForms154
theorem hmWordForms155_ok : ∀ x ∈ hmWordForms155, HOk Tryd.prog x := hmemo_cons hWordForms154_ok hmWordForms154_ok
def hWordForms155 : HE := ⟨15, [(.agg [(.sl 0 2 0 3 none 1),(.sl 1 4 0 5 none 1),(.sl 2 8 0 9 none 2)])], [bwordForms8, bwordForms9, bwordForms76, bwordForms13, bwordForms12, bwordForms11, bwordForms14, bwordForms15, bwordForms16, bwordForms17, bwordForms11], [((.val (.tup [(.sl 11 0 0 5 (some 5) 1),(eI 0)])), [bwordForms42, bwordForms12, bwordForms16, bwordForms30, bwordForms36])]⟩
theorem hWordForms155_ok : HOk Tryd.prog hWordForms155 := hok_eq mmWordForms_ok hmWordForms155_ok folWordForms (lf := 100000) (k := 1000) (by kernel_rfl)
def hmWordForms156 : List HE := hWordForms155 :: hmWordForms155
theorem hmWordForms156_ok : ∀ x ∈ hmWordForms156, HOk Tryd.prog x := hmemo_cons hWordForms155_ok hmWordForms155_ok
def bwordForms77 : Blk := ⟨[(eI 100),(.sl 3 0 0 1 none 1),(eI 100),(.sl 4 1 0 2 none 1),(eI 101),(.sl 5 1 0 2 none 1),(eI 101),(.sl 6 1 0 2 none 1),(eI 102),(.sl 7 0 0 1 none 1),(eI 102),(.sl 8 0 0 1 none 1),(eI 102),(.lit (.slice none 0 0)),(eI 103),(.sl 9 1 0 2 none 1),(eI 104),(.sl 10 1 0 2 none 1)],37,[(8,18)],9,0,false,10,none⟩
def hWordForms156 : HE := ⟨45, [(.agg [(.sl 0 2 0 3 none 1),(.sl 1 4 0 5 none 1),(.sl 2 8 0 9 none 2)])], [bwordForms8, bwordForms9, bwordForms77, bwordForms12, bwordForms11, bwordForms13, bwordForms14, bwordForms15, bwordForms16, bwordForms17, bwordForms11], [((.val eB1), [])]⟩
theorem hWordForms156_ok : HOk Tryd.prog hWordForms156 := hok_eq mmWordForms_ok hmWordForms156_ok folWordForms (lf := 100000) (k := 1000) (by kernel_rfl)
def hmWordForms157 : List HE := hWordForms156 :: hmWordForms156
theorem hmWordForms157_ok : ∀ x ∈ hmWordForms157, HOk Tryd.prog x := hmemo_cons hWordForms156_ok hmWordForms156_ok
def hWordForms157 : HE := ⟨46, [(.agg [(.sl 0 2 0 3 none 1),(.sl 1 4 0 5 none 1),(.sl 2 8 0 9 none 2)])], [bwordForms8, bwordForms9, bwordForms77, bwordForms12, bwordForms11, bwordForms13, bwordForms14, bwordForms15, bwordForms16, bwordForms17, bwordForms11], [((.val eB1), [])]⟩
theorem hWordForms157_ok : HOk Tryd.prog hWordForms157 := hok_eq mmWordForms_ok hmWordForms157_ok folWordForms (lf := 100000) (k := 1000) (by kernel_rfl)
def hmWordForms158 : List HE := hWordForms157 :: hmWordForms157
theorem hmWordForms158_ok : ∀ x ∈ hmWordForms158, HOk Tryd.prog x := hmemo_cons hWordForms157_ok hmWordForms157_ok
def hWordForms158 : HE := ⟨31, [(.agg [(.sl 0 2 0 3 none 1),(.sl 1 4 0 5 none 1),(.sl 2 8 0 9 none 2)])], [bwordForms8, bwordForms9, bwordForms77, bwordForms12, bwordForms11, bwordForms13, bwordForms14, bwordForms15, bwordForms16, bwordForms17, bwordForms11], [((.val (eI 0)), [])]⟩
theorem hWordForms158_ok : HOk Tryd.prog hWordForms158 := hok_eq mmWordForms_ok hmWordForms158_ok folWordForms (lf := 100000) (k := 1000) (by kernel_rfl)
def hmWordForms159 : List HE := hWordForms158 :: hmWordForms158
theorem hmWordForms159_ok : ∀ x ∈ hmWordForms159, HOk Tryd.prog x := hmemo_cons hWordForms158_ok hmWordForms158_ok
def hWordForms159 : HE := ⟨32, [(.agg [(.sl 0 2 0 3 none 1),(.sl 1 4 0 5 none 1),(.sl 2 8 0 9 none 2)])], [bwordForms8, bwordForms9, bwordForms77, bwordForms12, bwordForms11, bwordForms13, bwordForms14, bwordForms15, bwordForms16, bwordForms17, bwordForms11], [((.val (.ptr 11 0 0)), [bwordForms40, bwordForms41, bwordForms12, bwordForms16, bwordForms30, bwordForms36, bwordForms39])]⟩
theorem hWordForms159_ok : HOk Tryd.prog hWordForms159 := hok_eq mmWordForms_ok hmWordForms159_ok folWordForms (lf := 100000) (k := 1000) (by kernel_rfl)
def hmWordForms160 : List HE := hWordForms159 :: hmWordForms159
theorem hmWordForms160_ok : ∀ x ∈ hmWordForms160, HOk Tryd.prog x := hmemo_cons hWordForms159_ok hmWordForms159_ok
def hWordForms160 : HE := ⟨15, [(.agg [(.sl 0 2 0 3 none 1),(.sl 1 4 0 5 none 1),(.sl 2 8 0 9 none 2)])], [bwordForms8, bwordForms9, bwordForms77, bwordForms12, bwordForms11, bwordForms13, bwordForms14, bwordForms15, bwordForms16, bwordForms17, bwordForms11], [((.val (.tup [(.sl 11 0 0 5 (some 5) 1),(eI 0)])), [bwordForms42, bwordForms12, bwordForms16, bwordForms30, bwordForms36])]⟩
theorem hWordForms160_ok : HOk Tryd.prog hWordForms160 := hok_eq mmWordForms_ok hmWordForms160_ok folWordForms (lf := 100000) (k := 1000) (by kernel_rfl)
def hmWordForms161 : List HE := hWordForms160 :: hmWordForms160
theorem hmWordForms161_ok : ∀ x ∈ hmWordForms161, HOk Tryd.prog x := hmemo_cons hWordForms160_ok hmWordForms160_ok
def bwordForms78 : Blk := ⟨[(eI 100),(.sl 3 1 0 2 none 1),(eI 100),(.sl 4 0 0 1 none 1),(eI 101),(.sl 5 1 0 2 none 1),(eI 101),(.sl 6 1 0 2 none 1),(eI 102),(.sl 7 0 0 1 none 1),(eI 102),(.sl 8 0 0 1 none 1),(eI 102),(.lit (.slice none 0 0)),(eI 103),(.sl 9 1 0 2 none 1),(eI 104),(.sl 10 1 0 2 none 1)],37,[(8,18)],9,0,false,10,none⟩
def hWordForms161 : HE := ⟨45, [(.agg [(.sl 0 2 0 3 none 1),(.sl 1 4 0 5 none 1),(.sl 2 8 0 9 none 2)])], [bwordForms8, bwordForms9, bwordForms78, bwordForms11, bwordForms12, bwordForms13, bwordForms14, bwordForms15, bwordForms16, bwordForms17, bwordForms11], [((.val eB1), [])]⟩
theorem hWordForms161_ok : HOk Tryd.prog hWordForms161 := hok_eq mmWordForms_ok hmWordForms161_ok folWordForms (lf := 100000) (k := 1000) (by kernel_rfl)
def hmWordForms162 : List HE := hWordForms161 :: hmWordForms161
theorem hmWordForms162_ok : ∀ x ∈ hmWordForms162, HOk Tryd.prog x := hmemo_cons hWordForms161_ok hmWordForms161_ok
def hWordForms162 : HE := ⟨46, [(.agg [(.sl 0 2 0 3 none 1),(.sl 1 4 0 5 none 1),(.sl 2 8 0 9 none 2)])], [bwordForms8, bwordForms9, bwordForms78, bwordForms11, bwordForms12, bwordForms13, bwordForms14, bwordForms15, bwordForms16, bwordForms17, bwordForms11], [((.val eB1), [])]⟩
theorem hWordForms162_ok : HOk Tryd.prog hWordForms162 := hok_eq mmWordForms_ok hmWordForms162_ok folWordForms (lf := 100000) (k := 1000) (by kernel_rfl)
def hmWordForms163 : List HE := hWordForms162 :: hmWordForms162
theorem hmWordForms163_ok : ∀ x ∈ hmWordForms163, HOk Tryd.prog x := hmemo_cons hWordForms162_ok hmWordForms162_ok
def hWordForms163 : HE := ⟨31, [(.agg [(.sl 0 2 0 3 none 1),(.sl 1 4 0 5 none 1),(.sl 2 8 0 9 none 2)])], [bwordForms8, bwordForms9, bwordForms78, bwordForms11, bwordForms12, bwordForms13, bwordForms14, bwordForms15, bwordForms16, bwordForms17, bwordForms11], [((.val (eI 0)), [])]⟩
theorem hWordForms163_ok : HOk Tryd.prog hWordForms163 := hok_eq mmWordForms_ok hmWordForms163_ok folWordForms (lf := 100000) (k := 1000) (by kernel_rfl)
def hmWordForms164 : List HE := hWordForms163 :: hmWordForms163
theorem hmWordForms164_ok : ∀ x ∈ hmWordForms164, HOk Tryd.prog x := hmemo_cons hWordForms163_ok hmWordForms163_ok
def hWordForms164 : HE := ⟨32, [(.agg [(.sl 0 2 0 3 none 1),(.sl 1 4 0 5 none 1),(.sl 2 8 0 9 none 2)])], [bwordForms8, bwordForms9, bwordForms78, bwordForms11, bwordForms12, bwordForms13, bwordForms14, bwordForms15, bwordForms16, bwordForms17, bwordForms11], [((.val (.ptr 11 0 0)), [bwordForms40, bwordForms41, bwordForms12, bwordForms16, bwordForms30, bwordForms36, bwordForms39])]⟩
theorem hWordForms164_ok : HOk Tryd.prog hWordForms164 := hok_eq mmWordForms_ok hmWordForms164_ok folWordForms (lf := 100000) (k := 1000) (by kernel_rfl)
def hmWordForms165 : List HE := hWordForms164 :: hmWordForms164
theorem hmWordForms165_ok : ∀ x ∈ hmWordForms165, HOk Tryd.prog x := hmemo_cons hWordForms164_ok hmWordForms164_ok
def hWordForms165 : HE := ⟨15, [(.agg [(.sl 0 2 0 3 none 1),(.sl 1 4 0 5 none 1),(.sl 2 8 0 9 none 2)])], [bwordForms8, bwordForms9, bwordForms78, bwordForms11, bwordForms12, bwordForms13, bwordForms14, bwordForms15, bwordForms16, bwordForms17, bwordForms11], [((.val (.tup [(.sl 11 0 0 5 (some 5) 1),(eI 0)])), [bwordForms42, bwordForms12, bwordForms16, bwordForms30, bwordForms36])]⟩
theorem hWordForms165_ok : HOk Tryd.prog hWordForms165 := hok_eq mmWordForms_ok hmWordForms165_ok folWordForms (lf := 100000) (k := 1000) (by kernel_rfl)
def hmWordForms166 : List HE := hWordForms165 :: hmWordForms165
theorem hmWordForms166_ok : ∀ x ∈ hmWordForms166, HOk Tryd.prog x := hmemo_cons hWordForms165_ok hmWordForms165_ok
def bwordForms79 : Blk := ⟨[(.lit (.float .f64 4607182418800017408)),(.lit (.float .f64 4607182418800017408)),(.lit (.float .f64 0)),(.lit (.float .f64 9218868437227405312)),(.lit (.float .f64 4611686018427387904))],44,[(4,5),(3,4),(2,3),(1,2),(0,1)],5,0,false,4,none⟩
def hWordForms166 : HE := ⟨16, [(.agg [(.sl 0 2 0 3 none 1),(.sl 1 4 0 5 none 1),(.sl 2 8 0 9 none 2)])], [bwordForms8, bwordForms9, bwordForms18, bwordForms11, bwordForms12, bwordForms13, bwordForms14, bwordForms15, bwordForms16, bwordForms17, bwordForms11], [((.val (.tup [(.sl 11 4 0 5 none 1),(eI 0)])), [bwordForms79])]⟩
theorem hWordForms166_ok : HOk Tryd.prog hWordForms166 := hok_eq mmWordForms_ok hmWordForms166_ok folWordForms (lf := 100000) (k := 1000) (by kernel_rfl)
def hmWordForms167 : List HE := hWordForms166 :: hmWordForms166
theorem hmWordForms167_ok : ∀ x ∈ hmWordForms167, HOk Tryd.prog x := hmemo_cons hWordForms166_ok hmWordForms166_ok
def hWordForms167 : HE := ⟨16, [(.agg [(.sl 0 2 0 3 none 1),(.sl 1 4 0 5 none 1),(.sl 2 8 0 9 none 2)])], [bwordForms8, bwordForms9, bwordForms43, bwordForms17, bwordForms12, bwordForms13, bwordForms14, bwordForms15, bwordForms16, bwordForms11, bwordForms11], [((.val (.tup [(.sl 11 4 0 5 none 1),(eI 0)])), [bwordForms79])]⟩
theorem hWordForms167_ok : HOk Tryd.prog hWordForms167 := hok_eq mmWordForms_ok hmWordForms167_ok folWordForms (lf := 100000) (k := 1000) (by kernel_rfl)
def hmWordForms168 : List HE := hWordForms167 :: hmWordForms167
theorem hmWordForms168_ok : ∀ x ∈ hmWordForms168, HOk Tryd.prog x := hmemo_cons hWordForms167_ok hmWordForms167_ok
def hWordForms168 : HE := ⟨16, [(.agg [(.sl 0 2 0 3 none 1),(.sl 1 4 0 5 none 1),(.sl 2 8 0 9 none 2)])], [bwordForms8, bwordForms9, bwordForms44, bwordForms12, bwordForms13, bwordForms14, bwordForms15, bwordForms16, bwordForms11, bwordForms17, bwordForms11], [((.val (.tup [(.sl 11 4 0 5 none 1),(eI 0)])), [bwordForms79])]⟩
theorem hWordForms168_ok : HOk Tryd.prog hWordForms168 := hok_eq mmWordForms_ok hmWordForms168_ok folWordForms (lf := 100000) (k := 1000) (by kernel_rfl)
def hmWordForms169 : List HE := hWordForms168 :: hmWordForms168
theorem hmWordForms169_ok : ∀ x ∈ hmWordForms169, HOk Tryd.prog x := hmemo_cons hWordForms168_ok hmWordForms168_ok
def hWordForms169 : HE := ⟨16, [(.agg [(.sl 0 2 0 3 none 1),(.sl 1 4 0 5 none 1),(.sl 2 8 0 9 none 2)])], [bwordForms8, bwordForms9, bwordForms50, bwordForms16, bwordForms12, bwordForms13, bwordForms14, bwordForms15, bwordForms11, bwordForms17, bwordForms11], [((.val (.tup [(.sl 11 4 0 5 none 1),(eI 0)])), [bwordForms79])]⟩
theorem hWordForms169_ok : HOk Tryd.prog hWordForms169 := hok_eq mmWordForms_ok hmWordForms169_ok folWordForms (lf := 100000) (k := 1000) (by kernel_rfl)
def hmWordForms170 : List HE := hWordForms169 :: hmWordForms169
theorem hmWordForms170_ok : ∀ x ∈ hmWordForms170, HOk Tryd.prog x := hmemo_cons hWordForms169_ok hmWordForms169_ok
def hWordForms170 : HE := ⟨16, [(.agg [(.sl 0 2 0 3 none 1),(.sl 1 4 0 5 none 1),(.sl 2 8 0 9 none 2)])], [bwordForms8, bwordForms9, bwordForms64, bwordForms15, bwordForms12, bwordForms13, bwordForms14, bwordForms11, bwordForms16, bwordForms17, bwordForms11], [((.val (.tup [(.sl 11 4 0 5 none 1),(eI 0)])), [bwordForms79])]⟩
theorem hWordForms170_ok : HOk Tryd.prog hWordForms170 := hok_eq mmWordForms_ok hmWordForms170_ok folWordForms (lf := 100000) (k := 1000) (by kernel_rfl)
def hmWordForms171 : List HE := hWordForms170 :: hmWordForms170
theorem hmWordForms171_ok : ∀ x ∈ hmWordForms171, HOk Tryd.prog x := hmemo_cons hWordForms170_ok hmWordForms170_ok
def hWordForms171 : HE := ⟨16, [(.agg [(.sl 0 2 0 3 none 1),(.sl 1 4 0 5 none 1),(.sl 2 8 0 9 none 2)])], [bwordForms8, bwordForms9, bwordForms75, bwordForms14, bwordForms12, bwordForms13, bwordForms11, bwordForms15, bwordForms16, bwordForms17, bwordForms11], [((.val (.tup [(.sl 11 4 0 5 none 1),(eI 0)])), [bwordForms79])]⟩
theorem hWordForms171_ok : HOk Tryd.prog hWordForms171 := hok_eq mmWordForms_ok hmWordForms171_ok folWordForms (lf := 100000) (k := 1000) (by kernel_rfl)
def hmWordForms172 : List HE := hWordForms171 :: hmWordForms171
theorem hmWordForms172_ok : ∀ x ∈ hmWordForms172, HOk Tryd.prog x := hmemo_cons hWordForms171_ok hmWordForms171_ok
def hWordForms172 : HE := ⟨16, [(.agg [(.sl 0 2 0 3 none 1),(.sl 1 4 0 5 none 1),(.sl 2 8 0 9 none 2)])], [bwordForms8, bwordForms9, bwordForms76, bwordForms13, bwordForms12, bwordForms11, bwordForms14, bwordForms15, bwordForms16, bwordForms17, bwordForms11], [((.val (.tup [(.sl 11 4 0 5 none 1),(eI 0)])), [bwordForms79])]⟩
theorem hWordForms172_ok : HOk Tryd.prog hWordForms172 := hok_eq mmWordForms_ok hmWordForms172_ok folWordForms (lf := 100000) (k := 1000) (by kernel_rfl)
def hmWordForms173 : List HE := hWordForms172 :: hmWordForms172
theorem hmWordForms173_ok : ∀ x ∈ hmWordForms173, HOk Tryd.prog x := hmemo_cons hWordForms172_ok hmWordForms172_ok
def hWordForms173 : HE := ⟨16, [(.agg [(.sl 0 2 0 3 none 1),(.sl 1 4 0 5 none 1),(.sl 2 8 0 9 none 2)])], [bwordForms8, bwordForms9, bwordForms77, bwordForms12, bwordForms11, bwordForms13, bwordForms14, bwordForms15, bwordForms16, bwordForms17, bwordForms11], [((.val (.tup [(.sl 11 4 0 5 none 1),(eI 0)])), [bwordForms79])]⟩
theorem hWordForms173_ok : HOk Tryd.prog hWordForms173 := hok_eq mmWordForms_ok hmWordForms173_ok folWordForms (lf := 100000) (k := 1000) (by kernel_rfl)
def hmWordForms174 : List HE := hWordForms173 :: hmWordForms173
theorem hmWordForms174_ok : ∀ x ∈ hmWordForms174, HOk Tryd.prog x := hmemo_cons hWordForms173_ok hmWordForms173_ok
def hWordForms174 : HE := ⟨16, [(.agg [(.sl 0 2 0 3 none 1),(.sl 1 4 0 5 none 1),(.sl 2 8 0 9 none 2)])], [bwordForms8, bwordForms9, bwordForms78, bwordForms11, bwordForms12, bwordForms13, bwordForms14, bwordForms15, bwordForms16, bwordForms17, bwordForms11], [((.val (.tup [(.sl 11 4 0 5 none 1),(eI 0)])), [bwordForms79])]⟩
theorem hWordForms174_ok : HOk Tryd.prog hWordForms174 := hok_eq mmWordForms_ok hmWordForms174_ok folWordForms (lf := 100000) (k := 1000) (by kernel_rfl)
def hmWordForms175 : List HE := hWordForms174 :: hmWordForms174
theorem hmWordForms175_ok : ∀ x ∈ hmWordForms175, HOk Tryd.prog x := hmemo_cons hWordForms174_ok hmWordForms174_ok
def hWordForms175 : HE := ⟨10, [(.sl 0 0 0 1 none 1),(.sl 1 0 0 1 (some 1) 1)], [bwordForms12, bwordForms12], [((.val eB1), [])]⟩
theorem hWordForms175_ok : HOk Tryd.prog hWordForms175 := hok_eq mmWordForms_ok hmWordForms175_ok folWordForms (lf := 100000) (k := 1000) (by kernel_rfl)
def hmWordForms176 : List HE := hWordForms175 :: hmWordForms175
theorem hmWordForms176_ok : ∀ x ∈ hmWordForms176, HOk Tryd.prog x := hmemo_cons hWordForms175_ok hmWordForms175_ok
def hWordForms176 : HE := ⟨10, [(.sl 0 0 0 1 none 1),(.sl 1 0 0 1 (some 1) 1)], [bwordForms16, bwordForms16], [((.val eB1), [])]⟩
theorem hWordForms176_ok : HOk Tryd.prog hWordForms176 := hok_eq mmWordForms_ok hmWordForms176_ok folWordForms (lf := 100000) (k := 1000) (by kernel_rfl)
def hmWordForms177 : List HE := hWordForms176 :: hmWordForms176
theorem hmWordForms177_ok : ∀ x ∈ hmWordForms177, HOk Tryd.prog x := hmemo_cons hWordForms176_ok hmWordForms176_ok
def hWordForms177 : HE := ⟨10, [(.sl 0 0 0 0 (some 0) 1),(.lit (.slice none 0 0))], [bwordForms30], [((.val eB1), [])]⟩
theorem hWordForms177_ok : HOk Tryd.prog hWordForms177 := hok_eq mmWordForms_ok hmWordForms177_ok folWordForms (lf := 100000) (k := 1000) (by kernel_rfl)
def hmWordForms178 : List HE := hWordForms177 :: hmWordForms177
theorem hmWordForms178_ok : ∀ x ∈ hmWordForms178, HOk Tryd.prog x := hmemo_cons hWordForms177_ok hmWordForms177_ok
def hWordForms178 : HE := ⟨10, [(.lit (.slice none 0 0)),(.lit (.slice none 0 0))], [], [((.val eB1), [])]⟩
theorem hWordForms178_ok : HOk Tryd.prog hWordForms178 := hok_eq mmWordForms_ok hmWordForms178_ok folWordForms (lf := 100000) (k := 1000) (by kernel_rfl)
def hmWordForms179 : List HE := hWordForms178 :: hmWordForms178
theorem hmWordForms179_ok : ∀ x ∈ hmWordForms179, HOk Tryd.prog x := hmemo_cons hWordForms178_ok hmWordForms178_ok
def bwordForms80 : Blk := ⟨[(eI 2),(eI 2)],3,[(0,2)],1,0,false,0,none⟩
def hWordForms179 : HE := ⟨10, [(.sl 0 1 0 2 none 1),(.sl 1 0 0 2 (some 2) 1)], [bwordForms36, bwordForms80], [((.val eB1), [])]⟩
theorem hWordForms179_ok : HOk Tryd.prog hWordForms179 := hok_eq mmWordForms_ok hmWordForms179_ok folWordForms (lf := 100000) (k := 1000) (by kernel_rfl)
def hmWordForms180 : List HE := hWordForms179 :: hmWordForms179
theorem hmWordForms180_ok : ∀ x ∈ hmWordForms180, HOk Tryd.prog x := hmemo_cons hWordForms179_ok hmWordForms179_ok
def hWordForms180 : HE := ⟨9, [(.lit (.slice none 0 0)),(.sl 0 0 0 1 (some 1) 1)], [bwordForms12], [((.val eB1), [])]⟩
theorem hWordForms180_ok : HOk Tryd.prog hWordForms180 := hok_eq mmWordForms_ok hmWordForms180_ok folWordForms (lf := 100000) (k := 1000) (by kernel_rfl)
def hmWordForms181 : List HE := hWordForms180 :: hmWordForms180
theorem hmWordForms181_ok : ∀ x ∈ hmWordForms181, HOk Tryd.prog x := hmemo_cons hWordForms180_ok hmWordForms180_ok
def hWordForms181 : HE := ⟨9, [(.lit (.slice none 0 0)),(.lit (.slice none 0 0))], [], [((.val eB0), [])]⟩
theorem hWordForms181_ok : HOk Tryd.prog hWordForms181 := hok_eq mmWordForms_ok hmWordForms181_ok folWordForms (lf := 100000) (k := 1000) (by kernel_rfl)
def hmWordForms182 : List HE := hWordForms181 :: hmWordForms181
theorem hmWordForms182_ok : ∀ x ∈ hmWordForms182, HOk Tryd.prog x := hmemo_cons hWordForms181_ok hmWordForms181_ok
def bwordForms81 : Blk := ⟨[(eI 9)],3,[(0,1)],1,0,false,0,none⟩
def bwordForms82 : Blk := ⟨[(eI 1),(eI 1)],3,[(0,2)],1,0,false,0,none⟩
def hWordForms182 : HE := ⟨9, [(.sl 0 0 0 1 (some 1) 1),(.sl 1 0 0 2 (some 2) 1)], [bwordForms81, bwordForms82], [((.val eB1), [])]⟩
theorem hWordForms182_ok : HOk Tryd.prog hWordForms182 := hok_eq mmWordForms_ok hmWordForms182_ok folWordForms (lf := 100000) (k := 1000) (by kernel_rfl)
def hmWordForms183 : List HE := hWordForms182 :: hmWordForms182
theorem hmWordForms183_ok : ∀ x ∈ hmWordForms183, HOk Tryd.prog x := hmemo_cons hWordForms182_ok hmWordForms182_ok
def bwordForms83 : Blk := ⟨[(eI 1),(eI 2)],3,[(0,2)],1,0,false,0,none⟩
def bwordForms84 : Blk := ⟨[(eI 1),(eI 3)],3,[(0,2)],1,0,false,0,none⟩
def hWordForms183 : HE := ⟨9, [(.sl 0 0 0 2 (some 2) 1),(.sl 1 0 0 2 (some 2) 1)], [bwordForms83, bwordForms84], [((.val eB1), [])]⟩
theorem hWordForms183_ok : HOk Tryd.prog hWordForms183 := hok_eq mmWordForms_ok hmWordForms183_ok folWordForms (lf := 100000) (k := 1000) (by kernel_rfl)
def hmWordForms184 : List HE := hWordForms183 :: hmWordForms183
theorem hmWordForms184_ok : ∀ x ∈ hmWordForms184, HOk Tryd.prog x := hmemo_cons hWordForms183_ok hmWordForms183_ok
def bwordForms85 : Blk := ⟨[(eI 1),(eS [83]),(eI 1),(eI 1),(eI 3),(eS [58]),(eI 1),(eI 2),(eI 2),(eS [97]),(eI 1),(eI 4),(eI 1),(eS [83]),(eI 1),(eI 6),(eI 4),(eS [124]),(eI 1),(eI 8),(eI 2),(eS [98]),(eI 1),(eI 10),(eI 5),(eS []),(eI 1),(eI 11)],67,[(6,28),(5,24),(4,20),(3,16),(2,12),(1,8),(0,4)],7,0,false,6,none⟩
def hWordForms184 : HE := ⟨28, [(eS [83,58,32,97,32,83,32,124,32,98,10])], [], [((.val (.tup [(.sl 0 6 0 7 none 4),(eI 0),(eI 0)])), [bwordForms85])]⟩
theorem hWordForms184_ok : HOk Tryd.prog hWordForms184 := hok_eq mmWordForms_ok hmWordForms184_ok folWordForms (lf := 100000) (k := 1000) (by kernel_rfl)
def hmWordForms185 : List HE := hWordForms184 :: hmWordForms184
theorem hmWordForms185_ok : ∀ x ∈ hmWordForms185, HOk Tryd.prog x := hmemo_cons hWordForms184_ok hmWordForms184_ok
def bwordForms86 : Blk := ⟨[(eI 1),(eS [83]),(eI 1),(eI 1),(.sl 2 4 0 5 none 4)],71,[(0,5)],1,0,false,0,none⟩
def bwordForms87 : Blk := ⟨[(eI 2),(eS [97]),(eI 1),(eI 4),(eI 1),(eS [83]),(eI 1),(eI 6),(eI 4),(eS [124]),(eI 1),(eI 8),(eI 2),(eS [98]),(eI 1),(eI 10),(eI 5),(eS []),(eI 1),(eI 11)],67,[(4,20),(3,16),(2,12),(1,8),(0,4)],5,0,false,4,none⟩
def hWordForms185 : HE := ⟨29, [(.sl 0 6 0 7 none 4)], [bwordForms85], [((.val (.tup [(.sl 1 0 0 1 none 5),(.agg [(eI 0),(eS []),(eI 0),(eI 0)]),eB1])), [bwordForms86, bwordForms87])]⟩
theorem hWordForms185_ok : HOk Tryd.prog hWordForms185 := hok_eq mmWordForms_ok hmWordForms185_ok folWordForms (lf := 100000) (k := 1000) (by kernel_rfl)
def hmWordForms186 : List HE := hWordForms185 :: hmWordForms185
theorem hmWordForms186_ok : ∀ x ∈ hmWordForms186, HOk Tryd.prog x := hmemo_cons hWordForms185_ok hmWordForms185_ok
def bwordForms88 : Blk := ⟨[(eS [97]),(eS [98])],9,[(1,2),(0,1)],2,0,false,1,none⟩
def bwordForms89 : Blk := ⟨[(eS [83])],9,[(0,1)],1,0,false,0,none⟩
def bwordForms90 : Blk := ⟨[(eI 100),(.sl 3 1 0 2 none 1),(eI 100),(.sl 4 0 0 1 none 1)],37,[(1,4),(0,2)],2,0,false,1,none⟩
def bwordForms91 : Blk := ⟨[(eI 1),(eI 100)],3,[(1,2),(0,1)],2,0,false,1,none⟩
def hWordForms186 : HE := ⟨13, [(eS [83,58,32,97,32,83,32,124,32,98,10])], [], [((.val (.tup [(.agg [(.sl 0 1 0 2 none 1),(.sl 1 0 0 1 none 1),(.sl 2 1 0 2 none 2)]),(eI 0),(eI 0),(eI 0)])), [bwordForms88, bwordForms89, bwordForms90, bwordForms91, bwordForms16])]⟩
theorem hWordForms186_ok : HOk Tryd.prog hWordForms186 := hok_eq mmWordForms_ok hmWordForms186_ok folWordForms (lf := 100000) (k := 1000) (by kernel_rfl)
def hmWordForms187 : List HE := hWordForms186 :: hmWordForms186
theorem hmWordForms187_ok : ∀ x ∈ hmWordForms187, HOk Tryd.prog x := hmemo_cons hWordForms186_ok hmWordForms186_ok
def hWordForms187 : HE := ⟨45, [(.agg [(.sl 0 1 0 2 none 1),(.sl 1 0 0 1 none 1),(.sl 2 1 0 2 none 2)])], [bwordForms88, bwordForms89, bwordForms90, bwordForms91, bwordForms16], [((.val eB1), [])]⟩
theorem hWordForms187_ok : HOk Tryd.prog hWordForms187 := hok_eq mmWordForms_ok hmWordForms187_ok folWordForms (lf := 100000) (k := 1000) (by kernel_rfl)
def hmWordForms188 : List HE := hWordForms187 :: hmWordForms187
theorem hmWordForms188_ok : ∀ x ∈ hmWordForms188, HOk Tryd.prog x := hmemo_cons hWordForms187_ok hmWordForms187_ok
def hWordForms188 : HE := ⟨46, [(.agg [(.sl 0 1 0 2 none 1),(.sl 1 0 0 1 none 1),(.sl 2 1 0 2 none 2)])], [bwordForms88, bwordForms89, bwordForms90, bwordForms91, bwordForms16], [((.val eB1), [])]⟩
theorem hWordForms188_ok : HOk Tryd.prog hWordForms188 := hok_eq mmWordForms_ok hmWordForms188_ok folWordForms (lf := 100000) (k := 1000) (by kernel_rfl)
def hmWordForms189 : List HE := hWordForms188 :: hmWordForms188
theorem hmWordForms189_ok : ∀ x ∈ hmWordForms189, HOk Tryd.prog x := hmemo_cons hWordForms188_ok hmWordForms188_ok
def hWordForms189 : HE := ⟨31, [(.agg [(.sl 0 1 0 2 none 1),(.sl 1 0 0 1 none 1),(.sl 2 1 0 2 none 2)])], [bwordForms88, bwordForms89, bwordForms90, bwordForms91, bwordForms16], [((.val (eI 0)), [])]⟩
theorem hWordForms189_ok : HOk Tryd.prog hWordForms189 := hok_eq mmWordForms_ok hmWordForms189_ok folWordForms (lf := 100000) (k := 1000) (by kernel_rfl)
def hmWordForms190 : List HE := hWordForms189 :: hmWordForms189
theorem hmWordForms190_ok : ∀ x ∈ hmWordForms190, HOk Tryd.prog x := hmemo_cons hWordForms189_ok hmWordForms189_ok
def bwordForms92 : Blk := ⟨[(.sl 1 0 0 1 (some 1) 1),(.sl 2 0 0 1 (some 1) 1)],75,[(0,2)],1,0,false,0,none⟩
def bwordForms93 : Blk := ⟨[(.lit (.slice none 0 0))],22,[(0,1)],1,0,false,0,none⟩
def bwordForms94 : Blk := ⟨[eB0],4,[(0,1)],1,0,false,0,none⟩
def hWordForms190 : HE := ⟨49, [(.ptr 0 0 0),(.sl 3 1 0 2 none 1)], [bwordForms92, bwordForms93, bwordForms94, bwordForms91], [((.val (.tup [(.lit (.slice none 0 0)),eB0])), [])]⟩
theorem hWordForms190_ok : HOk Tryd.prog hWordForms190 := hok_eq mmWordForms_ok hmWordForms190_ok folWordForms (lf := 100000) (k := 1000) (by kernel_rfl)
def hmWordForms191 : List HE := hWordForms190 :: hmWordForms190
theorem hmWordForms191_ok : ∀ x ∈ hmWordForms191, HOk Tryd.prog x := hmemo_cons hWordForms190_ok hmWordForms190_ok
def hWordForms191 : HE := ⟨49, [(.ptr 0 0 0),(.sl 3 0 0 1 none 1)], [bwordForms92, bwordForms93, bwordForms94, bwordForms16], [((.val (.tup [(.sl 4 0 0 1 none 1),eB1])), [bwordForms16])]⟩
theorem hWordForms191_ok : HOk Tryd.prog hWordForms191 := hok_eq mmWordForms_ok hmWordForms191_ok folWordForms (lf := 100000) (k := 1000) (by kernel_rfl)
def hmWordForms192 : List HE := hWordForms191 :: hmWordForms191
theorem hmWordForms192_ok : ∀ x ∈ hmWordForms192, HOk Tryd.prog x := hmemo_cons hWordForms191_ok hmWordForms191_ok
def bwordForms95 : Blk := ⟨[(.sl 1 0 0 1 (some 1) 1),(.sl 3 0 0 1 (some 1) 1)],75,[(0,2)],1,0,false,0,none⟩
def bwordForms96 : Blk := ⟨[(.sl 2 0 0 1 none 1)],22,[(0,1)],1,0,false,1,none⟩
def bwordForms97 : Blk := ⟨[eB1],4,[(0,1)],1,0,false,1,none⟩
def bwordForms98 : Blk := ⟨[(eI 1),(eI 2)],3,[(1,2),(0,1)],2,0,false,1,none⟩
def hWordForms192 : HE := ⟨49, [(.ptr 0 0 0),(.sl 4 1 0 2 none 1)], [bwordForms95, bwordForms96, bwordForms16, bwordForms97, bwordForms91], [((.val (.tup [(.sl 5 1 0 2 none 1),eB1])), [bwordForms98])]⟩
theorem hWordForms192_ok : HOk Tryd.prog hWordForms192 := hok_eq mmWordForms_ok hmWordForms192_ok folWordForms (lf := 100000) (k := 1000) (by kernel_rfl)
def hmWordForms193 : List HE := hWordForms192 :: hmWordForms192
theorem hmWordForms193_ok : ∀ x ∈ hmWordForms193, HOk Tryd.prog x := hmemo_cons hWordForms192_ok hmWordForms192_ok
def hWordForms193 : HE := ⟨9, [(.sl 0 1 0 2 none 1),(.sl 1 0 0 1 none 1)], [bwordForms98, bwordForms16], [((.val eB0), [])]⟩
theorem hWordForms193_ok : HOk Tryd.prog hWordForms193 := hok_eq mmWordForms_ok hmWordForms193_ok folWordForms (lf := 100000) (k := 1000) (by kernel_rfl)
def hmWordForms194 : List HE := hWordForms193 :: hmWordForms193
theorem hmWordForms194_ok : ∀ x ∈ hmWordForms194, HOk Tryd.prog x := hmemo_cons hWordForms193_ok hmWordForms193_ok
def hWordForms194 : HE := ⟨49, [(.ptr 0 0 0),(.sl 4 0 0 1 none 1)], [bwordForms95, bwordForms96, bwordForms16, bwordForms97, bwordForms16], [((.val (.tup [(.sl 5 0 0 1 none 1),eB1])), [bwordForms16])]⟩
theorem hWordForms194_ok : HOk Tryd.prog hWordForms194 := hok_eq mmWordForms_ok hmWordForms194_ok folWordForms (lf := 100000) (k := 1000) (by kernel_rfl)
def hmWordForms195 : List HE := hWordForms194 :: hmWordForms194
theorem hmWordForms195_ok : ∀ x ∈ hmWordForms195, HOk Tryd.prog x := hmemo_cons hWordForms194_ok hmWordForms194_ok
def bwordForms99 : Blk := ⟨[(.sl 6 0 0 1 (some 1) 1),(.sl 8 0 0 1 (some 1) 1)],75,[(0,2)],1,0,false,0,none⟩
def bwordForms100 : Blk := ⟨[(.sl 7 0 0 1 none 1)],22,[(0,1)],1,0,false,1,none⟩
def hWordForms195 : HE := ⟨32, [(.agg [(.sl 0 1 0 2 none 1),(.sl 1 0 0 1 none 1),(.sl 2 1 0 2 none 2)])], [bwordForms88, bwordForms89, bwordForms90, bwordForms91, bwordForms16], [((.val (.ptr 5 0 0)), [bwordForms99, bwordForms100, bwordForms16, bwordForms97])]⟩
theorem hWordForms195_ok : HOk Tryd.prog hWordForms195 := hok_eq mmWordForms_ok hmWordForms195_ok folWordForms (lf := 100000) (k := 1000) (by kernel_rfl)
def hmWordForms196 : List HE := hWordForms195 :: hmWordForms195
theorem hmWordForms196_ok : ∀ x ∈ hmWordForms196, HOk Tryd.prog x := hmemo_cons hWordForms195_ok hmWordForms195_ok
def bwordForms101 : Blk := ⟨[(.sl 6 0 0 1 none 1)],22,[(0,1)],1,0,false,1,none⟩
def hWordForms196 : HE := ⟨15, [(.agg [(.sl 0 1 0 2 none 1),(.sl 1 0 0 1 none 1),(.sl 2 1 0 2 none 2)])], [bwordForms88, bwordForms89, bwordForms90, bwordForms91, bwordForms16], [((.val (.tup [(.sl 5 0 0 1 (some 1) 1),(eI 0)])), [bwordForms101, bwordForms16])]⟩
theorem hWordForms196_ok : HOk Tryd.prog hWordForms196 := hok_eq mmWordForms_ok hmWordForms196_ok folWordForms (lf := 100000) (k := 1000) (by kernel_rfl)
def hmWordForms197 : List HE := hWordForms196 :: hmWordForms196
theorem hmWordForms197_ok : ∀ x ∈ hmWordForms197, HOk Tryd.prog x := hmemo_cons hWordForms196_ok hmWordForms196_ok
def hWordForms197 : HE := ⟨9, [(.sl 0 0 0 1 (some 1) 1),(.sl 1 0 0 2 (some 2) 1)], [bwordForms16, bwordForms82], [((.val eB1), [])]⟩
theorem hWordForms197_ok : HOk Tryd.prog hWordForms197 := hok_eq mmWordForms_ok hmWordForms197_ok folWordForms (lf := 100000) (k := 1000) (by kernel_rfl)
def hmWordForms198 : List HE := hWordForms197 :: hmWordForms197
theorem hmWordForms198_ok : ∀ x ∈ hmWordForms198, HOk Tryd.prog x := hmemo_cons hWordForms197_ok hmWordForms197_ok
def hWordForms198 : HE := ⟨12, [], [], [((.val eB1), [])]⟩
theorem hWordForms198_ok : HOk Tryd.prog hWordForms198 := hok_eq mmWordForms_ok hmWordForms198_ok folWordForms (lf := 100000) (k := 1000) (by kernel_rfl)
def hmWordForms199 : List HE := hWordForms198 :: hmWordForms198
theorem hmWordForms199_ok : ∀ x ∈ hmWordForms199, HOk Tryd.prog x := hmemo_cons hWordForms198_ok hmWordForms198_ok
end Go.Proofs.YtiaimendiblgfaaDoor.E
