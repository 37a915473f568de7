/- Calls that ReachForms makes, each carried out once over the memory that it is given. -/
import Derived.Test.YtcilipbgkpejeaaDoorEWithin
import Derived.Test.YtcilipbgkpejeaaDoorEView3
import Derived.Test.YtcilipbgkpejeaaDoorProg
import Derived.KernelRfl
namespace Go.Proofs.YtcilipbgkpejeaaDoor.E
open Go Go.EV Go.RowKit Go.Proofs
set_option linter.unusedVariables false
set_option maxRecDepth 100000
abbrev eI (n : Nat) : AV := .lit (.int .i64 (Int.ofNat n))
abbrev eU (n : Nat) : AV := .lit (.int .u8 (Int.ofNat n))
abbrev eS (l : List Nat) : AV := .lit (.string (sb l))
abbrev eT (l : List Nat) : AV := .lit (.string (sb l))
abbrev eB1 : AV := .lit (.bool true)
abbrev eB0 : AV := .lit (.bool false)
def mmReachForms : Memo := [(21, [.any .i64, .lit (.int .i64 (Int.ofNat 8))], upto 8)]
theorem mmReachForms_ok : ∀ x ∈ mmReachForms, Contract Tryd.prog x := memo_cons (within_c 8 (by omega)) (memo_nil _)
theorem folReachForms : Tryd.prog.follows .mixedOrders = true := by kernel_rfl
def hmReachForms0 : List HE := []
theorem hmReachForms0_ok : ∀ x ∈ hmReachForms0, HOk Tryd.prog x := hmemo_nil _
def hReachForms0 : HE := ⟨49, [(eU 83)], [], [((.val eB1), [])]⟩
theorem hReachForms0_ok : HOk Tryd.prog hReachForms0 := hok_eq mmReachForms_ok hmReachForms0_ok folReachForms (lf := 100000) (k := 1000) (by kernel_rfl)
def hmReachForms1 : List HE := hReachForms0 :: hmReachForms0
theorem hmReachForms1_ok : ∀ x ∈ hmReachForms1, HOk Tryd.prog x := hmemo_cons hReachForms0_ok hmReachForms0_ok
def hReachForms1 : HE := ⟨49, [(eU 58)], [], [((.val eB0), [])]⟩
theorem hReachForms1_ok : HOk Tryd.prog hReachForms1 := hok_eq mmReachForms_ok hmReachForms1_ok folReachForms (lf := 100000) (k := 1000) (by kernel_rfl)
def hmReachForms2 : List HE := hReachForms1 :: hmReachForms1
theorem hmReachForms2_ok : ∀ x ∈ hmReachForms2, HOk Tryd.prog x := hmemo_cons hReachForms1_ok hmReachForms1_ok
def hReachForms2 : HE := ⟨50, [(eU 58)], [], [((.val eB0), [])]⟩
theorem hReachForms2_ok : HOk Tryd.prog hReachForms2 := hok_eq mmReachForms_ok hmReachForms2_ok folReachForms (lf := 100000) (k := 1000) (by kernel_rfl)
def hmReachForms3 : List HE := hReachForms2 :: hmReachForms2
theorem hmReachForms3_ok : ∀ x ∈ hmReachForms3, HOk Tryd.prog x := hmemo_cons hReachForms2_ok hmReachForms2_ok
def hReachForms3 : HE := ⟨44, [(eS [83])], [], [((.val eB1), [])]⟩
theorem hReachForms3_ok : HOk Tryd.prog hReachForms3 := hok_eq mmReachForms_ok hmReachForms3_ok folReachForms (lf := 100000) (k := 1000) (by kernel_rfl)
def hmReachForms4 : List HE := hReachForms3 :: hmReachForms3
theorem hmReachForms4_ok : ∀ x ∈ hmReachForms4, HOk Tryd.prog x := hmemo_cons hReachForms3_ok hmReachForms3_ok
def hReachForms4 : HE := ⟨49, [(eU 65)], [], [((.val eB1), [])]⟩
theorem hReachForms4_ok : HOk Tryd.prog hReachForms4 := hok_eq mmReachForms_ok hmReachForms4_ok folReachForms (lf := 100000) (k := 1000) (by kernel_rfl)
def hmReachForms5 : List HE := hReachForms4 :: hmReachForms4
theorem hmReachForms5_ok : ∀ x ∈ hmReachForms5, HOk Tryd.prog x := hmemo_cons hReachForms4_ok hmReachForms4_ok
def hReachForms5 : HE := ⟨49, [(eU 32)], [], [((.val eB0), [])]⟩
theorem hReachForms5_ok : HOk Tryd.prog hReachForms5 := hok_eq mmReachForms_ok hmReachForms5_ok folReachForms (lf := 100000) (k := 1000) (by kernel_rfl)
def hmReachForms6 : List HE := hReachForms5 :: hmReachForms5
theorem hmReachForms6_ok : ∀ x ∈ hmReachForms6, HOk Tryd.prog x := hmemo_cons hReachForms5_ok hmReachForms5_ok
def hReachForms6 : HE := ⟨50, [(eU 32)], [], [((.val eB0), [])]⟩
theorem hReachForms6_ok : HOk Tryd.prog hReachForms6 := hok_eq mmReachForms_ok hmReachForms6_ok folReachForms (lf := 100000) (k := 1000) (by kernel_rfl)
def hmReachForms7 : List HE := hReachForms6 :: hmReachForms6
theorem hmReachForms7_ok : ∀ x ∈ hmReachForms7, HOk Tryd.prog x := hmemo_cons hReachForms6_ok hmReachForms6_ok
def hReachForms7 : HE := ⟨44, [(eS [65])], [], [((.val eB1), [])]⟩
theorem hReachForms7_ok : HOk Tryd.prog hReachForms7 := hok_eq mmReachForms_ok hmReachForms7_ok folReachForms (lf := 100000) (k := 1000) (by kernel_rfl)
def hmReachForms8 : List HE := hReachForms7 :: hmReachForms7
theorem hmReachForms8_ok : ∀ x ∈ hmReachForms8, HOk Tryd.prog x := hmemo_cons hReachForms7_ok hmReachForms7_ok
def hReachForms8 : HE := ⟨49, [(eU 66)], [], [((.val eB1), [])]⟩
theorem hReachForms8_ok : HOk Tryd.prog hReachForms8 := hok_eq mmReachForms_ok hmReachForms8_ok folReachForms (lf := 100000) (k := 1000) (by kernel_rfl)
def hmReachForms9 : List HE := hReachForms8 :: hmReachForms8
theorem hmReachForms9_ok : ∀ x ∈ hmReachForms9, HOk Tryd.prog x := hmemo_cons hReachForms8_ok hmReachForms8_ok
def hReachForms9 : HE := ⟨44, [(eS [66])], [], [((.val eB1), [])]⟩
theorem hReachForms9_ok : HOk Tryd.prog hReachForms9 := hok_eq mmReachForms_ok hmReachForms9_ok folReachForms (lf := 100000) (k := 1000) (by kernel_rfl)
def hmReachForms10 : List HE := hReachForms9 :: hmReachForms9
theorem hmReachForms10_ok : ∀ x ∈ hmReachForms10, HOk Tryd.prog x := hmemo_cons hReachForms9_ok hmReachForms9_ok
def hReachForms10 : HE := ⟨49, [(eU 97)], [], [((.val eB1), [])]⟩
theorem hReachForms10_ok : HOk Tryd.prog hReachForms10 := hok_eq mmReachForms_ok hmReachForms10_ok folReachForms (lf := 100000) (k := 1000) (by kernel_rfl)
def hmReachForms11 : List HE := hReachForms10 :: hmReachForms10
theorem hmReachForms11_ok : ∀ x ∈ hmReachForms11, HOk Tryd.prog x := hmemo_cons hReachForms10_ok hmReachForms10_ok
def hReachForms11 : HE := ⟨44, [(eS [97])], [], [((.val eB1), [])]⟩
theorem hReachForms11_ok : HOk Tryd.prog hReachForms11 := hok_eq mmReachForms_ok hmReachForms11_ok folReachForms (lf := 100000) (k := 1000) (by kernel_rfl)
def hmReachForms12 : List HE := hReachForms11 :: hmReachForms11
theorem hmReachForms12_ok : ∀ x ∈ hmReachForms12, HOk Tryd.prog x := hmemo_cons hReachForms11_ok hmReachForms11_ok
def hReachForms12 : HE := ⟨49, [(eU 85)], [], [((.val eB1), [])]⟩
theorem hReachForms12_ok : HOk Tryd.prog hReachForms12 := hok_eq mmReachForms_ok hmReachForms12_ok folReachForms (lf := 100000) (k := 1000) (by kernel_rfl)
def hmReachForms13 : List HE := hReachForms12 :: hmReachForms12
theorem hmReachForms13_ok : ∀ x ∈ hmReachForms13, HOk Tryd.prog x := hmemo_cons hReachForms12_ok hmReachForms12_ok
def hReachForms13 : HE := ⟨49, [(eU 10)], [], [((.val eB0), [])]⟩
theorem hReachForms13_ok : HOk Tryd.prog hReachForms13 := hok_eq mmReachForms_ok hmReachForms13_ok folReachForms (lf := 100000) (k := 1000) (by kernel_rfl)
def hmReachForms14 : List HE := hReachForms13 :: hmReachForms13
theorem hmReachForms14_ok : ∀ x ∈ hmReachForms14, HOk Tryd.prog x := hmemo_cons hReachForms13_ok hmReachForms13_ok
def hReachForms14 : HE := ⟨50, [(eU 10)], [], [((.val eB0), [])]⟩
theorem hReachForms14_ok : HOk Tryd.prog hReachForms14 := hok_eq mmReachForms_ok hmReachForms14_ok folReachForms (lf := 100000) (k := 1000) (by kernel_rfl)
def hmReachForms15 : List HE := hReachForms14 :: hmReachForms14
theorem hmReachForms15_ok : ∀ x ∈ hmReachForms15, HOk Tryd.prog x := hmemo_cons hReachForms14_ok hmReachForms14_ok
def hReachForms15 : HE := ⟨44, [(eS [85])], [], [((.val eB1), [])]⟩
theorem hReachForms15_ok : HOk Tryd.prog hReachForms15 := hok_eq mmReachForms_ok hmReachForms15_ok folReachForms (lf := 100000) (k := 1000) (by kernel_rfl)
def hmReachForms16 : List HE := hReachForms15 :: hmReachForms15
theorem hmReachForms16_ok : ∀ x ∈ hmReachForms16, HOk Tryd.prog x := hmemo_cons hReachForms15_ok hmReachForms15_ok
def hReachForms16 : HE := ⟨49, [(eU 98)], [], [((.val eB1), [])]⟩
theorem hReachForms16_ok : HOk Tryd.prog hReachForms16 := hok_eq mmReachForms_ok hmReachForms16_ok folReachForms (lf := 100000) (k := 1000) (by kernel_rfl)
def hmReachForms17 : List HE := hReachForms16 :: hmReachForms16
theorem hmReachForms17_ok : ∀ x ∈ hmReachForms17, HOk Tryd.prog x := hmemo_cons hReachForms16_ok hmReachForms16_ok
def hReachForms17 : HE := ⟨44, [(eS [98])], [], [((.val eB1), [])]⟩
theorem hReachForms17_ok : HOk Tryd.prog hReachForms17 := hok_eq mmReachForms_ok hmReachForms17_ok folReachForms (lf := 100000) (k := 1000) (by kernel_rfl)
def hmReachForms18 : List HE := hReachForms17 :: hmReachForms17
theorem hmReachForms18_ok : ∀ x ∈ hmReachForms18, HOk Tryd.prog x := hmemo_cons hReachForms17_ok hmReachForms17_ok
def hReachForms18 : HE := ⟨49, [(eU 86)], [], [((.val eB1), [])]⟩
theorem hReachForms18_ok : HOk Tryd.prog hReachForms18 := hok_eq mmReachForms_ok hmReachForms18_ok folReachForms (lf := 100000) (k := 1000) (by kernel_rfl)
def hmReachForms19 : List HE := hReachForms18 :: hmReachForms18
theorem hmReachForms19_ok : ∀ x ∈ hmReachForms19, HOk Tryd.prog x := hmemo_cons hReachForms18_ok hmReachForms18_ok
def hReachForms19 : HE := ⟨44, [(eS [86])], [], [((.val eB1), [])]⟩
theorem hReachForms19_ok : HOk Tryd.prog hReachForms19 := hok_eq mmReachForms_ok hmReachForms19_ok folReachForms (lf := 100000) (k := 1000) (by kernel_rfl)
def hmReachForms20 : List HE := hReachForms19 :: hmReachForms19
theorem hmReachForms20_ok : ∀ x ∈ hmReachForms20, HOk Tryd.prog x := hmemo_cons hReachForms19_ok hmReachForms19_ok
def breachForms1 : Blk := ⟨[(eI 1),(eS [83]),(eI 1),(eI 1),(eI 3),(eS [58]),(eI 1),(eI 2),(eI 1),(eS [65]),(eI 1),(eI 4),(eI 1),(eS [66]),(eI 1),(eI 6),(eI 4),(eS [124]),(eI 1),(eI 8),(eI 2),(eS [97]),(eI 1),(eI 10),(eI 1),(eS [85]),(eI 1),(eI 12),(eI 5),(eS []),(eI 1),(eI 13),(eI 1),(eS [65]),(eI 2),(eI 1),(eI 3),(eS [58]),(eI 2),(eI 2),(eI 4),(eS [124]),(eI 2),(eI 4),(eI 2),(eS [97]),(eI 2),(eI 6),(eI 5),(eS []),(eI 2),(eI 7),(eI 1),(eS [66]),(eI 3),(eI 1),(eI 3),(eS [58]),(eI 3),(eI 2),(eI 1),(eS [65]),(eI 3),(eI 4),(eI 1),(eS [65]),(eI 3),(eI 6),(eI 5),(eS []),(eI 3),(eI 7),(eI 1),(eS [85]),(eI 4),(eI 1),(eI 3),(eS [58]),(eI 4),(eI 2),(eI 1),(eS [85]),(eI 4),(eI 4),(eI 2),(eS [98]),(eI 4),(eI 6),(eI 5),(eS []),(eI 4),(eI 7),(eI 1),(eS [86]),(eI 5),(eI 1),(eI 3),(eS [58]),(eI 5),(eI 2),(eI 2),(eS [97]),(eI 5),(eI 4),(eI 1),(eS [86]),(eI 5),(eI 6),(eI 4),(eS [124]),(eI 5),(eI 8),(eI 2),(eS [98]),(eI 5),(eI 10),(eI 5),(eS []),(eI 5),(eI 11)],72,[(29,120),(28,116),(27,112),(26,108),(25,104),(24,100),(23,96),(22,92),(21,88),(20,84),(19,80),(18,76),(17,72),(16,68),(15,64),(14,60),(13,56),(12,52),(11,48),(10,44),(9,40),(8,36),(7,32),(6,28),(5,24),(4,20),(3,16),(2,12),(1,8),(0,4)],30,0,false,29,none⟩
def treachForms1 : List Nat := [83,58,32,65,32,66,32,124,32,97,32,85,10,65,58,32,124,32,97,10,66,58,32,65,32,65,10,85,58,32,85,32,98,10,86,58,32,97,32,86,32,124,32,98,10]
def hReachForms20 : HE := ⟨34, [(eT treachForms1)], [], [((.val (.tup [(.sl 0 29 0 30 none 4),(eI 0),(eI 0)])), [breachForms1])]⟩
theorem hReachForms20_ok : HOk Tryd.prog hReachForms20 := hok_eq mmReachForms_ok hmReachForms20_ok folReachForms (lf := 100000) (k := 1000) (by kernel_rfl)
def hmReachForms21 : List HE := hReachForms20 :: hmReachForms20
theorem hmReachForms21_ok : ∀ x ∈ hmReachForms21, HOk Tryd.prog x := hmemo_cons hReachForms20_ok hmReachForms20_ok
def breachForms2 : Blk := ⟨[(eI 1),(eS [83]),(eI 1),(eI 1),(.sl 2 5 0 6 none 4),(eI 1),(eS [65]),(eI 2),(eI 1),(.sl 3 2 0 3 none 4),(eI 1),(eS [66]),(eI 3),(eI 1),(.sl 4 2 0 3 none 4),(eI 1),(eS [85]),(eI 4),(eI 1),(.sl 5 2 0 3 none 4),(eI 1),(eS [86]),(eI 5),(eI 1),(.sl 6 4 0 5 none 4)],76,[(4,25),(3,20),(2,15),(1,10),(0,5)],5,0,false,4,none⟩
def breachForms3 : Blk := ⟨[(eI 1),(eS [65]),(eI 1),(eI 4),(eI 1),(eS [66]),(eI 1),(eI 6),(eI 4),(eS [124]),(eI 1),(eI 8),(eI 2),(eS [97]),(eI 1),(eI 10),(eI 1),(eS [85]),(eI 1),(eI 12),(eI 5),(eS []),(eI 1),(eI 13)],72,[(5,24),(4,20),(3,16),(2,12),(1,8),(0,4)],6,0,false,5,none⟩
def breachForms4 : Blk := ⟨[(eI 4),(eS [124]),(eI 2),(eI 4),(eI 2),(eS [97]),(eI 2),(eI 6),(eI 5),(eS []),(eI 2),(eI 7)],72,[(2,12),(1,8),(0,4)],3,0,false,2,none⟩
def breachForms5 : Blk := ⟨[(eI 1),(eS [65]),(eI 3),(eI 4),(eI 1),(eS [65]),(eI 3),(eI 6),(eI 5),(eS []),(eI 3),(eI 7)],72,[(2,12),(1,8),(0,4)],3,0,false,2,none⟩
def breachForms6 : Blk := ⟨[(eI 1),(eS [85]),(eI 4),(eI 4),(eI 2),(eS [98]),(eI 4),(eI 6),(eI 5),(eS []),(eI 4),(eI 7)],72,[(2,12),(1,8),(0,4)],3,0,false,2,none⟩
def breachForms7 : Blk := ⟨[(eI 2),(eS [97]),(eI 5),(eI 4),(eI 1),(eS [86]),(eI 5),(eI 6),(eI 4),(eS [124]),(eI 5),(eI 8),(eI 2),(eS [98]),(eI 5),(eI 10),(eI 5),(eS []),(eI 5),(eI 11)],72,[(4,20),(3,16),(2,12),(1,8),(0,4)],5,0,false,4,none⟩
def hReachForms21 : HE := ⟨35, [(.sl 0 29 0 30 none 4)], [breachForms1], [((.val (.tup [(.sl 1 4 0 5 none 5),(.agg [(eI 0),(eS []),(eI 0),(eI 0)]),eB1])), [breachForms2, breachForms3, breachForms4, breachForms5, breachForms6, breachForms7])]⟩
theorem hReachForms21_ok : HOk Tryd.prog hReachForms21 := hok_eq mmReachForms_ok hmReachForms21_ok folReachForms (lf := 100000) (k := 1000) (by kernel_rfl)
def hmReachForms22 : List HE := hReachForms21 :: hmReachForms21
theorem hmReachForms22_ok : ∀ x ∈ hmReachForms22, HOk Tryd.prog x := hmemo_cons hReachForms21_ok hmReachForms21_ok
def breachForms8 : Blk := ⟨[(eS [97]),(eS [98])],9,[(1,2),(0,1)],2,0,false,1,none⟩
def breachForms9 : Blk := ⟨[(eS [83]),(eS [65]),(eS [66]),(eS [85]),(eS [86])],9,[(4,5),(3,4),(2,3),(1,2),(0,1)],5,0,false,4,none⟩
def breachForms10 : Blk := ⟨[(eI 100),(.sl 3 1 0 2 none 1),(eI 100),(.sl 4 1 0 2 none 1),(eI 101),(.lit (.slice none 0 0)),(eI 101),(.sl 5 0 0 1 none 1),(eI 102),(.sl 6 1 0 2 none 1),(eI 103),(.sl 7 1 0 2 none 1),(eI 104),(.sl 8 1 0 2 none 1),(eI 104),(.sl 9 0 0 1 none 1)],50,[(7,16),(6,14),(5,12),(4,10),(3,8),(2,6),(1,4),(0,2)],8,0,false,7,none⟩
def breachForms11 : Blk := ⟨[(eI 101),(eI 102)],3,[(1,2),(0,1)],2,0,false,1,none⟩
def breachForms12 : Blk := ⟨[(eI 1),(eI 103)],3,[(1,2),(0,1)],2,0,false,1,none⟩
def breachForms13 : Blk := ⟨[(eI 1)],3,[(0,1)],1,0,false,0,none⟩
def breachForms14 : Blk := ⟨[(eI 101),(eI 101)],3,[(1,2),(0,1)],2,0,false,1,none⟩
def breachForms15 : Blk := ⟨[(eI 103),(eI 2)],3,[(1,2),(0,1)],2,0,false,1,none⟩
def breachForms16 : Blk := ⟨[(eI 1),(eI 104)],3,[(1,2),(0,1)],2,0,false,1,none⟩
def breachForms17 : Blk := ⟨[(eI 2)],3,[(0,1)],1,0,false,0,none⟩
def hReachForms22 : HE := ⟨16, [(eT treachForms1)], [], [((.val (.tup [(.agg [(.sl 0 1 0 2 none 1),(.sl 1 4 0 5 none 1),(.sl 2 7 0 8 none 2)]),(eI 0),(eI 0),(eI 0)])), [breachForms8, breachForms9, breachForms10, breachForms11, breachForms12, breachForms13, breachForms14, breachForms15, breachForms16, breachForms17])]⟩
theorem hReachForms22_ok : HOk Tryd.prog hReachForms22 := hok_eq mmReachForms_ok hmReachForms22_ok folReachForms (lf := 100000) (k := 1000) (by kernel_rfl)
def hmReachForms23 : List HE := hReachForms22 :: hmReachForms22
theorem hmReachForms23_ok : ∀ x ∈ hmReachForms23, HOk Tryd.prog x := hmemo_cons hReachForms22_ok hmReachForms22_ok
def treachForms2 : List Nat := [65,66,67,68,69,70,71,72,73,74,75,76,77,78,79,80,81,82,83,84,85,86,87,88,89,90,97,98,99,100,101,102,103,104,105,106,107,108,109,110,111,112,113,114,115,116,117,118,119,120,121,122,48,49,50,51,52,53,54,55,56,57]
def hReachForms23 : HE := ⟨77, [(eT treachForms2)], [], [((.val (.tup [(.agg [eB0,eB0,eB0,eB0,eB0,eB0,eB0,eB0,eB0,eB0,eB0,eB0,eB0,eB0,eB0,eB0,eB0,eB0,eB0,eB0,eB0,eB0,eB0,eB0,eB0,eB0,eB0,eB0,eB0,eB0,eB0,eB0,eB0,eB0,eB0,eB0,eB0,eB0,eB0,eB0,eB0,eB0,eB0,eB0,eB0,eB0,eB0,eB0,eB1,eB1,eB1,eB1,eB1,eB1,eB1,eB1,eB1,eB1,eB0,eB0,eB0,eB0,eB0,eB0,eB0,eB1,eB1,eB1,eB1,eB1,eB1,eB1,eB1,eB1,eB1,eB1,eB1,eB1,eB1,eB1,eB1,eB1,eB1,eB1,eB1,eB1,eB1,eB1,eB1,eB1,eB1,eB0,eB0,eB0,eB0,eB0,eB0,eB1,eB1,eB1,eB1,eB1,eB1,eB1,eB1,eB1,eB1,eB1,eB1,eB1,eB1,eB1,eB1,eB1,eB1,eB1,eB1,eB1,eB1,eB1,eB1,eB1,eB1,eB0,eB0,eB0,eB0,eB0,eB0,eB0,eB0,eB0,eB0,eB0,eB0,eB0,eB0,eB0,eB0,eB0,eB0,eB0,eB0,eB0,eB0,eB0,eB0,eB0,eB0,eB0,eB0,eB0,eB0,eB0,eB0,eB0,eB0,eB0,eB0,eB0,eB0,eB0,eB0,eB0,eB0,eB0,eB0,eB0,eB0,eB0,eB0,eB0,eB0,eB0,eB0,eB0,eB0,eB0,eB0,eB0,eB0,eB0,eB0,eB0,eB0,eB0,eB0,eB0,eB0,eB0,eB0,eB0,eB0,eB0,eB0,eB0,eB0,eB0,eB0,eB0,eB0,eB0,eB0,eB0,eB0,eB0,eB0,eB0,eB0,eB0,eB0,eB0,eB0,eB0,eB0,eB0,eB0,eB0,eB0,eB0,eB0,eB0,eB0,eB0,eB0,eB0,eB0,eB0,eB0,eB0,eB0,eB0,eB0,eB0,eB0,eB0,eB0,eB0,eB0,eB0,eB0,eB0,eB0,eB0,eB0,eB0,eB0,eB0,eB0,eB0,eB0,eB0,eB0,eB0,eB0,eB0]),eB1])), [])]⟩
theorem hReachForms23_ok : HOk Tryd.prog hReachForms23 := hok_eq mmReachForms_ok hmReachForms23_ok folReachForms (lf := 100000) (k := 1000) (by kernel_rfl)
def hmReachForms24 : List HE := hReachForms23 :: hmReachForms23
theorem hmReachForms24_ok : ∀ x ∈ hmReachForms24, HOk Tryd.prog x := hmemo_cons hReachForms23_ok hmReachForms23_ok
def hReachForms24 : HE := ⟨60, [(eS [97])], [], [((.val eB1), [])]⟩
theorem hReachForms24_ok : HOk Tryd.prog hReachForms24 := hok_eq mmReachForms_ok hmReachForms24_ok folReachForms (lf := 100000) (k := 1000) (by kernel_rfl)
def hmReachForms25 : List HE := hReachForms24 :: hmReachForms24
theorem hmReachForms25_ok : ∀ x ∈ hmReachForms25, HOk Tryd.prog x := hmemo_cons hReachForms24_ok hmReachForms24_ok
def hReachForms25 : HE := ⟨60, [(eS [98])], [], [((.val eB1), [])]⟩
theorem hReachForms25_ok : HOk Tryd.prog hReachForms25 := hok_eq mmReachForms_ok hmReachForms25_ok folReachForms (lf := 100000) (k := 1000) (by kernel_rfl)
def hmReachForms26 : List HE := hReachForms25 :: hmReachForms25
theorem hmReachForms26_ok : ∀ x ∈ hmReachForms26, HOk Tryd.prog x := hmemo_cons hReachForms25_ok hmReachForms25_ok
def hReachForms26 : HE := ⟨60, [(eS [83])], [], [((.val eB1), [])]⟩
theorem hReachForms26_ok : HOk Tryd.prog hReachForms26 := hok_eq mmReachForms_ok hmReachForms26_ok folReachForms (lf := 100000) (k := 1000) (by kernel_rfl)
def hmReachForms27 : List HE := hReachForms26 :: hmReachForms26
theorem hmReachForms27_ok : ∀ x ∈ hmReachForms27, HOk Tryd.prog x := hmemo_cons hReachForms26_ok hmReachForms26_ok
def hReachForms27 : HE := ⟨60, [(eS [65])], [], [((.val eB1), [])]⟩
theorem hReachForms27_ok : HOk Tryd.prog hReachForms27 := hok_eq mmReachForms_ok hmReachForms27_ok folReachForms (lf := 100000) (k := 1000) (by kernel_rfl)
def hmReachForms28 : List HE := hReachForms27 :: hmReachForms27
theorem hmReachForms28_ok : ∀ x ∈ hmReachForms28, HOk Tryd.prog x := hmemo_cons hReachForms27_ok hmReachForms27_ok
def hReachForms28 : HE := ⟨60, [(eS [66])], [], [((.val eB1), [])]⟩
theorem hReachForms28_ok : HOk Tryd.prog hReachForms28 := hok_eq mmReachForms_ok hmReachForms28_ok folReachForms (lf := 100000) (k := 1000) (by kernel_rfl)
def hmReachForms29 : List HE := hReachForms28 :: hmReachForms28
theorem hmReachForms29_ok : ∀ x ∈ hmReachForms29, HOk Tryd.prog x := hmemo_cons hReachForms28_ok hmReachForms28_ok
def hReachForms29 : HE := ⟨60, [(eS [85])], [], [((.val eB1), [])]⟩
theorem hReachForms29_ok : HOk Tryd.prog hReachForms29 := hok_eq mmReachForms_ok hmReachForms29_ok folReachForms (lf := 100000) (k := 1000) (by kernel_rfl)
def hmReachForms30 : List HE := hReachForms29 :: hmReachForms29
theorem hmReachForms30_ok : ∀ x ∈ hmReachForms30, HOk Tryd.prog x := hmemo_cons hReachForms29_ok hmReachForms29_ok
def hReachForms30 : HE := ⟨60, [(eS [86])], [], [((.val eB1), [])]⟩
theorem hReachForms30_ok : HOk Tryd.prog hReachForms30 := hok_eq mmReachForms_ok hmReachForms30_ok folReachForms (lf := 100000) (k := 1000) (by kernel_rfl)
def hmReachForms31 : List HE := hReachForms30 :: hmReachForms30
theorem hmReachForms31_ok : ∀ x ∈ hmReachForms31, HOk Tryd.prog x := hmemo_cons hReachForms30_ok hmReachForms30_ok
def hReachForms31 : HE := ⟨52, [(.agg [(.sl 0 1 0 2 none 1),(.sl 1 4 0 5 none 1),(.sl 2 7 0 8 none 2)])], [breachForms8, breachForms9, breachForms10, breachForms11, breachForms12, breachForms13, breachForms14, breachForms15, breachForms16, breachForms17], [((.val eB1), [])]⟩
theorem hReachForms31_ok : HOk Tryd.prog hReachForms31 := hok_eq mmReachForms_ok hmReachForms31_ok folReachForms (lf := 100000) (k := 1000) (by kernel_rfl)
def hmReachForms32 : List HE := hReachForms31 :: hmReachForms31
theorem hmReachForms32_ok : ∀ x ∈ hmReachForms32, HOk Tryd.prog x := hmemo_cons hReachForms31_ok hmReachForms31_ok
def hReachForms32 : HE := ⟨53, [(.agg [(.sl 0 1 0 2 none 1),(.sl 1 4 0 5 none 1),(.sl 2 7 0 8 none 2)])], [breachForms8, breachForms9, breachForms10, breachForms11, breachForms12, breachForms13, breachForms14, breachForms15, breachForms16, breachForms17], [((.val eB1), [])]⟩
theorem hReachForms32_ok : HOk Tryd.prog hReachForms32 := hok_eq mmReachForms_ok hmReachForms32_ok folReachForms (lf := 100000) (k := 1000) (by kernel_rfl)
def hmReachForms33 : List HE := hReachForms32 :: hmReachForms32
theorem hmReachForms33_ok : ∀ x ∈ hmReachForms33, HOk Tryd.prog x := hmemo_cons hReachForms32_ok hmReachForms32_ok
def hReachForms33 : HE := ⟨38, [(.agg [(.sl 0 1 0 2 none 1),(.sl 1 4 0 5 none 1),(.sl 2 7 0 8 none 2)])], [breachForms8, breachForms9, breachForms10, breachForms11, breachForms12, breachForms13, breachForms14, breachForms15, breachForms16, breachForms17], [((.val (eI 0)), [])]⟩
theorem hReachForms33_ok : HOk Tryd.prog hReachForms33 := hok_eq mmReachForms_ok hmReachForms33_ok folReachForms (lf := 100000) (k := 1000) (by kernel_rfl)
def hmReachForms34 : List HE := hReachForms33 :: hmReachForms33
theorem hmReachForms34_ok : ∀ x ∈ hmReachForms34, HOk Tryd.prog x := hmemo_cons hReachForms33_ok hmReachForms33_ok
def hReachForms34 : HE := ⟨39, [(.sl 0 1 0 2 none 1),(.lit (.int .u64 0)),eB1], [breachForms11], [((.val eB0), [])]⟩
theorem hReachForms34_ok : HOk Tryd.prog hReachForms34 := hok_eq mmReachForms_ok hmReachForms34_ok folReachForms (lf := 100000) (k := 1000) (by kernel_rfl)
def hmReachForms35 : List HE := hReachForms34 :: hmReachForms34
theorem hmReachForms35_ok : ∀ x ∈ hmReachForms35, HOk Tryd.prog x := hmemo_cons hReachForms34_ok hmReachForms34_ok
def hReachForms35 : HE := ⟨39, [(.sl 0 1 0 2 none 1),(.lit (.int .u64 0)),eB1], [breachForms12], [((.val eB0), [])]⟩
theorem hReachForms35_ok : HOk Tryd.prog hReachForms35 := hok_eq mmReachForms_ok hmReachForms35_ok folReachForms (lf := 100000) (k := 1000) (by kernel_rfl)
def hmReachForms36 : List HE := hReachForms35 :: hmReachForms35
theorem hmReachForms36_ok : ∀ x ∈ hmReachForms36, HOk Tryd.prog x := hmemo_cons hReachForms35_ok hmReachForms35_ok
def hReachForms36 : HE := ⟨39, [(.lit (.slice none 0 0)),(.lit (.int .u64 0)),eB1], [], [((.val eB1), [])]⟩
theorem hReachForms36_ok : HOk Tryd.prog hReachForms36 := hok_eq mmReachForms_ok hmReachForms36_ok folReachForms (lf := 100000) (k := 1000) (by kernel_rfl)
def hmReachForms37 : List HE := hReachForms36 :: hmReachForms36
theorem hmReachForms37_ok : ∀ x ∈ hmReachForms37, HOk Tryd.prog x := hmemo_cons hReachForms36_ok hmReachForms36_ok
def hReachForms37 : HE := ⟨39, [(.sl 0 1 0 2 none 1),(.lit (.int .u64 2)),eB1], [breachForms14], [((.val eB1), [])]⟩
theorem hReachForms37_ok : HOk Tryd.prog hReachForms37 := hok_eq mmReachForms_ok hmReachForms37_ok folReachForms (lf := 100000) (k := 1000) (by kernel_rfl)
def hmReachForms38 : List HE := hReachForms37 :: hmReachForms37
theorem hmReachForms38_ok : ∀ x ∈ hmReachForms38, HOk Tryd.prog x := hmemo_cons hReachForms37_ok hmReachForms37_ok
def hReachForms38 : HE := ⟨39, [(.sl 0 1 0 2 none 1),(.lit (.int .u64 6)),eB1], [breachForms15], [((.val eB0), [])]⟩
theorem hReachForms38_ok : HOk Tryd.prog hReachForms38 := hok_eq mmReachForms_ok hmReachForms38_ok folReachForms (lf := 100000) (k := 1000) (by kernel_rfl)
def hmReachForms39 : List HE := hReachForms38 :: hmReachForms38
theorem hmReachForms39_ok : ∀ x ∈ hmReachForms39, HOk Tryd.prog x := hmemo_cons hReachForms38_ok hmReachForms38_ok
def hReachForms39 : HE := ⟨39, [(.sl 0 1 0 2 none 1),(.lit (.int .u64 6)),eB1], [breachForms16], [((.val eB0), [])]⟩
theorem hReachForms39_ok : HOk Tryd.prog hReachForms39 := hok_eq mmReachForms_ok hmReachForms39_ok folReachForms (lf := 100000) (k := 1000) (by kernel_rfl)
def hmReachForms40 : List HE := hReachForms39 :: hmReachForms39
theorem hmReachForms40_ok : ∀ x ∈ hmReachForms40, HOk Tryd.prog x := hmemo_cons hReachForms39_ok hmReachForms39_ok
def hReachForms40 : HE := ⟨39, [(.sl 0 0 0 1 none 1),(.lit (.int .u64 6)),eB1], [breachForms17], [((.val eB1), [])]⟩
theorem hReachForms40_ok : HOk Tryd.prog hReachForms40 := hok_eq mmReachForms_ok hmReachForms40_ok folReachForms (lf := 100000) (k := 1000) (by kernel_rfl)
def hmReachForms41 : List HE := hReachForms40 :: hmReachForms40
theorem hmReachForms41_ok : ∀ x ∈ hmReachForms41, HOk Tryd.prog x := hmemo_cons hReachForms40_ok hmReachForms40_ok
def hReachForms41 : HE := ⟨39, [(.sl 0 1 0 2 none 1),(.lit (.int .u64 22)),eB1], [breachForms11], [((.val eB1), [])]⟩
theorem hReachForms41_ok : HOk Tryd.prog hReachForms41 := hok_eq mmReachForms_ok hmReachForms41_ok folReachForms (lf := 100000) (k := 1000) (by kernel_rfl)
def hmReachForms42 : List HE := hReachForms41 :: hmReachForms41
theorem hmReachForms42_ok : ∀ x ∈ hmReachForms42, HOk Tryd.prog x := hmemo_cons hReachForms41_ok hmReachForms41_ok
def hReachForms42 : HE := ⟨39, [(.sl 0 1 0 2 none 1),(.lit (.int .u64 23)),eB1], [breachForms15], [((.val eB0), [])]⟩
theorem hReachForms42_ok : HOk Tryd.prog hReachForms42 := hok_eq mmReachForms_ok hmReachForms42_ok folReachForms (lf := 100000) (k := 1000) (by kernel_rfl)
def hmReachForms43 : List HE := hReachForms42 :: hmReachForms42
theorem hmReachForms43_ok : ∀ x ∈ hmReachForms43, HOk Tryd.prog x := hmemo_cons hReachForms42_ok hmReachForms42_ok
def hReachForms43 : HE := ⟨32, [(.agg [(.sl 0 1 0 2 none 1),(.sl 1 4 0 5 none 1),(.sl 2 7 0 8 none 2)]),eB1], [breachForms8, breachForms9, breachForms10, breachForms11, breachForms12, breachForms13, breachForms14, breachForms15, breachForms16, breachForms17], [((.val (.lit (.int .u64 23))), [])]⟩
theorem hReachForms43_ok : HOk Tryd.prog hReachForms43 := hok_eq mmReachForms_ok hmReachForms43_ok folReachForms (lf := 100000) (k := 1000) (by kernel_rfl)
def hmReachForms44 : List HE := hReachForms43 :: hmReachForms43
theorem hmReachForms44_ok : ∀ x ∈ hmReachForms44, HOk Tryd.prog x := hmemo_cons hReachForms43_ok hmReachForms43_ok
def hReachForms44 : HE := ⟨10, [(.agg [(.sl 0 1 0 2 none 1),(.sl 1 4 0 5 none 1),(.sl 2 7 0 8 none 2)])], [breachForms8, breachForms9, breachForms10, breachForms11, breachForms12, breachForms13, breachForms14, breachForms15, breachForms16, breachForms17], [((.val (.lit (.int .u64 23))), [])]⟩
theorem hReachForms44_ok : HOk Tryd.prog hReachForms44 := hok_eq mmReachForms_ok hmReachForms44_ok folReachForms (lf := 100000) (k := 1000) (by kernel_rfl)
def hmReachForms45 : List HE := hReachForms44 :: hmReachForms44
theorem hmReachForms45_ok : ∀ x ∈ hmReachForms45, HOk Tryd.prog x := hmemo_cons hReachForms44_ok hmReachForms44_ok
def hReachForms45 : HE := ⟨39, [(.sl 0 1 0 2 none 1),(.lit (.int .u64 23)),eB1], [breachForms11], [((.val eB1), [])]⟩
theorem hReachForms45_ok : HOk Tryd.prog hReachForms45 := hok_eq mmReachForms_ok hmReachForms45_ok folReachForms (lf := 100000) (k := 1000) (by kernel_rfl)
def hmReachForms46 : List HE := hReachForms45 :: hmReachForms45
theorem hmReachForms46_ok : ∀ x ∈ hmReachForms46, HOk Tryd.prog x := hmemo_cons hReachForms45_ok hmReachForms45_ok
def hReachForms46 : HE := ⟨39, [(.sl 0 1 0 2 none 1),(.lit (.int .u64 23)),eB1], [breachForms12], [((.val eB0), [])]⟩
theorem hReachForms46_ok : HOk Tryd.prog hReachForms46 := hok_eq mmReachForms_ok hmReachForms46_ok folReachForms (lf := 100000) (k := 1000) (by kernel_rfl)
def hmReachForms47 : List HE := hReachForms46 :: hmReachForms46
theorem hmReachForms47_ok : ∀ x ∈ hmReachForms47, HOk Tryd.prog x := hmemo_cons hReachForms46_ok hmReachForms46_ok
def hReachForms47 : HE := ⟨39, [(.lit (.slice none 0 0)),(.lit (.int .u64 23)),eB1], [], [((.val eB1), [])]⟩
theorem hReachForms47_ok : HOk Tryd.prog hReachForms47 := hok_eq mmReachForms_ok hmReachForms47_ok folReachForms (lf := 100000) (k := 1000) (by kernel_rfl)
def hmReachForms48 : List HE := hReachForms47 :: hmReachForms47
theorem hmReachForms48_ok : ∀ x ∈ hmReachForms48, HOk Tryd.prog x := hmemo_cons hReachForms47_ok hmReachForms47_ok
def hReachForms48 : HE := ⟨39, [(.sl 0 0 0 1 none 1),(.lit (.int .u64 23)),eB1], [breachForms13], [((.val eB1), [])]⟩
theorem hReachForms48_ok : HOk Tryd.prog hReachForms48 := hok_eq mmReachForms_ok hmReachForms48_ok folReachForms (lf := 100000) (k := 1000) (by kernel_rfl)
def hmReachForms49 : List HE := hReachForms48 :: hmReachForms48
theorem hmReachForms49_ok : ∀ x ∈ hmReachForms49, HOk Tryd.prog x := hmemo_cons hReachForms48_ok hmReachForms48_ok
def hReachForms49 : HE := ⟨39, [(.sl 0 1 0 2 none 1),(.lit (.int .u64 23)),eB1], [breachForms14], [((.val eB1), [])]⟩
theorem hReachForms49_ok : HOk Tryd.prog hReachForms49 := hok_eq mmReachForms_ok hmReachForms49_ok folReachForms (lf := 100000) (k := 1000) (by kernel_rfl)
def hmReachForms50 : List HE := hReachForms49 :: hmReachForms49
theorem hmReachForms50_ok : ∀ x ∈ hmReachForms50, HOk Tryd.prog x := hmemo_cons hReachForms49_ok hmReachForms49_ok
def hReachForms50 : HE := ⟨39, [(.sl 0 1 0 2 none 1),(.lit (.int .u64 23)),eB1], [breachForms16], [((.val eB1), [])]⟩
theorem hReachForms50_ok : HOk Tryd.prog hReachForms50 := hok_eq mmReachForms_ok hmReachForms50_ok folReachForms (lf := 100000) (k := 1000) (by kernel_rfl)
def hmReachForms51 : List HE := hReachForms50 :: hmReachForms50
theorem hmReachForms51_ok : ∀ x ∈ hmReachForms51, HOk Tryd.prog x := hmemo_cons hReachForms50_ok hmReachForms50_ok
def hReachForms51 : HE := ⟨39, [(.sl 0 0 0 1 none 1),(.lit (.int .u64 23)),eB1], [breachForms17], [((.val eB1), [])]⟩
theorem hReachForms51_ok : HOk Tryd.prog hReachForms51 := hok_eq mmReachForms_ok hmReachForms51_ok folReachForms (lf := 100000) (k := 1000) (by kernel_rfl)
def hmReachForms52 : List HE := hReachForms51 :: hmReachForms51
theorem hmReachForms52_ok : ∀ x ∈ hmReachForms52, HOk Tryd.prog x := hmemo_cons hReachForms51_ok hmReachForms51_ok
def breachForms18 : Blk := ⟨[(eI 0),(eI 2),(eI 3),(eI 4),(eI 6),(eI 7)],3,[(5,6),(4,5),(3,4),(2,3),(1,2),(0,1)],6,0,false,5,none⟩
def hReachForms52 : HE := ⟨17, [(.agg [(.sl 0 1 0 2 none 1),(.sl 1 4 0 5 none 1),(.sl 2 7 0 8 none 2)])], [breachForms8, breachForms9, breachForms10, breachForms11, breachForms12, breachForms13, breachForms14, breachForms15, breachForms16, breachForms17], [((.val (.tup [(.sl 10 5 0 6 none 1),(eI 0)])), [breachForms18])]⟩
theorem hReachForms52_ok : HOk Tryd.prog hReachForms52 := hok_eq mmReachForms_ok hmReachForms52_ok folReachForms (lf := 100000) (k := 1000) (by kernel_rfl)
def hmReachForms53 : List HE := hReachForms52 :: hmReachForms52
theorem hmReachForms53_ok : ∀ x ∈ hmReachForms53, HOk Tryd.prog x := hmemo_cons hReachForms52_ok hmReachForms52_ok
def hReachForms53 : HE := ⟨39, [(.sl 0 1 0 2 none 1),(.lit (.int .u64 0)),eB0], [breachForms11], [((.val eB0), [])]⟩
theorem hReachForms53_ok : HOk Tryd.prog hReachForms53 := hok_eq mmReachForms_ok hmReachForms53_ok folReachForms (lf := 100000) (k := 1000) (by kernel_rfl)
def hmReachForms54 : List HE := hReachForms53 :: hmReachForms53
theorem hmReachForms54_ok : ∀ x ∈ hmReachForms54, HOk Tryd.prog x := hmemo_cons hReachForms53_ok hmReachForms53_ok
def hReachForms54 : HE := ⟨39, [(.sl 0 1 0 2 none 1),(.lit (.int .u64 0)),eB0], [breachForms12], [((.val eB0), [])]⟩
theorem hReachForms54_ok : HOk Tryd.prog hReachForms54 := hok_eq mmReachForms_ok hmReachForms54_ok folReachForms (lf := 100000) (k := 1000) (by kernel_rfl)
def hmReachForms55 : List HE := hReachForms54 :: hmReachForms54
theorem hmReachForms55_ok : ∀ x ∈ hmReachForms55, HOk Tryd.prog x := hmemo_cons hReachForms54_ok hmReachForms54_ok
def hReachForms55 : HE := ⟨39, [(.lit (.slice none 0 0)),(.lit (.int .u64 0)),eB0], [], [((.val eB1), [])]⟩
theorem hReachForms55_ok : HOk Tryd.prog hReachForms55 := hok_eq mmReachForms_ok hmReachForms55_ok folReachForms (lf := 100000) (k := 1000) (by kernel_rfl)
def hmReachForms56 : List HE := hReachForms55 :: hmReachForms55
theorem hmReachForms56_ok : ∀ x ∈ hmReachForms56, HOk Tryd.prog x := hmemo_cons hReachForms55_ok hmReachForms55_ok
def hReachForms56 : HE := ⟨39, [(.sl 0 1 0 2 none 1),(.lit (.int .u64 2)),eB0], [breachForms14], [((.val eB1), [])]⟩
theorem hReachForms56_ok : HOk Tryd.prog hReachForms56 := hok_eq mmReachForms_ok hmReachForms56_ok folReachForms (lf := 100000) (k := 1000) (by kernel_rfl)
def hmReachForms57 : List HE := hReachForms56 :: hmReachForms56
theorem hmReachForms57_ok : ∀ x ∈ hmReachForms57, HOk Tryd.prog x := hmemo_cons hReachForms56_ok hmReachForms56_ok
def hReachForms57 : HE := ⟨39, [(.sl 0 1 0 2 none 1),(.lit (.int .u64 6)),eB0], [breachForms15], [((.val eB0), [])]⟩
theorem hReachForms57_ok : HOk Tryd.prog hReachForms57 := hok_eq mmReachForms_ok hmReachForms57_ok folReachForms (lf := 100000) (k := 1000) (by kernel_rfl)
def hmReachForms58 : List HE := hReachForms57 :: hmReachForms57
theorem hmReachForms58_ok : ∀ x ∈ hmReachForms58, HOk Tryd.prog x := hmemo_cons hReachForms57_ok hmReachForms57_ok
def hReachForms58 : HE := ⟨39, [(.sl 0 1 0 2 none 1),(.lit (.int .u64 6)),eB0], [breachForms16], [((.val eB0), [])]⟩
theorem hReachForms58_ok : HOk Tryd.prog hReachForms58 := hok_eq mmReachForms_ok hmReachForms58_ok folReachForms (lf := 100000) (k := 1000) (by kernel_rfl)
def hmReachForms59 : List HE := hReachForms58 :: hmReachForms58
theorem hmReachForms59_ok : ∀ x ∈ hmReachForms59, HOk Tryd.prog x := hmemo_cons hReachForms58_ok hmReachForms58_ok
def hReachForms59 : HE := ⟨39, [(.sl 0 0 0 1 none 1),(.lit (.int .u64 6)),eB0], [breachForms17], [((.val eB0), [])]⟩
theorem hReachForms59_ok : HOk Tryd.prog hReachForms59 := hok_eq mmReachForms_ok hmReachForms59_ok folReachForms (lf := 100000) (k := 1000) (by kernel_rfl)
def hmReachForms60 : List HE := hReachForms59 :: hmReachForms59
theorem hmReachForms60_ok : ∀ x ∈ hmReachForms60, HOk Tryd.prog x := hmemo_cons hReachForms59_ok hmReachForms59_ok
def hReachForms60 : HE := ⟨39, [(.sl 0 1 0 2 none 1),(.lit (.int .u64 6)),eB0], [breachForms11], [((.val eB1), [])]⟩
theorem hReachForms60_ok : HOk Tryd.prog hReachForms60 := hok_eq mmReachForms_ok hmReachForms60_ok folReachForms (lf := 100000) (k := 1000) (by kernel_rfl)
def hmReachForms61 : List HE := hReachForms60 :: hmReachForms60
theorem hmReachForms61_ok : ∀ x ∈ hmReachForms61, HOk Tryd.prog x := hmemo_cons hReachForms60_ok hmReachForms60_ok
def hReachForms61 : HE := ⟨39, [(.sl 0 1 0 2 none 1),(.lit (.int .u64 7)),eB0], [breachForms15], [((.val eB0), [])]⟩
theorem hReachForms61_ok : HOk Tryd.prog hReachForms61 := hok_eq mmReachForms_ok hmReachForms61_ok folReachForms (lf := 100000) (k := 1000) (by kernel_rfl)
def hmReachForms62 : List HE := hReachForms61 :: hmReachForms61
theorem hmReachForms62_ok : ∀ x ∈ hmReachForms62, HOk Tryd.prog x := hmemo_cons hReachForms61_ok hmReachForms61_ok
def hReachForms62 : HE := ⟨39, [(.sl 0 1 0 2 none 1),(.lit (.int .u64 7)),eB0], [breachForms16], [((.val eB0), [])]⟩
theorem hReachForms62_ok : HOk Tryd.prog hReachForms62 := hok_eq mmReachForms_ok hmReachForms62_ok folReachForms (lf := 100000) (k := 1000) (by kernel_rfl)
def hmReachForms63 : List HE := hReachForms62 :: hmReachForms62
theorem hmReachForms63_ok : ∀ x ∈ hmReachForms63, HOk Tryd.prog x := hmemo_cons hReachForms62_ok hmReachForms62_ok
def hReachForms63 : HE := ⟨39, [(.sl 0 0 0 1 none 1),(.lit (.int .u64 7)),eB0], [breachForms17], [((.val eB0), [])]⟩
theorem hReachForms63_ok : HOk Tryd.prog hReachForms63 := hok_eq mmReachForms_ok hmReachForms63_ok folReachForms (lf := 100000) (k := 1000) (by kernel_rfl)
def hmReachForms64 : List HE := hReachForms63 :: hmReachForms63
theorem hmReachForms64_ok : ∀ x ∈ hmReachForms64, HOk Tryd.prog x := hmemo_cons hReachForms63_ok hmReachForms63_ok
def hReachForms64 : HE := ⟨32, [(.agg [(.sl 0 1 0 2 none 1),(.sl 1 4 0 5 none 1),(.sl 2 7 0 8 none 2)]),eB0], [breachForms8, breachForms9, breachForms10, breachForms11, breachForms12, breachForms13, breachForms14, breachForms15, breachForms16, breachForms17], [((.val (.lit (.int .u64 7))), [])]⟩
theorem hReachForms64_ok : HOk Tryd.prog hReachForms64 := hok_eq mmReachForms_ok hmReachForms64_ok folReachForms (lf := 100000) (k := 1000) (by kernel_rfl)
def hmReachForms65 : List HE := hReachForms64 :: hmReachForms64
theorem hmReachForms65_ok : ∀ x ∈ hmReachForms65, HOk Tryd.prog x := hmemo_cons hReachForms64_ok hmReachForms64_ok
def hReachForms65 : HE := ⟨9, [(.agg [(.sl 0 1 0 2 none 1),(.sl 1 4 0 5 none 1),(.sl 2 7 0 8 none 2)])], [breachForms8, breachForms9, breachForms10, breachForms11, breachForms12, breachForms13, breachForms14, breachForms15, breachForms16, breachForms17], [((.val (.lit (.int .u64 7))), [])]⟩
theorem hReachForms65_ok : HOk Tryd.prog hReachForms65 := hok_eq mmReachForms_ok hmReachForms65_ok folReachForms (lf := 100000) (k := 1000) (by kernel_rfl)
def hmReachForms66 : List HE := hReachForms65 :: hmReachForms65
theorem hmReachForms66_ok : ∀ x ∈ hmReachForms66, HOk Tryd.prog x := hmemo_cons hReachForms65_ok hmReachForms65_ok
def breachForms19 : Blk := ⟨[(eI 0),(eI 1),(eI 2)],3,[(0,3)],1,0,false,0,none⟩
def hReachForms66 : HE := ⟨18, [(.sl 0 0 0 3 (some 3) 1)], [breachForms19], [((.val (.lit (.int .u64 7))), [])]⟩
theorem hReachForms66_ok : HOk Tryd.prog hReachForms66 := hok_eq mmReachForms_ok hmReachForms66_ok folReachForms (lf := 100000) (k := 1000) (by kernel_rfl)
def hmReachForms67 : List HE := hReachForms66 :: hmReachForms66
theorem hmReachForms67_ok : ∀ x ∈ hmReachForms67, HOk Tryd.prog x := hmemo_cons hReachForms66_ok hmReachForms66_ok
def breachForms20 : Blk := ⟨[(eI 0),(eI 1),(eI 2),(eI 4)],3,[(0,4)],1,0,false,0,none⟩
def hReachForms67 : HE := ⟨18, [(.sl 0 0 0 4 (some 4) 1)], [breachForms20], [((.val (.lit (.int .u64 23))), [])]⟩
theorem hReachForms67_ok : HOk Tryd.prog hReachForms67 := hok_eq mmReachForms_ok hmReachForms67_ok folReachForms (lf := 100000) (k := 1000) (by kernel_rfl)
def hmReachForms68 : List HE := hReachForms67 :: hmReachForms67
theorem hmReachForms68_ok : ∀ x ∈ hmReachForms68, HOk Tryd.prog x := hmemo_cons hReachForms67_ok hmReachForms67_ok
def breachForms21 : Blk := ⟨[(eI 0)],3,[(0,1)],1,0,false,0,none⟩
def hReachForms68 : HE := ⟨18, [(.sl 0 0 0 1 (some 1) 1)], [breachForms21], [((.val (.lit (.int .u64 1))), [])]⟩
theorem hReachForms68_ok : HOk Tryd.prog hReachForms68 := hok_eq mmReachForms_ok hmReachForms68_ok folReachForms (lf := 100000) (k := 1000) (by kernel_rfl)
def hmReachForms69 : List HE := hReachForms68 :: hmReachForms68
theorem hmReachForms69_ok : ∀ x ∈ hmReachForms69, HOk Tryd.prog x := hmemo_cons hReachForms68_ok hmReachForms68_ok
def hReachForms69 : HE := ⟨18, [(.lit (.slice none 0 0))], [], [((.val (.lit (.int .u64 0))), [])]⟩
theorem hReachForms69_ok : HOk Tryd.prog hReachForms69 := hok_eq mmReachForms_ok hmReachForms69_ok folReachForms (lf := 100000) (k := 1000) (by kernel_rfl)
def hmReachForms70 : List HE := hReachForms69 :: hmReachForms69
theorem hmReachForms70_ok : ∀ x ∈ hmReachForms70, HOk Tryd.prog x := hmemo_cons hReachForms69_ok hmReachForms69_ok
def hReachForms70 : HE := ⟨19, [(.agg [(.sl 0 1 0 2 none 1),(.sl 1 4 0 5 none 1),(.sl 2 7 0 8 none 2)])], [breachForms8, breachForms9, breachForms10, breachForms11, breachForms12, breachForms13, breachForms14, breachForms15, breachForms16, breachForms17], [((.val (.lit (.int .u64 15))), [])]⟩
theorem hReachForms70_ok : HOk Tryd.prog hReachForms70 := hok_eq mmReachForms_ok hmReachForms70_ok folReachForms (lf := 100000) (k := 1000) (by kernel_rfl)
def hmReachForms71 : List HE := hReachForms70 :: hmReachForms70
theorem hmReachForms71_ok : ∀ x ∈ hmReachForms71, HOk Tryd.prog x := hmemo_cons hReachForms70_ok hmReachForms70_ok
def breachForms22 : Blk := ⟨[(eI 0),(eI 1),(eI 2),(eI 3)],3,[(0,4)],1,0,false,0,none⟩
def hReachForms71 : HE := ⟨18, [(.sl 0 0 0 4 (some 4) 1)], [breachForms22], [((.val (.lit (.int .u64 15))), [])]⟩
theorem hReachForms71_ok : HOk Tryd.prog hReachForms71 := hok_eq mmReachForms_ok hmReachForms71_ok folReachForms (lf := 100000) (k := 1000) (by kernel_rfl)
def hmReachForms72 : List HE := hReachForms71 :: hmReachForms71
theorem hmReachForms72_ok : ∀ x ∈ hmReachForms72, HOk Tryd.prog x := hmemo_cons hReachForms71_ok hmReachForms71_ok
def breachForms23 : Blk := ⟨[(eI 0),(eI 2),(eI 3),(eI 4),(eI 6),(eI 7)],3,[(0,6)],1,0,false,0,none⟩
def hReachForms72 : HE := ⟨20, [(.sl 0 5 0 6 none 1),(.sl 1 0 0 6 (some 6) 1)], [breachForms18, breachForms23], [((.val eB1), [])]⟩
theorem hReachForms72_ok : HOk Tryd.prog hReachForms72 := hok_eq mmReachForms_ok hmReachForms72_ok folReachForms (lf := 100000) (k := 1000) (by kernel_rfl)
def hmReachForms73 : List HE := hReachForms72 :: hmReachForms72
theorem hmReachForms73_ok : ∀ x ∈ hmReachForms73, HOk Tryd.prog x := hmemo_cons hReachForms72_ok hmReachForms72_ok
def breachForms24 : Blk := ⟨[(eI 104),(.sl 3 0 0 1 none 1),(eI 100),(.sl 4 1 0 2 none 1),(eI 101),(.lit (.slice none 0 0)),(eI 101),(.sl 5 0 0 1 none 1),(eI 102),(.sl 6 1 0 2 none 1),(eI 103),(.sl 7 1 0 2 none 1),(eI 104),(.sl 8 1 0 2 none 1),(eI 100),(.sl 9 1 0 2 none 1)],50,[(7,16)],8,0,false,9,none⟩
def hReachForms73 : HE := ⟨52, [(.agg [(.sl 0 1 0 2 none 1),(.sl 1 4 0 5 none 1),(.sl 2 7 0 8 none 2)])], [breachForms8, breachForms9, breachForms24, breachForms17, breachForms12, breachForms13, breachForms14, breachForms15, breachForms16, breachForms11], [((.val eB1), [])]⟩
theorem hReachForms73_ok : HOk Tryd.prog hReachForms73 := hok_eq mmReachForms_ok hmReachForms73_ok folReachForms (lf := 100000) (k := 1000) (by kernel_rfl)
def hmReachForms74 : List HE := hReachForms73 :: hmReachForms73
theorem hmReachForms74_ok : ∀ x ∈ hmReachForms74, HOk Tryd.prog x := hmemo_cons hReachForms73_ok hmReachForms73_ok
def hReachForms74 : HE := ⟨53, [(.agg [(.sl 0 1 0 2 none 1),(.sl 1 4 0 5 none 1),(.sl 2 7 0 8 none 2)])], [breachForms8, breachForms9, breachForms24, breachForms17, breachForms12, breachForms13, breachForms14, breachForms15, breachForms16, breachForms11], [((.val eB1), [])]⟩
theorem hReachForms74_ok : HOk Tryd.prog hReachForms74 := hok_eq mmReachForms_ok hmReachForms74_ok folReachForms (lf := 100000) (k := 1000) (by kernel_rfl)
def hmReachForms75 : List HE := hReachForms74 :: hmReachForms74
theorem hmReachForms75_ok : ∀ x ∈ hmReachForms75, HOk Tryd.prog x := hmemo_cons hReachForms74_ok hmReachForms74_ok
def hReachForms75 : HE := ⟨38, [(.agg [(.sl 0 1 0 2 none 1),(.sl 1 4 0 5 none 1),(.sl 2 7 0 8 none 2)])], [breachForms8, breachForms9, breachForms24, breachForms17, breachForms12, breachForms13, breachForms14, breachForms15, breachForms16, breachForms11], [((.val (eI 0)), [])]⟩
theorem hReachForms75_ok : HOk Tryd.prog hReachForms75 := hok_eq mmReachForms_ok hmReachForms75_ok folReachForms (lf := 100000) (k := 1000) (by kernel_rfl)
def hmReachForms76 : List HE := hReachForms75 :: hmReachForms75
theorem hmReachForms76_ok : ∀ x ∈ hmReachForms76, HOk Tryd.prog x := hmemo_cons hReachForms75_ok hmReachForms75_ok
def hReachForms76 : HE := ⟨39, [(.sl 0 0 0 1 none 1),(.lit (.int .u64 0)),eB0], [breachForms17], [((.val eB0), [])]⟩
theorem hReachForms76_ok : HOk Tryd.prog hReachForms76 := hok_eq mmReachForms_ok hmReachForms76_ok folReachForms (lf := 100000) (k := 1000) (by kernel_rfl)
def hmReachForms77 : List HE := hReachForms76 :: hmReachForms76
theorem hmReachForms77_ok : ∀ x ∈ hmReachForms77, HOk Tryd.prog x := hmemo_cons hReachForms76_ok hmReachForms76_ok
def hReachForms77 : HE := ⟨32, [(.agg [(.sl 0 1 0 2 none 1),(.sl 1 4 0 5 none 1),(.sl 2 7 0 8 none 2)]),eB0], [breachForms8, breachForms9, breachForms24, breachForms17, breachForms12, breachForms13, breachForms14, breachForms15, breachForms16, breachForms11], [((.val (.lit (.int .u64 7))), [])]⟩
theorem hReachForms77_ok : HOk Tryd.prog hReachForms77 := hok_eq mmReachForms_ok hmReachForms77_ok folReachForms (lf := 100000) (k := 1000) (by kernel_rfl)
def hmReachForms78 : List HE := hReachForms77 :: hmReachForms77
theorem hmReachForms78_ok : ∀ x ∈ hmReachForms78, HOk Tryd.prog x := hmemo_cons hReachForms77_ok hmReachForms77_ok
def hReachForms78 : HE := ⟨9, [(.agg [(.sl 0 1 0 2 none 1),(.sl 1 4 0 5 none 1),(.sl 2 7 0 8 none 2)])], [breachForms8, breachForms9, breachForms24, breachForms17, breachForms12, breachForms13, breachForms14, breachForms15, breachForms16, breachForms11], [((.val (.lit (.int .u64 7))), [])]⟩
theorem hReachForms78_ok : HOk Tryd.prog hReachForms78 := hok_eq mmReachForms_ok hmReachForms78_ok folReachForms (lf := 100000) (k := 1000) (by kernel_rfl)
def hmReachForms79 : List HE := hReachForms78 :: hmReachForms78
theorem hmReachForms79_ok : ∀ x ∈ hmReachForms79, HOk Tryd.prog x := hmemo_cons hReachForms78_ok hmReachForms78_ok
def breachForms25 : Blk := ⟨[(eI 104),(.sl 3 1 0 2 none 1),(eI 100),(.sl 4 1 0 2 none 1),(eI 101),(.lit (.slice none 0 0)),(eI 101),(.sl 5 0 0 1 none 1),(eI 102),(.sl 6 1 0 2 none 1),(eI 103),(.sl 7 1 0 2 none 1),(eI 100),(.sl 8 1 0 2 none 1),(eI 104),(.sl 9 0 0 1 none 1)],50,[(7,16)],8,0,false,9,none⟩
def hReachForms79 : HE := ⟨52, [(.agg [(.sl 0 1 0 2 none 1),(.sl 1 4 0 5 none 1),(.sl 2 7 0 8 none 2)])], [breachForms8, breachForms9, breachForms25, breachForms16, breachForms12, breachForms13, breachForms14, breachForms15, breachForms11, breachForms17], [((.val eB1), [])]⟩
theorem hReachForms79_ok : HOk Tryd.prog hReachForms79 := hok_eq mmReachForms_ok hmReachForms79_ok folReachForms (lf := 100000) (k := 1000) (by kernel_rfl)
def hmReachForms80 : List HE := hReachForms79 :: hmReachForms79
theorem hmReachForms80_ok : ∀ x ∈ hmReachForms80, HOk Tryd.prog x := hmemo_cons hReachForms79_ok hmReachForms79_ok
def hReachForms80 : HE := ⟨53, [(.agg [(.sl 0 1 0 2 none 1),(.sl 1 4 0 5 none 1),(.sl 2 7 0 8 none 2)])], [breachForms8, breachForms9, breachForms25, breachForms16, breachForms12, breachForms13, breachForms14, breachForms15, breachForms11, breachForms17], [((.val eB1), [])]⟩
theorem hReachForms80_ok : HOk Tryd.prog hReachForms80 := hok_eq mmReachForms_ok hmReachForms80_ok folReachForms (lf := 100000) (k := 1000) (by kernel_rfl)
def hmReachForms81 : List HE := hReachForms80 :: hmReachForms80
theorem hmReachForms81_ok : ∀ x ∈ hmReachForms81, HOk Tryd.prog x := hmemo_cons hReachForms80_ok hmReachForms80_ok
def hReachForms81 : HE := ⟨38, [(.agg [(.sl 0 1 0 2 none 1),(.sl 1 4 0 5 none 1),(.sl 2 7 0 8 none 2)])], [breachForms8, breachForms9, breachForms25, breachForms16, breachForms12, breachForms13, breachForms14, breachForms15, breachForms11, breachForms17], [((.val (eI 0)), [])]⟩
theorem hReachForms81_ok : HOk Tryd.prog hReachForms81 := hok_eq mmReachForms_ok hmReachForms81_ok folReachForms (lf := 100000) (k := 1000) (by kernel_rfl)
def hmReachForms82 : List HE := hReachForms81 :: hmReachForms81
theorem hmReachForms82_ok : ∀ x ∈ hmReachForms82, HOk Tryd.prog x := hmemo_cons hReachForms81_ok hmReachForms81_ok
def hReachForms82 : HE := ⟨39, [(.sl 0 1 0 2 none 1),(.lit (.int .u64 0)),eB0], [breachForms16], [((.val eB0), [])]⟩
theorem hReachForms82_ok : HOk Tryd.prog hReachForms82 := hok_eq mmReachForms_ok hmReachForms82_ok folReachForms (lf := 100000) (k := 1000) (by kernel_rfl)
def hmReachForms83 : List HE := hReachForms82 :: hmReachForms82
theorem hmReachForms83_ok : ∀ x ∈ hmReachForms83, HOk Tryd.prog x := hmemo_cons hReachForms82_ok hmReachForms82_ok
def hReachForms83 : HE := ⟨32, [(.agg [(.sl 0 1 0 2 none 1),(.sl 1 4 0 5 none 1),(.sl 2 7 0 8 none 2)]),eB0], [breachForms8, breachForms9, breachForms25, breachForms16, breachForms12, breachForms13, breachForms14, breachForms15, breachForms11, breachForms17], [((.val (.lit (.int .u64 7))), [])]⟩
theorem hReachForms83_ok : HOk Tryd.prog hReachForms83 := hok_eq mmReachForms_ok hmReachForms83_ok folReachForms (lf := 100000) (k := 1000) (by kernel_rfl)
def hmReachForms84 : List HE := hReachForms83 :: hmReachForms83
theorem hmReachForms84_ok : ∀ x ∈ hmReachForms84, HOk Tryd.prog x := hmemo_cons hReachForms83_ok hmReachForms83_ok
def hReachForms84 : HE := ⟨9, [(.agg [(.sl 0 1 0 2 none 1),(.sl 1 4 0 5 none 1),(.sl 2 7 0 8 none 2)])], [breachForms8, breachForms9, breachForms25, breachForms16, breachForms12, breachForms13, breachForms14, breachForms15, breachForms11, breachForms17], [((.val (.lit (.int .u64 7))), [])]⟩
theorem hReachForms84_ok : HOk Tryd.prog hReachForms84 := hok_eq mmReachForms_ok hmReachForms84_ok folReachForms (lf := 100000) (k := 1000) (by kernel_rfl)
def hmReachForms85 : List HE := hReachForms84 :: hmReachForms84
theorem hmReachForms85_ok : ∀ x ∈ hmReachForms85, HOk Tryd.prog x := hmemo_cons hReachForms84_ok hmReachForms84_ok
def breachForms26 : Blk := ⟨[(eI 103),(.sl 3 1 0 2 none 1),(eI 100),(.sl 4 1 0 2 none 1),(eI 101),(.lit (.slice none 0 0)),(eI 101),(.sl 5 0 0 1 none 1),(eI 102),(.sl 6 1 0 2 none 1),(eI 100),(.sl 7 1 0 2 none 1),(eI 104),(.sl 8 1 0 2 none 1),(eI 104),(.sl 9 0 0 1 none 1)],50,[(7,16)],8,0,false,9,none⟩
def hReachForms85 : HE := ⟨52, [(.agg [(.sl 0 1 0 2 none 1),(.sl 1 4 0 5 none 1),(.sl 2 7 0 8 none 2)])], [breachForms8, breachForms9, breachForms26, breachForms15, breachForms12, breachForms13, breachForms14, breachForms11, breachForms16, breachForms17], [((.val eB1), [])]⟩
theorem hReachForms85_ok : HOk Tryd.prog hReachForms85 := hok_eq mmReachForms_ok hmReachForms85_ok folReachForms (lf := 100000) (k := 1000) (by kernel_rfl)
def hmReachForms86 : List HE := hReachForms85 :: hmReachForms85
theorem hmReachForms86_ok : ∀ x ∈ hmReachForms86, HOk Tryd.prog x := hmemo_cons hReachForms85_ok hmReachForms85_ok
def hReachForms86 : HE := ⟨53, [(.agg [(.sl 0 1 0 2 none 1),(.sl 1 4 0 5 none 1),(.sl 2 7 0 8 none 2)])], [breachForms8, breachForms9, breachForms26, breachForms15, breachForms12, breachForms13, breachForms14, breachForms11, breachForms16, breachForms17], [((.val eB1), [])]⟩
theorem hReachForms86_ok : HOk Tryd.prog hReachForms86 := hok_eq mmReachForms_ok hmReachForms86_ok folReachForms (lf := 100000) (k := 1000) (by kernel_rfl)
def hmReachForms87 : List HE := hReachForms86 :: hmReachForms86
theorem hmReachForms87_ok : ∀ x ∈ hmReachForms87, HOk Tryd.prog x := hmemo_cons hReachForms86_ok hmReachForms86_ok
def hReachForms87 : HE := ⟨38, [(.agg [(.sl 0 1 0 2 none 1),(.sl 1 4 0 5 none 1),(.sl 2 7 0 8 none 2)])], [breachForms8, breachForms9, breachForms26, breachForms15, breachForms12, breachForms13, breachForms14, breachForms11, breachForms16, breachForms17], [((.val (eI 0)), [])]⟩
theorem hReachForms87_ok : HOk Tryd.prog hReachForms87 := hok_eq mmReachForms_ok hmReachForms87_ok folReachForms (lf := 100000) (k := 1000) (by kernel_rfl)
def hmReachForms88 : List HE := hReachForms87 :: hmReachForms87
theorem hmReachForms88_ok : ∀ x ∈ hmReachForms88, HOk Tryd.prog x := hmemo_cons hReachForms87_ok hmReachForms87_ok
def hReachForms88 : HE := ⟨39, [(.sl 0 1 0 2 none 1),(.lit (.int .u64 0)),eB0], [breachForms15], [((.val eB0), [])]⟩
theorem hReachForms88_ok : HOk Tryd.prog hReachForms88 := hok_eq mmReachForms_ok hmReachForms88_ok folReachForms (lf := 100000) (k := 1000) (by kernel_rfl)
def hmReachForms89 : List HE := hReachForms88 :: hmReachForms88
theorem hmReachForms89_ok : ∀ x ∈ hmReachForms89, HOk Tryd.prog x := hmemo_cons hReachForms88_ok hmReachForms88_ok
def hReachForms89 : HE := ⟨32, [(.agg [(.sl 0 1 0 2 none 1),(.sl 1 4 0 5 none 1),(.sl 2 7 0 8 none 2)]),eB0], [breachForms8, breachForms9, breachForms26, breachForms15, breachForms12, breachForms13, breachForms14, breachForms11, breachForms16, breachForms17], [((.val (.lit (.int .u64 7))), [])]⟩
theorem hReachForms89_ok : HOk Tryd.prog hReachForms89 := hok_eq mmReachForms_ok hmReachForms89_ok folReachForms (lf := 100000) (k := 1000) (by kernel_rfl)
def hmReachForms90 : List HE := hReachForms89 :: hmReachForms89
theorem hmReachForms90_ok : ∀ x ∈ hmReachForms90, HOk Tryd.prog x := hmemo_cons hReachForms89_ok hmReachForms89_ok
def hReachForms90 : HE := ⟨9, [(.agg [(.sl 0 1 0 2 none 1),(.sl 1 4 0 5 none 1),(.sl 2 7 0 8 none 2)])], [breachForms8, breachForms9, breachForms26, breachForms15, breachForms12, breachForms13, breachForms14, breachForms11, breachForms16, breachForms17], [((.val (.lit (.int .u64 7))), [])]⟩
theorem hReachForms90_ok : HOk Tryd.prog hReachForms90 := hok_eq mmReachForms_ok hmReachForms90_ok folReachForms (lf := 100000) (k := 1000) (by kernel_rfl)
def hmReachForms91 : List HE := hReachForms90 :: hmReachForms90
theorem hmReachForms91_ok : ∀ x ∈ hmReachForms91, HOk Tryd.prog x := hmemo_cons hReachForms90_ok hmReachForms90_ok
def breachForms27 : Blk := ⟨[(eI 102),(.sl 3 1 0 2 none 1),(eI 100),(.sl 4 1 0 2 none 1),(eI 101),(.lit (.slice none 0 0)),(eI 101),(.sl 5 0 0 1 none 1),(eI 100),(.sl 6 1 0 2 none 1),(eI 103),(.sl 7 1 0 2 none 1),(eI 104),(.sl 8 1 0 2 none 1),(eI 104),(.sl 9 0 0 1 none 1)],50,[(7,16)],8,0,false,9,none⟩
def hReachForms91 : HE := ⟨52, [(.agg [(.sl 0 1 0 2 none 1),(.sl 1 4 0 5 none 1),(.sl 2 7 0 8 none 2)])], [breachForms8, breachForms9, breachForms27, breachForms14, breachForms12, breachForms13, breachForms11, breachForms15, breachForms16, breachForms17], [((.val eB1), [])]⟩
theorem hReachForms91_ok : HOk Tryd.prog hReachForms91 := hok_eq mmReachForms_ok hmReachForms91_ok folReachForms (lf := 100000) (k := 1000) (by kernel_rfl)
def hmReachForms92 : List HE := hReachForms91 :: hmReachForms91
theorem hmReachForms92_ok : ∀ x ∈ hmReachForms92, HOk Tryd.prog x := hmemo_cons hReachForms91_ok hmReachForms91_ok
def hReachForms92 : HE := ⟨53, [(.agg [(.sl 0 1 0 2 none 1),(.sl 1 4 0 5 none 1),(.sl 2 7 0 8 none 2)])], [breachForms8, breachForms9, breachForms27, breachForms14, breachForms12, breachForms13, breachForms11, breachForms15, breachForms16, breachForms17], [((.val eB1), [])]⟩
theorem hReachForms92_ok : HOk Tryd.prog hReachForms92 := hok_eq mmReachForms_ok hmReachForms92_ok folReachForms (lf := 100000) (k := 1000) (by kernel_rfl)
def hmReachForms93 : List HE := hReachForms92 :: hmReachForms92
theorem hmReachForms93_ok : ∀ x ∈ hmReachForms93, HOk Tryd.prog x := hmemo_cons hReachForms92_ok hmReachForms92_ok
def hReachForms93 : HE := ⟨38, [(.agg [(.sl 0 1 0 2 none 1),(.sl 1 4 0 5 none 1),(.sl 2 7 0 8 none 2)])], [breachForms8, breachForms9, breachForms27, breachForms14, breachForms12, breachForms13, breachForms11, breachForms15, breachForms16, breachForms17], [((.val (eI 0)), [])]⟩
theorem hReachForms93_ok : HOk Tryd.prog hReachForms93 := hok_eq mmReachForms_ok hmReachForms93_ok folReachForms (lf := 100000) (k := 1000) (by kernel_rfl)
def hmReachForms94 : List HE := hReachForms93 :: hmReachForms93
theorem hmReachForms94_ok : ∀ x ∈ hmReachForms94, HOk Tryd.prog x := hmemo_cons hReachForms93_ok hmReachForms93_ok
def hReachForms94 : HE := ⟨39, [(.sl 0 1 0 2 none 1),(.lit (.int .u64 0)),eB0], [breachForms14], [((.val eB0), [])]⟩
theorem hReachForms94_ok : HOk Tryd.prog hReachForms94 := hok_eq mmReachForms_ok hmReachForms94_ok folReachForms (lf := 100000) (k := 1000) (by kernel_rfl)
def hmReachForms95 : List HE := hReachForms94 :: hmReachForms94
theorem hmReachForms95_ok : ∀ x ∈ hmReachForms95, HOk Tryd.prog x := hmemo_cons hReachForms94_ok hmReachForms94_ok
def hReachForms95 : HE := ⟨39, [(.sl 0 1 0 2 none 1),(.lit (.int .u64 2)),eB0], [breachForms11], [((.val eB0), [])]⟩
theorem hReachForms95_ok : HOk Tryd.prog hReachForms95 := hok_eq mmReachForms_ok hmReachForms95_ok folReachForms (lf := 100000) (k := 1000) (by kernel_rfl)
def hmReachForms96 : List HE := hReachForms95 :: hmReachForms95
theorem hmReachForms96_ok : ∀ x ∈ hmReachForms96, HOk Tryd.prog x := hmemo_cons hReachForms95_ok hmReachForms95_ok
def hReachForms96 : HE := ⟨39, [(.sl 0 1 0 2 none 1),(.lit (.int .u64 2)),eB0], [breachForms15], [((.val eB0), [])]⟩
theorem hReachForms96_ok : HOk Tryd.prog hReachForms96 := hok_eq mmReachForms_ok hmReachForms96_ok folReachForms (lf := 100000) (k := 1000) (by kernel_rfl)
def hmReachForms97 : List HE := hReachForms96 :: hmReachForms96
theorem hmReachForms97_ok : ∀ x ∈ hmReachForms97, HOk Tryd.prog x := hmemo_cons hReachForms96_ok hmReachForms96_ok
def hReachForms97 : HE := ⟨39, [(.sl 0 1 0 2 none 1),(.lit (.int .u64 2)),eB0], [breachForms16], [((.val eB0), [])]⟩
theorem hReachForms97_ok : HOk Tryd.prog hReachForms97 := hok_eq mmReachForms_ok hmReachForms97_ok folReachForms (lf := 100000) (k := 1000) (by kernel_rfl)
def hmReachForms98 : List HE := hReachForms97 :: hmReachForms97
theorem hmReachForms98_ok : ∀ x ∈ hmReachForms98, HOk Tryd.prog x := hmemo_cons hReachForms97_ok hmReachForms97_ok
def hReachForms98 : HE := ⟨39, [(.sl 0 0 0 1 none 1),(.lit (.int .u64 2)),eB0], [breachForms17], [((.val eB0), [])]⟩
theorem hReachForms98_ok : HOk Tryd.prog hReachForms98 := hok_eq mmReachForms_ok hmReachForms98_ok folReachForms (lf := 100000) (k := 1000) (by kernel_rfl)
def hmReachForms99 : List HE := hReachForms98 :: hmReachForms98
theorem hmReachForms99_ok : ∀ x ∈ hmReachForms99, HOk Tryd.prog x := hmemo_cons hReachForms98_ok hmReachForms98_ok
def hReachForms99 : HE := ⟨39, [(.sl 0 1 0 2 none 1),(.lit (.int .u64 6)),eB0], [breachForms12], [((.val eB0), [])]⟩
theorem hReachForms99_ok : HOk Tryd.prog hReachForms99 := hok_eq mmReachForms_ok hmReachForms99_ok folReachForms (lf := 100000) (k := 1000) (by kernel_rfl)
def hmReachForms100 : List HE := hReachForms99 :: hmReachForms99
theorem hmReachForms100_ok : ∀ x ∈ hmReachForms100, HOk Tryd.prog x := hmemo_cons hReachForms99_ok hmReachForms99_ok
def hReachForms100 : HE := ⟨32, [(.agg [(.sl 0 1 0 2 none 1),(.sl 1 4 0 5 none 1),(.sl 2 7 0 8 none 2)]),eB0], [breachForms8, breachForms9, breachForms27, breachForms14, breachForms12, breachForms13, breachForms11, breachForms15, breachForms16, breachForms17], [((.val (.lit (.int .u64 7))), [])]⟩
theorem hReachForms100_ok : HOk Tryd.prog hReachForms100 := hok_eq mmReachForms_ok hmReachForms100_ok folReachForms (lf := 100000) (k := 1000) (by kernel_rfl)
def hmReachForms101 : List HE := hReachForms100 :: hmReachForms100
theorem hmReachForms101_ok : ∀ x ∈ hmReachForms101, HOk Tryd.prog x := hmemo_cons hReachForms100_ok hmReachForms100_ok
def hReachForms101 : HE := ⟨9, [(.agg [(.sl 0 1 0 2 none 1),(.sl 1 4 0 5 none 1),(.sl 2 7 0 8 none 2)])], [breachForms8, breachForms9, breachForms27, breachForms14, breachForms12, breachForms13, breachForms11, breachForms15, breachForms16, breachForms17], [((.val (.lit (.int .u64 7))), [])]⟩
theorem hReachForms101_ok : HOk Tryd.prog hReachForms101 := hok_eq mmReachForms_ok hmReachForms101_ok folReachForms (lf := 100000) (k := 1000) (by kernel_rfl)
def hmReachForms102 : List HE := hReachForms101 :: hmReachForms101
theorem hmReachForms102_ok : ∀ x ∈ hmReachForms102, HOk Tryd.prog x := hmemo_cons hReachForms101_ok hmReachForms101_ok
def breachForms28 : Blk := ⟨[(eI 101),(.sl 3 0 0 1 none 1),(eI 100),(.sl 4 1 0 2 none 1),(eI 101),(.lit (.slice none 0 0)),(eI 100),(.sl 5 1 0 2 none 1),(eI 102),(.sl 6 1 0 2 none 1),(eI 103),(.sl 7 1 0 2 none 1),(eI 104),(.sl 8 1 0 2 none 1),(eI 104),(.sl 9 0 0 1 none 1)],50,[(7,16)],8,0,false,9,none⟩
def hReachForms102 : HE := ⟨52, [(.agg [(.sl 0 1 0 2 none 1),(.sl 1 4 0 5 none 1),(.sl 2 7 0 8 none 2)])], [breachForms8, breachForms9, breachForms28, breachForms13, breachForms12, breachForms11, breachForms14, breachForms15, breachForms16, breachForms17], [((.val eB1), [])]⟩
theorem hReachForms102_ok : HOk Tryd.prog hReachForms102 := hok_eq mmReachForms_ok hmReachForms102_ok folReachForms (lf := 100000) (k := 1000) (by kernel_rfl)
def hmReachForms103 : List HE := hReachForms102 :: hmReachForms102
theorem hmReachForms103_ok : ∀ x ∈ hmReachForms103, HOk Tryd.prog x := hmemo_cons hReachForms102_ok hmReachForms102_ok
def hReachForms103 : HE := ⟨53, [(.agg [(.sl 0 1 0 2 none 1),(.sl 1 4 0 5 none 1),(.sl 2 7 0 8 none 2)])], [breachForms8, breachForms9, breachForms28, breachForms13, breachForms12, breachForms11, breachForms14, breachForms15, breachForms16, breachForms17], [((.val eB1), [])]⟩
theorem hReachForms103_ok : HOk Tryd.prog hReachForms103 := hok_eq mmReachForms_ok hmReachForms103_ok folReachForms (lf := 100000) (k := 1000) (by kernel_rfl)
def hmReachForms104 : List HE := hReachForms103 :: hmReachForms103
theorem hmReachForms104_ok : ∀ x ∈ hmReachForms104, HOk Tryd.prog x := hmemo_cons hReachForms103_ok hmReachForms103_ok
def hReachForms104 : HE := ⟨38, [(.agg [(.sl 0 1 0 2 none 1),(.sl 1 4 0 5 none 1),(.sl 2 7 0 8 none 2)])], [breachForms8, breachForms9, breachForms28, breachForms13, breachForms12, breachForms11, breachForms14, breachForms15, breachForms16, breachForms17], [((.val (eI 0)), [])]⟩
theorem hReachForms104_ok : HOk Tryd.prog hReachForms104 := hok_eq mmReachForms_ok hmReachForms104_ok folReachForms (lf := 100000) (k := 1000) (by kernel_rfl)
def hmReachForms105 : List HE := hReachForms104 :: hmReachForms104
theorem hmReachForms105_ok : ∀ x ∈ hmReachForms105, HOk Tryd.prog x := hmemo_cons hReachForms104_ok hmReachForms104_ok
def hReachForms105 : HE := ⟨39, [(.sl 0 0 0 1 none 1),(.lit (.int .u64 0)),eB0], [breachForms13], [((.val eB0), [])]⟩
theorem hReachForms105_ok : HOk Tryd.prog hReachForms105 := hok_eq mmReachForms_ok hmReachForms105_ok folReachForms (lf := 100000) (k := 1000) (by kernel_rfl)
def hmReachForms106 : List HE := hReachForms105 :: hmReachForms105
theorem hmReachForms106_ok : ∀ x ∈ hmReachForms106, HOk Tryd.prog x := hmemo_cons hReachForms105_ok hmReachForms105_ok
def hReachForms106 : HE := ⟨32, [(.agg [(.sl 0 1 0 2 none 1),(.sl 1 4 0 5 none 1),(.sl 2 7 0 8 none 2)]),eB0], [breachForms8, breachForms9, breachForms28, breachForms13, breachForms12, breachForms11, breachForms14, breachForms15, breachForms16, breachForms17], [((.val (.lit (.int .u64 7))), [])]⟩
theorem hReachForms106_ok : HOk Tryd.prog hReachForms106 := hok_eq mmReachForms_ok hmReachForms106_ok folReachForms (lf := 100000) (k := 1000) (by kernel_rfl)
def hmReachForms107 : List HE := hReachForms106 :: hmReachForms106
theorem hmReachForms107_ok : ∀ x ∈ hmReachForms107, HOk Tryd.prog x := hmemo_cons hReachForms106_ok hmReachForms106_ok
def hReachForms107 : HE := ⟨9, [(.agg [(.sl 0 1 0 2 none 1),(.sl 1 4 0 5 none 1),(.sl 2 7 0 8 none 2)])], [breachForms8, breachForms9, breachForms28, breachForms13, breachForms12, breachForms11, breachForms14, breachForms15, breachForms16, breachForms17], [((.val (.lit (.int .u64 7))), [])]⟩
theorem hReachForms107_ok : HOk Tryd.prog hReachForms107 := hok_eq mmReachForms_ok hmReachForms107_ok folReachForms (lf := 100000) (k := 1000) (by kernel_rfl)
def hmReachForms108 : List HE := hReachForms107 :: hmReachForms107
theorem hmReachForms108_ok : ∀ x ∈ hmReachForms108, HOk Tryd.prog x := hmemo_cons hReachForms107_ok hmReachForms107_ok
def breachForms29 : Blk := ⟨[(eI 101),(.lit (.slice none 0 0)),(eI 100),(.sl 3 1 0 2 none 1),(eI 100),(.sl 4 1 0 2 none 1),(eI 101),(.sl 5 0 0 1 none 1),(eI 102),(.sl 6 1 0 2 none 1),(eI 103),(.sl 7 1 0 2 none 1),(eI 104),(.sl 8 1 0 2 none 1),(eI 104),(.sl 9 0 0 1 none 1)],50,[(7,16)],8,0,false,9,none⟩
def hReachForms108 : HE := ⟨52, [(.agg [(.sl 0 1 0 2 none 1),(.sl 1 4 0 5 none 1),(.sl 2 7 0 8 none 2)])], [breachForms8, breachForms9, breachForms29, breachForms12, breachForms11, breachForms13, breachForms14, breachForms15, breachForms16, breachForms17], [((.val eB1), [])]⟩
theorem hReachForms108_ok : HOk Tryd.prog hReachForms108 := hok_eq mmReachForms_ok hmReachForms108_ok folReachForms (lf := 100000) (k := 1000) (by kernel_rfl)
def hmReachForms109 : List HE := hReachForms108 :: hmReachForms108
theorem hmReachForms109_ok : ∀ x ∈ hmReachForms109, HOk Tryd.prog x := hmemo_cons hReachForms108_ok hmReachForms108_ok
def hReachForms109 : HE := ⟨53, [(.agg [(.sl 0 1 0 2 none 1),(.sl 1 4 0 5 none 1),(.sl 2 7 0 8 none 2)])], [breachForms8, breachForms9, breachForms29, breachForms12, breachForms11, breachForms13, breachForms14, breachForms15, breachForms16, breachForms17], [((.val eB1), [])]⟩
theorem hReachForms109_ok : HOk Tryd.prog hReachForms109 := hok_eq mmReachForms_ok hmReachForms109_ok folReachForms (lf := 100000) (k := 1000) (by kernel_rfl)
def hmReachForms110 : List HE := hReachForms109 :: hmReachForms109
theorem hmReachForms110_ok : ∀ x ∈ hmReachForms110, HOk Tryd.prog x := hmemo_cons hReachForms109_ok hmReachForms109_ok
def hReachForms110 : HE := ⟨38, [(.agg [(.sl 0 1 0 2 none 1),(.sl 1 4 0 5 none 1),(.sl 2 7 0 8 none 2)])], [breachForms8, breachForms9, breachForms29, breachForms12, breachForms11, breachForms13, breachForms14, breachForms15, breachForms16, breachForms17], [((.val (eI 0)), [])]⟩
theorem hReachForms110_ok : HOk Tryd.prog hReachForms110 := hok_eq mmReachForms_ok hmReachForms110_ok folReachForms (lf := 100000) (k := 1000) (by kernel_rfl)
def hmReachForms111 : List HE := hReachForms110 :: hmReachForms110
theorem hmReachForms111_ok : ∀ x ∈ hmReachForms111, HOk Tryd.prog x := hmemo_cons hReachForms110_ok hmReachForms110_ok
def hReachForms111 : HE := ⟨39, [(.sl 0 1 0 2 none 1),(.lit (.int .u64 2)),eB0], [breachForms12], [((.val eB0), [])]⟩
theorem hReachForms111_ok : HOk Tryd.prog hReachForms111 := hok_eq mmReachForms_ok hmReachForms111_ok folReachForms (lf := 100000) (k := 1000) (by kernel_rfl)
def hmReachForms112 : List HE := hReachForms111 :: hmReachForms111
theorem hmReachForms112_ok : ∀ x ∈ hmReachForms112, HOk Tryd.prog x := hmemo_cons hReachForms111_ok hmReachForms111_ok
def hReachForms112 : HE := ⟨32, [(.agg [(.sl 0 1 0 2 none 1),(.sl 1 4 0 5 none 1),(.sl 2 7 0 8 none 2)]),eB0], [breachForms8, breachForms9, breachForms29, breachForms12, breachForms11, breachForms13, breachForms14, breachForms15, breachForms16, breachForms17], [((.val (.lit (.int .u64 7))), [])]⟩
theorem hReachForms112_ok : HOk Tryd.prog hReachForms112 := hok_eq mmReachForms_ok hmReachForms112_ok folReachForms (lf := 100000) (k := 1000) (by kernel_rfl)
def hmReachForms113 : List HE := hReachForms112 :: hmReachForms112
theorem hmReachForms113_ok : ∀ x ∈ hmReachForms113, HOk Tryd.prog x := hmemo_cons hReachForms112_ok hmReachForms112_ok
def hReachForms113 : HE := ⟨9, [(.agg [(.sl 0 1 0 2 none 1),(.sl 1 4 0 5 none 1),(.sl 2 7 0 8 none 2)])], [breachForms8, breachForms9, breachForms29, breachForms12, breachForms11, breachForms13, breachForms14, breachForms15, breachForms16, breachForms17], [((.val (.lit (.int .u64 7))), [])]⟩
theorem hReachForms113_ok : HOk Tryd.prog hReachForms113 := hok_eq mmReachForms_ok hmReachForms113_ok folReachForms (lf := 100000) (k := 1000) (by kernel_rfl)
def hmReachForms114 : List HE := hReachForms113 :: hmReachForms113
theorem hmReachForms114_ok : ∀ x ∈ hmReachForms114, HOk Tryd.prog x := hmemo_cons hReachForms113_ok hmReachForms113_ok
def breachForms30 : Blk := ⟨[(eI 100),(.sl 3 1 0 2 none 1),(eI 100),(.sl 4 1 0 2 none 1),(eI 101),(.lit (.slice none 0 0)),(eI 101),(.sl 5 0 0 1 none 1),(eI 102),(.sl 6 1 0 2 none 1),(eI 103),(.sl 7 1 0 2 none 1),(eI 104),(.sl 8 1 0 2 none 1),(eI 104),(.sl 9 0 0 1 none 1)],50,[(7,16)],8,0,false,9,none⟩
def hReachForms114 : HE := ⟨52, [(.agg [(.sl 0 1 0 2 none 1),(.sl 1 4 0 5 none 1),(.sl 2 7 0 8 none 2)])], [breachForms8, breachForms9, breachForms30, breachForms12, breachForms11, breachForms13, breachForms14, breachForms15, breachForms16, breachForms17], [((.val eB1), [])]⟩
theorem hReachForms114_ok : HOk Tryd.prog hReachForms114 := hok_eq mmReachForms_ok hmReachForms114_ok folReachForms (lf := 100000) (k := 1000) (by kernel_rfl)
def hmReachForms115 : List HE := hReachForms114 :: hmReachForms114
theorem hmReachForms115_ok : ∀ x ∈ hmReachForms115, HOk Tryd.prog x := hmemo_cons hReachForms114_ok hmReachForms114_ok
def hReachForms115 : HE := ⟨53, [(.agg [(.sl 0 1 0 2 none 1),(.sl 1 4 0 5 none 1),(.sl 2 7 0 8 none 2)])], [breachForms8, breachForms9, breachForms30, breachForms12, breachForms11, breachForms13, breachForms14, breachForms15, breachForms16, breachForms17], [((.val eB1), [])]⟩
theorem hReachForms115_ok : HOk Tryd.prog hReachForms115 := hok_eq mmReachForms_ok hmReachForms115_ok folReachForms (lf := 100000) (k := 1000) (by kernel_rfl)
def hmReachForms116 : List HE := hReachForms115 :: hmReachForms115
theorem hmReachForms116_ok : ∀ x ∈ hmReachForms116, HOk Tryd.prog x := hmemo_cons hReachForms115_ok hmReachForms115_ok
def hReachForms116 : HE := ⟨38, [(.agg [(.sl 0 1 0 2 none 1),(.sl 1 4 0 5 none 1),(.sl 2 7 0 8 none 2)])], [breachForms8, breachForms9, breachForms30, breachForms12, breachForms11, breachForms13, breachForms14, breachForms15, breachForms16, breachForms17], [((.val (eI 0)), [])]⟩
theorem hReachForms116_ok : HOk Tryd.prog hReachForms116 := hok_eq mmReachForms_ok hmReachForms116_ok folReachForms (lf := 100000) (k := 1000) (by kernel_rfl)
def hmReachForms117 : List HE := hReachForms116 :: hmReachForms116
theorem hmReachForms117_ok : ∀ x ∈ hmReachForms117, HOk Tryd.prog x := hmemo_cons hReachForms116_ok hmReachForms116_ok
def hReachForms117 : HE := ⟨32, [(.agg [(.sl 0 1 0 2 none 1),(.sl 1 4 0 5 none 1),(.sl 2 7 0 8 none 2)]),eB0], [breachForms8, breachForms9, breachForms30, breachForms12, breachForms11, breachForms13, breachForms14, breachForms15, breachForms16, breachForms17], [((.val (.lit (.int .u64 7))), [])]⟩
theorem hReachForms117_ok : HOk Tryd.prog hReachForms117 := hok_eq mmReachForms_ok hmReachForms117_ok folReachForms (lf := 100000) (k := 1000) (by kernel_rfl)
def hmReachForms118 : List HE := hReachForms117 :: hmReachForms117
theorem hmReachForms118_ok : ∀ x ∈ hmReachForms118, HOk Tryd.prog x := hmemo_cons hReachForms117_ok hmReachForms117_ok
def hReachForms118 : HE := ⟨9, [(.agg [(.sl 0 1 0 2 none 1),(.sl 1 4 0 5 none 1),(.sl 2 7 0 8 none 2)])], [breachForms8, breachForms9, breachForms30, breachForms12, breachForms11, breachForms13, breachForms14, breachForms15, breachForms16, breachForms17], [((.val (.lit (.int .u64 7))), [])]⟩
theorem hReachForms118_ok : HOk Tryd.prog hReachForms118 := hok_eq mmReachForms_ok hmReachForms118_ok folReachForms (lf := 100000) (k := 1000) (by kernel_rfl)
def hmReachForms119 : List HE := hReachForms118 :: hmReachForms118
theorem hmReachForms119_ok : ∀ x ∈ hmReachForms119, HOk Tryd.prog x := hmemo_cons hReachForms118_ok hmReachForms118_ok
def hReachForms119 : HE := ⟨52, [(.agg [(.sl 0 1 0 2 none 1),(.sl 1 4 0 5 none 1),(.sl 2 7 0 8 none 2)])], [breachForms8, breachForms9, breachForms30, breachForms11, breachForms12, breachForms13, breachForms14, breachForms15, breachForms16, breachForms17], [((.val eB1), [])]⟩
theorem hReachForms119_ok : HOk Tryd.prog hReachForms119 := hok_eq mmReachForms_ok hmReachForms119_ok folReachForms (lf := 100000) (k := 1000) (by kernel_rfl)
def hmReachForms120 : List HE := hReachForms119 :: hmReachForms119
theorem hmReachForms120_ok : ∀ x ∈ hmReachForms120, HOk Tryd.prog x := hmemo_cons hReachForms119_ok hmReachForms119_ok
def hReachForms120 : HE := ⟨53, [(.agg [(.sl 0 1 0 2 none 1),(.sl 1 4 0 5 none 1),(.sl 2 7 0 8 none 2)])], [breachForms8, breachForms9, breachForms30, breachForms11, breachForms12, breachForms13, breachForms14, breachForms15, breachForms16, breachForms17], [((.val eB1), [])]⟩
theorem hReachForms120_ok : HOk Tryd.prog hReachForms120 := hok_eq mmReachForms_ok hmReachForms120_ok folReachForms (lf := 100000) (k := 1000) (by kernel_rfl)
def hmReachForms121 : List HE := hReachForms120 :: hmReachForms120
theorem hmReachForms121_ok : ∀ x ∈ hmReachForms121, HOk Tryd.prog x := hmemo_cons hReachForms120_ok hmReachForms120_ok
def hReachForms121 : HE := ⟨38, [(.agg [(.sl 0 1 0 2 none 1),(.sl 1 4 0 5 none 1),(.sl 2 7 0 8 none 2)])], [breachForms8, breachForms9, breachForms30, breachForms11, breachForms12, breachForms13, breachForms14, breachForms15, breachForms16, breachForms17], [((.val (eI 0)), [])]⟩
theorem hReachForms121_ok : HOk Tryd.prog hReachForms121 := hok_eq mmReachForms_ok hmReachForms121_ok folReachForms (lf := 100000) (k := 1000) (by kernel_rfl)
def hmReachForms122 : List HE := hReachForms121 :: hmReachForms121
theorem hmReachForms122_ok : ∀ x ∈ hmReachForms122, HOk Tryd.prog x := hmemo_cons hReachForms121_ok hmReachForms121_ok
def hReachForms122 : HE := ⟨32, [(.agg [(.sl 0 1 0 2 none 1),(.sl 1 4 0 5 none 1),(.sl 2 7 0 8 none 2)]),eB0], [breachForms8, breachForms9, breachForms30, breachForms11, breachForms12, breachForms13, breachForms14, breachForms15, breachForms16, breachForms17], [((.val (.lit (.int .u64 7))), [])]⟩
theorem hReachForms122_ok : HOk Tryd.prog hReachForms122 := hok_eq mmReachForms_ok hmReachForms122_ok folReachForms (lf := 100000) (k := 1000) (by kernel_rfl)
def hmReachForms123 : List HE := hReachForms122 :: hmReachForms122
theorem hmReachForms123_ok : ∀ x ∈ hmReachForms123, HOk Tryd.prog x := hmemo_cons hReachForms122_ok hmReachForms122_ok
def hReachForms123 : HE := ⟨9, [(.agg [(.sl 0 1 0 2 none 1),(.sl 1 4 0 5 none 1),(.sl 2 7 0 8 none 2)])], [breachForms8, breachForms9, breachForms30, breachForms11, breachForms12, breachForms13, breachForms14, breachForms15, breachForms16, breachForms17], [((.val (.lit (.int .u64 7))), [])]⟩
theorem hReachForms123_ok : HOk Tryd.prog hReachForms123 := hok_eq mmReachForms_ok hmReachForms123_ok folReachForms (lf := 100000) (k := 1000) (by kernel_rfl)
def hmReachForms124 : List HE := hReachForms123 :: hmReachForms123
theorem hmReachForms124_ok : ∀ x ∈ hmReachForms124, HOk Tryd.prog x := hmemo_cons hReachForms123_ok hmReachForms123_ok
def hReachForms124 : HE := ⟨39, [(.sl 0 0 0 1 none 1),(.lit (.int .u64 0)),eB1], [breachForms17], [((.val eB1), [])]⟩
theorem hReachForms124_ok : HOk Tryd.prog hReachForms124 := hok_eq mmReachForms_ok hmReachForms124_ok folReachForms (lf := 100000) (k := 1000) (by kernel_rfl)
def hmReachForms125 : List HE := hReachForms124 :: hmReachForms124
theorem hmReachForms125_ok : ∀ x ∈ hmReachForms125, HOk Tryd.prog x := hmemo_cons hReachForms124_ok hmReachForms124_ok
def hReachForms125 : HE := ⟨39, [(.sl 0 1 0 2 none 1),(.lit (.int .u64 16)),eB1], [breachForms12], [((.val eB0), [])]⟩
theorem hReachForms125_ok : HOk Tryd.prog hReachForms125 := hok_eq mmReachForms_ok hmReachForms125_ok folReachForms (lf := 100000) (k := 1000) (by kernel_rfl)
def hmReachForms126 : List HE := hReachForms125 :: hmReachForms125
theorem hmReachForms126_ok : ∀ x ∈ hmReachForms126, HOk Tryd.prog x := hmemo_cons hReachForms125_ok hmReachForms125_ok
def hReachForms126 : HE := ⟨39, [(.lit (.slice none 0 0)),(.lit (.int .u64 16)),eB1], [], [((.val eB1), [])]⟩
theorem hReachForms126_ok : HOk Tryd.prog hReachForms126 := hok_eq mmReachForms_ok hmReachForms126_ok folReachForms (lf := 100000) (k := 1000) (by kernel_rfl)
def hmReachForms127 : List HE := hReachForms126 :: hmReachForms126
theorem hmReachForms127_ok : ∀ x ∈ hmReachForms127, HOk Tryd.prog x := hmemo_cons hReachForms126_ok hmReachForms126_ok
def hReachForms127 : HE := ⟨39, [(.sl 0 1 0 2 none 1),(.lit (.int .u64 18)),eB1], [breachForms14], [((.val eB1), [])]⟩
theorem hReachForms127_ok : HOk Tryd.prog hReachForms127 := hok_eq mmReachForms_ok hmReachForms127_ok folReachForms (lf := 100000) (k := 1000) (by kernel_rfl)
def hmReachForms128 : List HE := hReachForms127 :: hmReachForms127
theorem hmReachForms128_ok : ∀ x ∈ hmReachForms128, HOk Tryd.prog x := hmemo_cons hReachForms127_ok hmReachForms127_ok
def hReachForms128 : HE := ⟨39, [(.sl 0 1 0 2 none 1),(.lit (.int .u64 22)),eB1], [breachForms15], [((.val eB0), [])]⟩
theorem hReachForms128_ok : HOk Tryd.prog hReachForms128 := hok_eq mmReachForms_ok hmReachForms128_ok folReachForms (lf := 100000) (k := 1000) (by kernel_rfl)
def hmReachForms129 : List HE := hReachForms128 :: hmReachForms128
theorem hmReachForms129_ok : ∀ x ∈ hmReachForms129, HOk Tryd.prog x := hmemo_cons hReachForms128_ok hmReachForms128_ok
def hReachForms129 : HE := ⟨32, [(.agg [(.sl 0 1 0 2 none 1),(.sl 1 4 0 5 none 1),(.sl 2 7 0 8 none 2)]),eB1], [breachForms8, breachForms9, breachForms24, breachForms17, breachForms12, breachForms13, breachForms14, breachForms15, breachForms16, breachForms11], [((.val (.lit (.int .u64 23))), [])]⟩
theorem hReachForms129_ok : HOk Tryd.prog hReachForms129 := hok_eq mmReachForms_ok hmReachForms129_ok folReachForms (lf := 100000) (k := 1000) (by kernel_rfl)
def hmReachForms130 : List HE := hReachForms129 :: hmReachForms129
theorem hmReachForms130_ok : ∀ x ∈ hmReachForms130, HOk Tryd.prog x := hmemo_cons hReachForms129_ok hmReachForms129_ok
def hReachForms130 : HE := ⟨10, [(.agg [(.sl 0 1 0 2 none 1),(.sl 1 4 0 5 none 1),(.sl 2 7 0 8 none 2)])], [breachForms8, breachForms9, breachForms24, breachForms17, breachForms12, breachForms13, breachForms14, breachForms15, breachForms16, breachForms11], [((.val (.lit (.int .u64 23))), [])]⟩
theorem hReachForms130_ok : HOk Tryd.prog hReachForms130 := hok_eq mmReachForms_ok hmReachForms130_ok folReachForms (lf := 100000) (k := 1000) (by kernel_rfl)
def hmReachForms131 : List HE := hReachForms130 :: hmReachForms130
theorem hmReachForms131_ok : ∀ x ∈ hmReachForms131, HOk Tryd.prog x := hmemo_cons hReachForms130_ok hmReachForms130_ok
def hReachForms131 : HE := ⟨39, [(.sl 0 1 0 2 none 1),(.lit (.int .u64 0)),eB1], [breachForms16], [((.val eB0), [])]⟩
theorem hReachForms131_ok : HOk Tryd.prog hReachForms131 := hok_eq mmReachForms_ok hmReachForms131_ok folReachForms (lf := 100000) (k := 1000) (by kernel_rfl)
def hmReachForms132 : List HE := hReachForms131 :: hmReachForms131
theorem hmReachForms132_ok : ∀ x ∈ hmReachForms132, HOk Tryd.prog x := hmemo_cons hReachForms131_ok hmReachForms131_ok
def hReachForms132 : HE := ⟨39, [(.sl 0 1 0 2 none 1),(.lit (.int .u64 6)),eB1], [breachForms11], [((.val eB1), [])]⟩
theorem hReachForms132_ok : HOk Tryd.prog hReachForms132 := hok_eq mmReachForms_ok hmReachForms132_ok folReachForms (lf := 100000) (k := 1000) (by kernel_rfl)
def hmReachForms133 : List HE := hReachForms132 :: hmReachForms132
theorem hmReachForms133_ok : ∀ x ∈ hmReachForms133, HOk Tryd.prog x := hmemo_cons hReachForms132_ok hmReachForms132_ok
def hReachForms133 : HE := ⟨39, [(.sl 0 0 0 1 none 1),(.lit (.int .u64 7)),eB1], [breachForms17], [((.val eB1), [])]⟩
theorem hReachForms133_ok : HOk Tryd.prog hReachForms133 := hok_eq mmReachForms_ok hmReachForms133_ok folReachForms (lf := 100000) (k := 1000) (by kernel_rfl)
def hmReachForms134 : List HE := hReachForms133 :: hmReachForms133
theorem hmReachForms134_ok : ∀ x ∈ hmReachForms134, HOk Tryd.prog x := hmemo_cons hReachForms133_ok hmReachForms133_ok
def hReachForms134 : HE := ⟨32, [(.agg [(.sl 0 1 0 2 none 1),(.sl 1 4 0 5 none 1),(.sl 2 7 0 8 none 2)]),eB1], [breachForms8, breachForms9, breachForms25, breachForms16, breachForms12, breachForms13, breachForms14, breachForms15, breachForms11, breachForms17], [((.val (.lit (.int .u64 23))), [])]⟩
theorem hReachForms134_ok : HOk Tryd.prog hReachForms134 := hok_eq mmReachForms_ok hmReachForms134_ok folReachForms (lf := 100000) (k := 1000) (by kernel_rfl)
def hmReachForms135 : List HE := hReachForms134 :: hmReachForms134
theorem hmReachForms135_ok : ∀ x ∈ hmReachForms135, HOk Tryd.prog x := hmemo_cons hReachForms134_ok hmReachForms134_ok
def hReachForms135 : HE := ⟨10, [(.agg [(.sl 0 1 0 2 none 1),(.sl 1 4 0 5 none 1),(.sl 2 7 0 8 none 2)])], [breachForms8, breachForms9, breachForms25, breachForms16, breachForms12, breachForms13, breachForms14, breachForms15, breachForms11, breachForms17], [((.val (.lit (.int .u64 23))), [])]⟩
theorem hReachForms135_ok : HOk Tryd.prog hReachForms135 := hok_eq mmReachForms_ok hmReachForms135_ok folReachForms (lf := 100000) (k := 1000) (by kernel_rfl)
def hmReachForms136 : List HE := hReachForms135 :: hmReachForms135
theorem hmReachForms136_ok : ∀ x ∈ hmReachForms136, HOk Tryd.prog x := hmemo_cons hReachForms135_ok hmReachForms135_ok
def hReachForms136 : HE := ⟨39, [(.sl 0 1 0 2 none 1),(.lit (.int .u64 0)),eB1], [breachForms15], [((.val eB0), [])]⟩
theorem hReachForms136_ok : HOk Tryd.prog hReachForms136 := hok_eq mmReachForms_ok hmReachForms136_ok folReachForms (lf := 100000) (k := 1000) (by kernel_rfl)
def hmReachForms137 : List HE := hReachForms136 :: hmReachForms136
theorem hmReachForms137_ok : ∀ x ∈ hmReachForms137, HOk Tryd.prog x := hmemo_cons hReachForms136_ok hmReachForms136_ok
def hReachForms137 : HE := ⟨39, [(.sl 0 1 0 2 none 1),(.lit (.int .u64 7)),eB1], [breachForms16], [((.val eB0), [])]⟩
theorem hReachForms137_ok : HOk Tryd.prog hReachForms137 := hok_eq mmReachForms_ok hmReachForms137_ok folReachForms (lf := 100000) (k := 1000) (by kernel_rfl)
def hmReachForms138 : List HE := hReachForms137 :: hmReachForms137
theorem hmReachForms138_ok : ∀ x ∈ hmReachForms138, HOk Tryd.prog x := hmemo_cons hReachForms137_ok hmReachForms137_ok
def hReachForms138 : HE := ⟨32, [(.agg [(.sl 0 1 0 2 none 1),(.sl 1 4 0 5 none 1),(.sl 2 7 0 8 none 2)]),eB1], [breachForms8, breachForms9, breachForms26, breachForms15, breachForms12, breachForms13, breachForms14, breachForms11, breachForms16, breachForms17], [((.val (.lit (.int .u64 23))), [])]⟩
theorem hReachForms138_ok : HOk Tryd.prog hReachForms138 := hok_eq mmReachForms_ok hmReachForms138_ok folReachForms (lf := 100000) (k := 1000) (by kernel_rfl)
def hmReachForms139 : List HE := hReachForms138 :: hmReachForms138
theorem hmReachForms139_ok : ∀ x ∈ hmReachForms139, HOk Tryd.prog x := hmemo_cons hReachForms138_ok hmReachForms138_ok
def hReachForms139 : HE := ⟨10, [(.agg [(.sl 0 1 0 2 none 1),(.sl 1 4 0 5 none 1),(.sl 2 7 0 8 none 2)])], [breachForms8, breachForms9, breachForms26, breachForms15, breachForms12, breachForms13, breachForms14, breachForms11, breachForms16, breachForms17], [((.val (.lit (.int .u64 23))), [])]⟩
theorem hReachForms139_ok : HOk Tryd.prog hReachForms139 := hok_eq mmReachForms_ok hmReachForms139_ok folReachForms (lf := 100000) (k := 1000) (by kernel_rfl)
def hmReachForms140 : List HE := hReachForms139 :: hmReachForms139
theorem hmReachForms140_ok : ∀ x ∈ hmReachForms140, HOk Tryd.prog x := hmemo_cons hReachForms139_ok hmReachForms139_ok
def hReachForms140 : HE := ⟨39, [(.sl 0 1 0 2 none 1),(.lit (.int .u64 0)),eB1], [breachForms14], [((.val eB0), [])]⟩
theorem hReachForms140_ok : HOk Tryd.prog hReachForms140 := hok_eq mmReachForms_ok hmReachForms140_ok folReachForms (lf := 100000) (k := 1000) (by kernel_rfl)
def hmReachForms141 : List HE := hReachForms140 :: hmReachForms140
theorem hmReachForms141_ok : ∀ x ∈ hmReachForms141, HOk Tryd.prog x := hmemo_cons hReachForms140_ok hmReachForms140_ok
def hReachForms141 : HE := ⟨39, [(.sl 0 1 0 2 none 1),(.lit (.int .u64 2)),eB1], [breachForms11], [((.val eB0), [])]⟩
theorem hReachForms141_ok : HOk Tryd.prog hReachForms141 := hok_eq mmReachForms_ok hmReachForms141_ok folReachForms (lf := 100000) (k := 1000) (by kernel_rfl)
def hmReachForms142 : List HE := hReachForms141 :: hmReachForms141
theorem hmReachForms142_ok : ∀ x ∈ hmReachForms142, HOk Tryd.prog x := hmemo_cons hReachForms141_ok hmReachForms141_ok
def hReachForms142 : HE := ⟨39, [(.sl 0 1 0 2 none 1),(.lit (.int .u64 2)),eB1], [breachForms15], [((.val eB0), [])]⟩
theorem hReachForms142_ok : HOk Tryd.prog hReachForms142 := hok_eq mmReachForms_ok hmReachForms142_ok folReachForms (lf := 100000) (k := 1000) (by kernel_rfl)
def hmReachForms143 : List HE := hReachForms142 :: hmReachForms142
theorem hmReachForms143_ok : ∀ x ∈ hmReachForms143, HOk Tryd.prog x := hmemo_cons hReachForms142_ok hmReachForms142_ok
def hReachForms143 : HE := ⟨39, [(.sl 0 1 0 2 none 1),(.lit (.int .u64 2)),eB1], [breachForms16], [((.val eB0), [])]⟩
theorem hReachForms143_ok : HOk Tryd.prog hReachForms143 := hok_eq mmReachForms_ok hmReachForms143_ok folReachForms (lf := 100000) (k := 1000) (by kernel_rfl)
def hmReachForms144 : List HE := hReachForms143 :: hmReachForms143
theorem hmReachForms144_ok : ∀ x ∈ hmReachForms144, HOk Tryd.prog x := hmemo_cons hReachForms143_ok hmReachForms143_ok
def hReachForms144 : HE := ⟨39, [(.sl 0 0 0 1 none 1),(.lit (.int .u64 2)),eB1], [breachForms17], [((.val eB1), [])]⟩
theorem hReachForms144_ok : HOk Tryd.prog hReachForms144 := hok_eq mmReachForms_ok hmReachForms144_ok folReachForms (lf := 100000) (k := 1000) (by kernel_rfl)
def hmReachForms145 : List HE := hReachForms144 :: hmReachForms144
theorem hmReachForms145_ok : ∀ x ∈ hmReachForms145, HOk Tryd.prog x := hmemo_cons hReachForms144_ok hmReachForms144_ok
def hReachForms145 : HE := ⟨39, [(.sl 0 1 0 2 none 1),(.lit (.int .u64 22)),eB1], [breachForms12], [((.val eB0), [])]⟩
theorem hReachForms145_ok : HOk Tryd.prog hReachForms145 := hok_eq mmReachForms_ok hmReachForms145_ok folReachForms (lf := 100000) (k := 1000) (by kernel_rfl)
def hmReachForms146 : List HE := hReachForms145 :: hmReachForms145
theorem hmReachForms146_ok : ∀ x ∈ hmReachForms146, HOk Tryd.prog x := hmemo_cons hReachForms145_ok hmReachForms145_ok
def hReachForms146 : HE := ⟨32, [(.agg [(.sl 0 1 0 2 none 1),(.sl 1 4 0 5 none 1),(.sl 2 7 0 8 none 2)]),eB1], [breachForms8, breachForms9, breachForms27, breachForms14, breachForms12, breachForms13, breachForms11, breachForms15, breachForms16, breachForms17], [((.val (.lit (.int .u64 23))), [])]⟩
theorem hReachForms146_ok : HOk Tryd.prog hReachForms146 := hok_eq mmReachForms_ok hmReachForms146_ok folReachForms (lf := 100000) (k := 1000) (by kernel_rfl)
def hmReachForms147 : List HE := hReachForms146 :: hmReachForms146
theorem hmReachForms147_ok : ∀ x ∈ hmReachForms147, HOk Tryd.prog x := hmemo_cons hReachForms146_ok hmReachForms146_ok
def hReachForms147 : HE := ⟨10, [(.agg [(.sl 0 1 0 2 none 1),(.sl 1 4 0 5 none 1),(.sl 2 7 0 8 none 2)])], [breachForms8, breachForms9, breachForms27, breachForms14, breachForms12, breachForms13, breachForms11, breachForms15, breachForms16, breachForms17], [((.val (.lit (.int .u64 23))), [])]⟩
theorem hReachForms147_ok : HOk Tryd.prog hReachForms147 := hok_eq mmReachForms_ok hmReachForms147_ok folReachForms (lf := 100000) (k := 1000) (by kernel_rfl)
def hmReachForms148 : List HE := hReachForms147 :: hmReachForms147
theorem hmReachForms148_ok : ∀ x ∈ hmReachForms148, HOk Tryd.prog x := hmemo_cons hReachForms147_ok hmReachForms147_ok
def hReachForms148 : HE := ⟨39, [(.sl 0 0 0 1 none 1),(.lit (.int .u64 0)),eB1], [breachForms13], [((.val eB1), [])]⟩
theorem hReachForms148_ok : HOk Tryd.prog hReachForms148 := hok_eq mmReachForms_ok hmReachForms148_ok folReachForms (lf := 100000) (k := 1000) (by kernel_rfl)
def hmReachForms149 : List HE := hReachForms148 :: hmReachForms148
theorem hmReachForms149_ok : ∀ x ∈ hmReachForms149, HOk Tryd.prog x := hmemo_cons hReachForms148_ok hmReachForms148_ok
def hReachForms149 : HE := ⟨39, [(.sl 0 1 0 2 none 1),(.lit (.int .u64 2)),eB1], [breachForms12], [((.val eB0), [])]⟩
theorem hReachForms149_ok : HOk Tryd.prog hReachForms149 := hok_eq mmReachForms_ok hmReachForms149_ok folReachForms (lf := 100000) (k := 1000) (by kernel_rfl)
def hmReachForms150 : List HE := hReachForms149 :: hmReachForms149
theorem hmReachForms150_ok : ∀ x ∈ hmReachForms150, HOk Tryd.prog x := hmemo_cons hReachForms149_ok hmReachForms149_ok
def hReachForms150 : HE := ⟨32, [(.agg [(.sl 0 1 0 2 none 1),(.sl 1 4 0 5 none 1),(.sl 2 7 0 8 none 2)]),eB1], [breachForms8, breachForms9, breachForms28, breachForms13, breachForms12, breachForms11, breachForms14, breachForms15, breachForms16, breachForms17], [((.val (.lit (.int .u64 23))), [])]⟩
theorem hReachForms150_ok : HOk Tryd.prog hReachForms150 := hok_eq mmReachForms_ok hmReachForms150_ok folReachForms (lf := 100000) (k := 1000) (by kernel_rfl)
def hmReachForms151 : List HE := hReachForms150 :: hmReachForms150
theorem hmReachForms151_ok : ∀ x ∈ hmReachForms151, HOk Tryd.prog x := hmemo_cons hReachForms150_ok hmReachForms150_ok
def hReachForms151 : HE := ⟨10, [(.agg [(.sl 0 1 0 2 none 1),(.sl 1 4 0 5 none 1),(.sl 2 7 0 8 none 2)])], [breachForms8, breachForms9, breachForms28, breachForms13, breachForms12, breachForms11, breachForms14, breachForms15, breachForms16, breachForms17], [((.val (.lit (.int .u64 23))), [])]⟩
theorem hReachForms151_ok : HOk Tryd.prog hReachForms151 := hok_eq mmReachForms_ok hmReachForms151_ok folReachForms (lf := 100000) (k := 1000) (by kernel_rfl)
def hmReachForms152 : List HE := hReachForms151 :: hmReachForms151
theorem hmReachForms152_ok : ∀ x ∈ hmReachForms152, HOk Tryd.prog x := hmemo_cons hReachForms151_ok hmReachForms151_ok
def hReachForms152 : HE := ⟨32, [(.agg [(.sl 0 1 0 2 none 1),(.sl 1 4 0 5 none 1),(.sl 2 7 0 8 none 2)]),eB1], [breachForms8, breachForms9, breachForms29, breachForms12, breachForms11, breachForms13, breachForms14, breachForms15, breachForms16, breachForms17], [((.val (.lit (.int .u64 23))), [])]⟩
theorem hReachForms152_ok : HOk Tryd.prog hReachForms152 := hok_eq mmReachForms_ok hmReachForms152_ok folReachForms (lf := 100000) (k := 1000) (by kernel_rfl)
def hmReachForms153 : List HE := hReachForms152 :: hmReachForms152
theorem hmReachForms153_ok : ∀ x ∈ hmReachForms153, HOk Tryd.prog x := hmemo_cons hReachForms152_ok hmReachForms152_ok
def hReachForms153 : HE := ⟨10, [(.agg [(.sl 0 1 0 2 none 1),(.sl 1 4 0 5 none 1),(.sl 2 7 0 8 none 2)])], [breachForms8, breachForms9, breachForms29, breachForms12, breachForms11, breachForms13, breachForms14, breachForms15, breachForms16, breachForms17], [((.val (.lit (.int .u64 23))), [])]⟩
theorem hReachForms153_ok : HOk Tryd.prog hReachForms153 := hok_eq mmReachForms_ok hmReachForms153_ok folReachForms (lf := 100000) (k := 1000) (by kernel_rfl)
def hmReachForms154 : List HE := hReachForms153 :: hmReachForms153
theorem hmReachForms154_ok : ∀ x ∈ hmReachForms154, HOk Tryd.prog x := hmemo_cons hReachForms153_ok hmReachForms153_ok
def hReachForms154 : HE := ⟨32, [(.agg [(.sl 0 1 0 2 none 1),(.sl 1 4 0 5 none 1),(.sl 2 7 0 8 none 2)]),eB1], [breachForms8, breachForms9, breachForms30, breachForms12, breachForms11, breachForms13, breachForms14, breachForms15, breachForms16, breachForms17], [((.val (.lit (.int .u64 23))), [])]⟩
theorem hReachForms154_ok : HOk Tryd.prog hReachForms154 := hok_eq mmReachForms_ok hmReachForms154_ok folReachForms (lf := 100000) (k := 1000) (by kernel_rfl)
def hmReachForms155 : List HE := hReachForms154 :: hmReachForms154
theorem hmReachForms155_ok : ∀ x ∈ hmReachForms155, HOk Tryd.prog x := hmemo_cons hReachForms154_ok hmReachForms154_ok
def hReachForms155 : HE := ⟨10, [(.agg [(.sl 0 1 0 2 none 1),(.sl 1 4 0 5 none 1),(.sl 2 7 0 8 none 2)])], [breachForms8, breachForms9, breachForms30, breachForms12, breachForms11, breachForms13, breachForms14, breachForms15, breachForms16, breachForms17], [((.val (.lit (.int .u64 23))), [])]⟩
theorem hReachForms155_ok : HOk Tryd.prog hReachForms155 := hok_eq mmReachForms_ok hmReachForms155_ok folReachForms (lf := 100000) (k := 1000) (by kernel_rfl)
def hmReachForms156 : List HE := hReachForms155 :: hmReachForms155
theorem hmReachForms156_ok : ∀ x ∈ hmReachForms156, HOk Tryd.prog x := hmemo_cons hReachForms155_ok hmReachForms155_ok
def hReachForms156 : HE := ⟨32, [(.agg [(.sl 0 1 0 2 none 1),(.sl 1 4 0 5 none 1),(.sl 2 7 0 8 none 2)]),eB1], [breachForms8, breachForms9, breachForms30, breachForms11, breachForms12, breachForms13, breachForms14, breachForms15, breachForms16, breachForms17], [((.val (.lit (.int .u64 23))), [])]⟩
theorem hReachForms156_ok : HOk Tryd.prog hReachForms156 := hok_eq mmReachForms_ok hmReachForms156_ok folReachForms (lf := 100000) (k := 1000) (by kernel_rfl)
def hmReachForms157 : List HE := hReachForms156 :: hmReachForms156
theorem hmReachForms157_ok : ∀ x ∈ hmReachForms157, HOk Tryd.prog x := hmemo_cons hReachForms156_ok hmReachForms156_ok
def hReachForms157 : HE := ⟨10, [(.agg [(.sl 0 1 0 2 none 1),(.sl 1 4 0 5 none 1),(.sl 2 7 0 8 none 2)])], [breachForms8, breachForms9, breachForms30, breachForms11, breachForms12, breachForms13, breachForms14, breachForms15, breachForms16, breachForms17], [((.val (.lit (.int .u64 23))), [])]⟩
theorem hReachForms157_ok : HOk Tryd.prog hReachForms157 := hok_eq mmReachForms_ok hmReachForms157_ok folReachForms (lf := 100000) (k := 1000) (by kernel_rfl)
def hmReachForms158 : List HE := hReachForms157 :: hmReachForms157
theorem hmReachForms158_ok : ∀ x ∈ hmReachForms158, HOk Tryd.prog x := hmemo_cons hReachForms157_ok hmReachForms157_ok
def hReachForms158 : HE := ⟨19, [(.agg [(.sl 0 1 0 2 none 1),(.sl 1 4 0 5 none 1),(.sl 2 7 0 8 none 2)])], [breachForms8, breachForms9, breachForms24, breachForms17, breachForms12, breachForms13, breachForms14, breachForms15, breachForms16, breachForms11], [((.val (.lit (.int .u64 15))), [])]⟩
theorem hReachForms158_ok : HOk Tryd.prog hReachForms158 := hok_eq mmReachForms_ok hmReachForms158_ok folReachForms (lf := 100000) (k := 1000) (by kernel_rfl)
def hmReachForms159 : List HE := hReachForms158 :: hmReachForms158
theorem hmReachForms159_ok : ∀ x ∈ hmReachForms159, HOk Tryd.prog x := hmemo_cons hReachForms158_ok hmReachForms158_ok
def hReachForms159 : HE := ⟨19, [(.agg [(.sl 0 1 0 2 none 1),(.sl 1 4 0 5 none 1),(.sl 2 7 0 8 none 2)])], [breachForms8, breachForms9, breachForms25, breachForms16, breachForms12, breachForms13, breachForms14, breachForms15, breachForms11, breachForms17], [((.val (.lit (.int .u64 15))), [])]⟩
theorem hReachForms159_ok : HOk Tryd.prog hReachForms159 := hok_eq mmReachForms_ok hmReachForms159_ok folReachForms (lf := 100000) (k := 1000) (by kernel_rfl)
def hmReachForms160 : List HE := hReachForms159 :: hmReachForms159
theorem hmReachForms160_ok : ∀ x ∈ hmReachForms160, HOk Tryd.prog x := hmemo_cons hReachForms159_ok hmReachForms159_ok
def hReachForms160 : HE := ⟨19, [(.agg [(.sl 0 1 0 2 none 1),(.sl 1 4 0 5 none 1),(.sl 2 7 0 8 none 2)])], [breachForms8, breachForms9, breachForms26, breachForms15, breachForms12, breachForms13, breachForms14, breachForms11, breachForms16, breachForms17], [((.val (.lit (.int .u64 15))), [])]⟩
theorem hReachForms160_ok : HOk Tryd.prog hReachForms160 := hok_eq mmReachForms_ok hmReachForms160_ok folReachForms (lf := 100000) (k := 1000) (by kernel_rfl)
def hmReachForms161 : List HE := hReachForms160 :: hmReachForms160
theorem hmReachForms161_ok : ∀ x ∈ hmReachForms161, HOk Tryd.prog x := hmemo_cons hReachForms160_ok hmReachForms160_ok
def hReachForms161 : HE := ⟨19, [(.agg [(.sl 0 1 0 2 none 1),(.sl 1 4 0 5 none 1),(.sl 2 7 0 8 none 2)])], [breachForms8, breachForms9, breachForms27, breachForms14, breachForms12, breachForms13, breachForms11, breachForms15, breachForms16, breachForms17], [((.val (.lit (.int .u64 15))), [])]⟩
theorem hReachForms161_ok : HOk Tryd.prog hReachForms161 := hok_eq mmReachForms_ok hmReachForms161_ok folReachForms (lf := 100000) (k := 1000) (by kernel_rfl)
def hmReachForms162 : List HE := hReachForms161 :: hmReachForms161
theorem hmReachForms162_ok : ∀ x ∈ hmReachForms162, HOk Tryd.prog x := hmemo_cons hReachForms161_ok hmReachForms161_ok
def hReachForms162 : HE := ⟨19, [(.agg [(.sl 0 1 0 2 none 1),(.sl 1 4 0 5 none 1),(.sl 2 7 0 8 none 2)])], [breachForms8, breachForms9, breachForms28, breachForms13, breachForms12, breachForms11, breachForms14, breachForms15, breachForms16, breachForms17], [((.val (.lit (.int .u64 15))), [])]⟩
theorem hReachForms162_ok : HOk Tryd.prog hReachForms162 := hok_eq mmReachForms_ok hmReachForms162_ok folReachForms (lf := 100000) (k := 1000) (by kernel_rfl)
def hmReachForms163 : List HE := hReachForms162 :: hmReachForms162
theorem hmReachForms163_ok : ∀ x ∈ hmReachForms163, HOk Tryd.prog x := hmemo_cons hReachForms162_ok hmReachForms162_ok
def hReachForms163 : HE := ⟨19, [(.agg [(.sl 0 1 0 2 none 1),(.sl 1 4 0 5 none 1),(.sl 2 7 0 8 none 2)])], [breachForms8, breachForms9, breachForms29, breachForms12, breachForms11, breachForms13, breachForms14, breachForms15, breachForms16, breachForms17], [((.val (.lit (.int .u64 15))), [])]⟩
theorem hReachForms163_ok : HOk Tryd.prog hReachForms163 := hok_eq mmReachForms_ok hmReachForms163_ok folReachForms (lf := 100000) (k := 1000) (by kernel_rfl)
def hmReachForms164 : List HE := hReachForms163 :: hmReachForms163
theorem hmReachForms164_ok : ∀ x ∈ hmReachForms164, HOk Tryd.prog x := hmemo_cons hReachForms163_ok hmReachForms163_ok
def hReachForms164 : HE := ⟨19, [(.agg [(.sl 0 1 0 2 none 1),(.sl 1 4 0 5 none 1),(.sl 2 7 0 8 none 2)])], [breachForms8, breachForms9, breachForms30, breachForms12, breachForms11, breachForms13, breachForms14, breachForms15, breachForms16, breachForms17], [((.val (.lit (.int .u64 15))), [])]⟩
theorem hReachForms164_ok : HOk Tryd.prog hReachForms164 := hok_eq mmReachForms_ok hmReachForms164_ok folReachForms (lf := 100000) (k := 1000) (by kernel_rfl)
def hmReachForms165 : List HE := hReachForms164 :: hmReachForms164
theorem hmReachForms165_ok : ∀ x ∈ hmReachForms165, HOk Tryd.prog x := hmemo_cons hReachForms164_ok hmReachForms164_ok
def hReachForms165 : HE := ⟨19, [(.agg [(.sl 0 1 0 2 none 1),(.sl 1 4 0 5 none 1),(.sl 2 7 0 8 none 2)])], [breachForms8, breachForms9, breachForms30, breachForms11, breachForms12, breachForms13, breachForms14, breachForms15, breachForms16, breachForms17], [((.val (.lit (.int .u64 15))), [])]⟩
theorem hReachForms165_ok : HOk Tryd.prog hReachForms165 := hok_eq mmReachForms_ok hmReachForms165_ok folReachForms (lf := 100000) (k := 1000) (by kernel_rfl)
def hmReachForms166 : List HE := hReachForms165 :: hmReachForms165
theorem hmReachForms166_ok : ∀ x ∈ hmReachForms166, HOk Tryd.prog x := hmemo_cons hReachForms165_ok hmReachForms165_ok
def hReachForms166 : HE := ⟨49, [(eU 84)], [], [((.val eB1), [])]⟩
theorem hReachForms166_ok : HOk Tryd.prog hReachForms166 := hok_eq mmReachForms_ok hmReachForms166_ok folReachForms (lf := 100000) (k := 1000) (by kernel_rfl)
def hmReachForms167 : List HE := hReachForms166 :: hmReachForms166
theorem hmReachForms167_ok : ∀ x ∈ hmReachForms167, HOk Tryd.prog x := hmemo_cons hReachForms166_ok hmReachForms166_ok
def hReachForms167 : HE := ⟨44, [(eS [84])], [], [((.val eB1), [])]⟩
theorem hReachForms167_ok : HOk Tryd.prog hReachForms167 := hok_eq mmReachForms_ok hmReachForms167_ok folReachForms (lf := 100000) (k := 1000) (by kernel_rfl)
def hmReachForms168 : List HE := hReachForms167 :: hmReachForms167
theorem hmReachForms168_ok : ∀ x ∈ hmReachForms168, HOk Tryd.prog x := hmemo_cons hReachForms167_ok hmReachForms167_ok
def breachForms31 : Blk := ⟨[(eI 1),(eS [83]),(eI 1),(eI 1),(eI 3),(eS [58]),(eI 1),(eI 2),(eI 2),(eS [97]),(eI 1),(eI 4),(eI 1),(eS [83]),(eI 1),(eI 6),(eI 4),(eS [124]),(eI 1),(eI 8),(eI 1),(eS [84]),(eI 1),(eI 10),(eI 1),(eS [83]),(eI 1),(eI 12),(eI 5),(eS []),(eI 1),(eI 13),(eI 1),(eS [84]),(eI 2),(eI 1),(eI 3),(eS [58]),(eI 2),(eI 2),(eI 2),(eS [98]),(eI 2),(eI 4),(eI 5),(eS []),(eI 2),(eI 5)],72,[(11,48),(10,44),(9,40),(8,36),(7,32),(6,28),(5,24),(4,20),(3,16),(2,12),(1,8),(0,4)],12,0,false,11,none⟩
def hReachForms168 : HE := ⟨34, [(eS [83,58,32,97,32,83,32,124,32,84,32,83,10,84,58,32,98,10])], [], [((.val (.tup [(.sl 0 11 0 12 none 4),(eI 0),(eI 0)])), [breachForms31])]⟩
theorem hReachForms168_ok : HOk Tryd.prog hReachForms168 := hok_eq mmReachForms_ok hmReachForms168_ok folReachForms (lf := 100000) (k := 1000) (by kernel_rfl)
def hmReachForms169 : List HE := hReachForms168 :: hmReachForms168
theorem hmReachForms169_ok : ∀ x ∈ hmReachForms169, HOk Tryd.prog x := hmemo_cons hReachForms168_ok hmReachForms168_ok
def breachForms32 : Blk := ⟨[(eI 1),(eS [83]),(eI 1),(eI 1),(.sl 2 5 0 6 none 4),(eI 1),(eS [84]),(eI 2),(eI 1),(.sl 3 1 0 2 none 4)],76,[(1,10),(0,5)],2,0,false,1,none⟩
def breachForms33 : Blk := ⟨[(eI 2),(eS [97]),(eI 1),(eI 4),(eI 1),(eS [83]),(eI 1),(eI 6),(eI 4),(eS [124]),(eI 1),(eI 8),(eI 1),(eS [84]),(eI 1),(eI 10),(eI 1),(eS [83]),(eI 1),(eI 12),(eI 5),(eS []),(eI 1),(eI 13)],72,[(5,24),(4,20),(3,16),(2,12),(1,8),(0,4)],6,0,false,5,none⟩
def breachForms34 : Blk := ⟨[(eI 2),(eS [98]),(eI 2),(eI 4),(eI 5),(eS []),(eI 2),(eI 5)],72,[(1,8),(0,4)],2,0,false,1,none⟩
def hReachForms169 : HE := ⟨35, [(.sl 0 11 0 12 none 4)], [breachForms31], [((.val (.tup [(.sl 1 1 0 2 none 5),(.agg [(eI 0),(eS []),(eI 0),(eI 0)]),eB1])), [breachForms32, breachForms33, breachForms34])]⟩
theorem hReachForms169_ok : HOk Tryd.prog hReachForms169 := hok_eq mmReachForms_ok hmReachForms169_ok folReachForms (lf := 100000) (k := 1000) (by kernel_rfl)
def hmReachForms170 : List HE := hReachForms169 :: hmReachForms169
theorem hmReachForms170_ok : ∀ x ∈ hmReachForms170, HOk Tryd.prog x := hmemo_cons hReachForms169_ok hmReachForms169_ok
def breachForms35 : Blk := ⟨[(eS [83]),(eS [84])],9,[(1,2),(0,1)],2,0,false,1,none⟩
def breachForms36 : Blk := ⟨[(eI 100),(.sl 3 1 0 2 none 1),(eI 100),(.sl 4 1 0 2 none 1),(eI 101),(.sl 5 0 0 1 none 1)],50,[(2,6),(1,4),(0,2)],3,0,false,2,none⟩
def breachForms37 : Blk := ⟨[(eI 1),(eI 100)],3,[(1,2),(0,1)],2,0,false,1,none⟩
def breachForms38 : Blk := ⟨[(eI 101),(eI 100)],3,[(1,2),(0,1)],2,0,false,1,none⟩
def hReachForms170 : HE := ⟨16, [(eS [83,58,32,97,32,83,32,124,32,84,32,83,10,84,58,32,98,10])], [], [((.val (.tup [(.agg [(.sl 0 1 0 2 none 1),(.sl 1 1 0 2 none 1),(.sl 2 2 0 3 none 2)]),(eI 0),(eI 0),(eI 0)])), [breachForms8, breachForms35, breachForms36, breachForms37, breachForms38, breachForms17])]⟩
theorem hReachForms170_ok : HOk Tryd.prog hReachForms170 := hok_eq mmReachForms_ok hmReachForms170_ok folReachForms (lf := 100000) (k := 1000) (by kernel_rfl)
def hmReachForms171 : List HE := hReachForms170 :: hmReachForms170
theorem hmReachForms171_ok : ∀ x ∈ hmReachForms171, HOk Tryd.prog x := hmemo_cons hReachForms170_ok hmReachForms170_ok
def hReachForms171 : HE := ⟨60, [(eS [84])], [], [((.val eB1), [])]⟩
theorem hReachForms171_ok : HOk Tryd.prog hReachForms171 := hok_eq mmReachForms_ok hmReachForms171_ok folReachForms (lf := 100000) (k := 1000) (by kernel_rfl)
def hmReachForms172 : List HE := hReachForms171 :: hmReachForms171
theorem hmReachForms172_ok : ∀ x ∈ hmReachForms172, HOk Tryd.prog x := hmemo_cons hReachForms171_ok hmReachForms171_ok
def hReachForms172 : HE := ⟨52, [(.agg [(.sl 0 1 0 2 none 1),(.sl 1 1 0 2 none 1),(.sl 2 2 0 3 none 2)])], [breachForms8, breachForms35, breachForms36, breachForms37, breachForms38, breachForms17], [((.val eB1), [])]⟩
theorem hReachForms172_ok : HOk Tryd.prog hReachForms172 := hok_eq mmReachForms_ok hmReachForms172_ok folReachForms (lf := 100000) (k := 1000) (by kernel_rfl)
def hmReachForms173 : List HE := hReachForms172 :: hmReachForms172
theorem hmReachForms173_ok : ∀ x ∈ hmReachForms173, HOk Tryd.prog x := hmemo_cons hReachForms172_ok hmReachForms172_ok
def hReachForms173 : HE := ⟨53, [(.agg [(.sl 0 1 0 2 none 1),(.sl 1 1 0 2 none 1),(.sl 2 2 0 3 none 2)])], [breachForms8, breachForms35, breachForms36, breachForms37, breachForms38, breachForms17], [((.val eB1), [])]⟩
theorem hReachForms173_ok : HOk Tryd.prog hReachForms173 := hok_eq mmReachForms_ok hmReachForms173_ok folReachForms (lf := 100000) (k := 1000) (by kernel_rfl)
def hmReachForms174 : List HE := hReachForms173 :: hmReachForms173
theorem hmReachForms174_ok : ∀ x ∈ hmReachForms174, HOk Tryd.prog x := hmemo_cons hReachForms173_ok hmReachForms173_ok
def hReachForms174 : HE := ⟨38, [(.agg [(.sl 0 1 0 2 none 1),(.sl 1 1 0 2 none 1),(.sl 2 2 0 3 none 2)])], [breachForms8, breachForms35, breachForms36, breachForms37, breachForms38, breachForms17], [((.val (eI 0)), [])]⟩
theorem hReachForms174_ok : HOk Tryd.prog hReachForms174 := hok_eq mmReachForms_ok hmReachForms174_ok folReachForms (lf := 100000) (k := 1000) (by kernel_rfl)
def hmReachForms175 : List HE := hReachForms174 :: hmReachForms174
theorem hmReachForms175_ok : ∀ x ∈ hmReachForms175, HOk Tryd.prog x := hmemo_cons hReachForms174_ok hmReachForms174_ok
def hReachForms175 : HE := ⟨39, [(.sl 0 1 0 2 none 1),(.lit (.int .u64 0)),eB1], [breachForms37], [((.val eB0), [])]⟩
theorem hReachForms175_ok : HOk Tryd.prog hReachForms175 := hok_eq mmReachForms_ok hmReachForms175_ok folReachForms (lf := 100000) (k := 1000) (by kernel_rfl)
def hmReachForms176 : List HE := hReachForms175 :: hmReachForms175
theorem hmReachForms176_ok : ∀ x ∈ hmReachForms176, HOk Tryd.prog x := hmemo_cons hReachForms175_ok hmReachForms175_ok
def hReachForms176 : HE := ⟨39, [(.sl 0 1 0 2 none 1),(.lit (.int .u64 0)),eB1], [breachForms38], [((.val eB0), [])]⟩
theorem hReachForms176_ok : HOk Tryd.prog hReachForms176 := hok_eq mmReachForms_ok hmReachForms176_ok folReachForms (lf := 100000) (k := 1000) (by kernel_rfl)
def hmReachForms177 : List HE := hReachForms176 :: hmReachForms176
theorem hmReachForms177_ok : ∀ x ∈ hmReachForms177, HOk Tryd.prog x := hmemo_cons hReachForms176_ok hmReachForms176_ok
def hReachForms177 : HE := ⟨39, [(.sl 0 1 0 2 none 1),(.lit (.int .u64 2)),eB1], [breachForms37], [((.val eB0), [])]⟩
theorem hReachForms177_ok : HOk Tryd.prog hReachForms177 := hok_eq mmReachForms_ok hmReachForms177_ok folReachForms (lf := 100000) (k := 1000) (by kernel_rfl)
def hmReachForms178 : List HE := hReachForms177 :: hmReachForms177
theorem hmReachForms178_ok : ∀ x ∈ hmReachForms178, HOk Tryd.prog x := hmemo_cons hReachForms177_ok hmReachForms177_ok
def hReachForms178 : HE := ⟨39, [(.sl 0 1 0 2 none 1),(.lit (.int .u64 2)),eB1], [breachForms38], [((.val eB0), [])]⟩
theorem hReachForms178_ok : HOk Tryd.prog hReachForms178 := hok_eq mmReachForms_ok hmReachForms178_ok folReachForms (lf := 100000) (k := 1000) (by kernel_rfl)
def hmReachForms179 : List HE := hReachForms178 :: hmReachForms178
theorem hmReachForms179_ok : ∀ x ∈ hmReachForms179, HOk Tryd.prog x := hmemo_cons hReachForms178_ok hmReachForms178_ok
def hReachForms179 : HE := ⟨32, [(.agg [(.sl 0 1 0 2 none 1),(.sl 1 1 0 2 none 1),(.sl 2 2 0 3 none 2)]),eB1], [breachForms8, breachForms35, breachForms36, breachForms37, breachForms38, breachForms17], [((.val (.lit (.int .u64 2))), [])]⟩
theorem hReachForms179_ok : HOk Tryd.prog hReachForms179 := hok_eq mmReachForms_ok hmReachForms179_ok folReachForms (lf := 100000) (k := 1000) (by kernel_rfl)
def hmReachForms180 : List HE := hReachForms179 :: hmReachForms179
theorem hmReachForms180_ok : ∀ x ∈ hmReachForms180, HOk Tryd.prog x := hmemo_cons hReachForms179_ok hmReachForms179_ok
def hReachForms180 : HE := ⟨10, [(.agg [(.sl 0 1 0 2 none 1),(.sl 1 1 0 2 none 1),(.sl 2 2 0 3 none 2)])], [breachForms8, breachForms35, breachForms36, breachForms37, breachForms38, breachForms17], [((.val (.lit (.int .u64 2))), [])]⟩
theorem hReachForms180_ok : HOk Tryd.prog hReachForms180 := hok_eq mmReachForms_ok hmReachForms180_ok folReachForms (lf := 100000) (k := 1000) (by kernel_rfl)
def hmReachForms181 : List HE := hReachForms180 :: hmReachForms180
theorem hmReachForms181_ok : ∀ x ∈ hmReachForms181, HOk Tryd.prog x := hmemo_cons hReachForms180_ok hmReachForms180_ok
def hReachForms181 : HE := ⟨17, [(.agg [(.sl 0 1 0 2 none 1),(.sl 1 1 0 2 none 1),(.sl 2 2 0 3 none 2)])], [breachForms8, breachForms35, breachForms36, breachForms37, breachForms38, breachForms17], [((.val (.tup [(.lit (.slice none 0 0)),(eI 6)])), [])]⟩
theorem hReachForms181_ok : HOk Tryd.prog hReachForms181 := hok_eq mmReachForms_ok hmReachForms181_ok folReachForms (lf := 100000) (k := 1000) (by kernel_rfl)
def hmReachForms182 : List HE := hReachForms181 :: hmReachForms181
theorem hmReachForms182_ok : ∀ x ∈ hmReachForms182, HOk Tryd.prog x := hmemo_cons hReachForms181_ok hmReachForms181_ok
def hReachForms182 : HE := ⟨18, [(.sl 0 0 0 1 (some 1) 1)], [breachForms13], [((.val (.lit (.int .u64 2))), [])]⟩
theorem hReachForms182_ok : HOk Tryd.prog hReachForms182 := hok_eq mmReachForms_ok hmReachForms182_ok folReachForms (lf := 100000) (k := 1000) (by kernel_rfl)
def hmReachForms183 : List HE := hReachForms182 :: hmReachForms182
theorem hmReachForms183_ok : ∀ x ∈ hmReachForms183, HOk Tryd.prog x := hmemo_cons hReachForms182_ok hmReachForms182_ok
def hReachForms183 : HE := ⟨39, [(.sl 0 1 0 2 none 1),(.lit (.int .u64 0)),eB0], [breachForms37], [((.val eB0), [])]⟩
theorem hReachForms183_ok : HOk Tryd.prog hReachForms183 := hok_eq mmReachForms_ok hmReachForms183_ok folReachForms (lf := 100000) (k := 1000) (by kernel_rfl)
def hmReachForms184 : List HE := hReachForms183 :: hmReachForms183
theorem hmReachForms184_ok : ∀ x ∈ hmReachForms184, HOk Tryd.prog x := hmemo_cons hReachForms183_ok hmReachForms183_ok
def hReachForms184 : HE := ⟨39, [(.sl 0 1 0 2 none 1),(.lit (.int .u64 0)),eB0], [breachForms38], [((.val eB0), [])]⟩
theorem hReachForms184_ok : HOk Tryd.prog hReachForms184 := hok_eq mmReachForms_ok hmReachForms184_ok folReachForms (lf := 100000) (k := 1000) (by kernel_rfl)
def hmReachForms185 : List HE := hReachForms184 :: hmReachForms184
theorem hmReachForms185_ok : ∀ x ∈ hmReachForms185, HOk Tryd.prog x := hmemo_cons hReachForms184_ok hmReachForms184_ok
def hReachForms185 : HE := ⟨32, [(.agg [(.sl 0 1 0 2 none 1),(.sl 1 1 0 2 none 1),(.sl 2 2 0 3 none 2)]),eB0], [breachForms8, breachForms35, breachForms36, breachForms37, breachForms38, breachForms17], [((.val (.lit (.int .u64 0))), [])]⟩
theorem hReachForms185_ok : HOk Tryd.prog hReachForms185 := hok_eq mmReachForms_ok hmReachForms185_ok folReachForms (lf := 100000) (k := 1000) (by kernel_rfl)
def hmReachForms186 : List HE := hReachForms185 :: hmReachForms185
theorem hmReachForms186_ok : ∀ x ∈ hmReachForms186, HOk Tryd.prog x := hmemo_cons hReachForms185_ok hmReachForms185_ok
def hReachForms186 : HE := ⟨9, [(.agg [(.sl 0 1 0 2 none 1),(.sl 1 1 0 2 none 1),(.sl 2 2 0 3 none 2)])], [breachForms8, breachForms35, breachForms36, breachForms37, breachForms38, breachForms17], [((.val (.lit (.int .u64 0))), [])]⟩
theorem hReachForms186_ok : HOk Tryd.prog hReachForms186 := hok_eq mmReachForms_ok hmReachForms186_ok folReachForms (lf := 100000) (k := 1000) (by kernel_rfl)
def hmReachForms187 : List HE := hReachForms186 :: hmReachForms186
theorem hmReachForms187_ok : ∀ x ∈ hmReachForms187, HOk Tryd.prog x := hmemo_cons hReachForms186_ok hmReachForms186_ok
def breachForms39 : Blk := ⟨[(eS [97])],9,[(0,1)],1,0,false,0,none⟩
def breachForms40 : Blk := ⟨[(eS [83])],9,[(0,1)],1,0,false,0,none⟩
def breachForms41 : Blk := ⟨[(eI 100),(.sl 3 0 0 2 (some 2) 1),(eI 100),(.lit (.slice none 0 0))],50,[(0,4)],1,0,false,0,none⟩
def breachForms42 : Blk := ⟨[(eI 1),(eI 100)],3,[(0,2)],1,0,false,0,none⟩
def hReachForms187 : HE := ⟨52, [(.agg [(.sl 0 0 0 1 (some 1) 1),(.sl 1 0 0 1 (some 1) 1),(.sl 2 0 0 2 (some 2) 2)])], [breachForms39, breachForms40, breachForms41, breachForms42], [((.val eB1), [])]⟩
theorem hReachForms187_ok : HOk Tryd.prog hReachForms187 := hok_eq mmReachForms_ok hmReachForms187_ok folReachForms (lf := 100000) (k := 1000) (by kernel_rfl)
def hmReachForms188 : List HE := hReachForms187 :: hmReachForms187
theorem hmReachForms188_ok : ∀ x ∈ hmReachForms188, HOk Tryd.prog x := hmemo_cons hReachForms187_ok hmReachForms187_ok
def hReachForms188 : HE := ⟨53, [(.agg [(.sl 0 0 0 1 (some 1) 1),(.sl 1 0 0 1 (some 1) 1),(.sl 2 0 0 2 (some 2) 2)])], [breachForms39, breachForms40, breachForms41, breachForms42], [((.val eB1), [])]⟩
theorem hReachForms188_ok : HOk Tryd.prog hReachForms188 := hok_eq mmReachForms_ok hmReachForms188_ok folReachForms (lf := 100000) (k := 1000) (by kernel_rfl)
def hmReachForms189 : List HE := hReachForms188 :: hmReachForms188
theorem hmReachForms189_ok : ∀ x ∈ hmReachForms189, HOk Tryd.prog x := hmemo_cons hReachForms188_ok hmReachForms188_ok
def hReachForms189 : HE := ⟨38, [(.agg [(.sl 0 0 0 1 (some 1) 1),(.sl 1 0 0 1 (some 1) 1),(.sl 2 0 0 2 (some 2) 2)])], [breachForms39, breachForms40, breachForms41, breachForms42], [((.val (eI 0)), [])]⟩
theorem hReachForms189_ok : HOk Tryd.prog hReachForms189 := hok_eq mmReachForms_ok hmReachForms189_ok folReachForms (lf := 100000) (k := 1000) (by kernel_rfl)
def hmReachForms190 : List HE := hReachForms189 :: hmReachForms189
theorem hmReachForms190_ok : ∀ x ∈ hmReachForms190, HOk Tryd.prog x := hmemo_cons hReachForms189_ok hmReachForms189_ok
def hReachForms190 : HE := ⟨39, [(.sl 0 0 0 2 (some 2) 1),(.lit (.int .u64 0)),eB0], [breachForms42], [((.val eB0), [])]⟩
theorem hReachForms190_ok : HOk Tryd.prog hReachForms190 := hok_eq mmReachForms_ok hmReachForms190_ok folReachForms (lf := 100000) (k := 1000) (by kernel_rfl)
def hmReachForms191 : List HE := hReachForms190 :: hmReachForms190
theorem hmReachForms191_ok : ∀ x ∈ hmReachForms191, HOk Tryd.prog x := hmemo_cons hReachForms190_ok hmReachForms190_ok
def hReachForms191 : HE := ⟨32, [(.agg [(.sl 0 0 0 1 (some 1) 1),(.sl 1 0 0 1 (some 1) 1),(.sl 2 0 0 2 (some 2) 2)]),eB0], [breachForms39, breachForms40, breachForms41, breachForms42], [((.val (.lit (.int .u64 1))), [])]⟩
theorem hReachForms191_ok : HOk Tryd.prog hReachForms191 := hok_eq mmReachForms_ok hmReachForms191_ok folReachForms (lf := 100000) (k := 1000) (by kernel_rfl)
def hmReachForms192 : List HE := hReachForms191 :: hmReachForms191
theorem hmReachForms192_ok : ∀ x ∈ hmReachForms192, HOk Tryd.prog x := hmemo_cons hReachForms191_ok hmReachForms191_ok
def hReachForms192 : HE := ⟨9, [(.agg [(.sl 0 0 0 1 (some 1) 1),(.sl 1 0 0 1 (some 1) 1),(.sl 2 0 0 2 (some 2) 2)])], [breachForms39, breachForms40, breachForms41, breachForms42], [((.val (.lit (.int .u64 1))), [])]⟩
theorem hReachForms192_ok : HOk Tryd.prog hReachForms192 := hok_eq mmReachForms_ok hmReachForms192_ok folReachForms (lf := 100000) (k := 1000) (by kernel_rfl)
def hmReachForms193 : List HE := hReachForms192 :: hmReachForms192
theorem hmReachForms193_ok : ∀ x ∈ hmReachForms193, HOk Tryd.prog x := hmemo_cons hReachForms192_ok hmReachForms192_ok
def hReachForms193 : HE := ⟨15, [], [], [((.val eB1), [])]⟩
theorem hReachForms193_ok : HOk Tryd.prog hReachForms193 := hok_eq mmReachForms_ok hmReachForms193_ok folReachForms (lf := 100000) (k := 1000) (by kernel_rfl)
def hmReachForms194 : List HE := hReachForms193 :: hmReachForms193
theorem hmReachForms194_ok : ∀ x ∈ hmReachForms194, HOk Tryd.prog x := hmemo_cons hReachForms193_ok hmReachForms193_ok
end Go.Proofs.YtcilipbgkpejeaaDoor.E
