/- Texts that the proof of a law rests on, put together: part 44. -/
import Derived.Test.YtdmljeaigjfenaaMy43
import Derived.KernelRfl
import Derived.Test.YtdmljeaigjfenaaProg
namespace Go.Proofs.Ytdmljeaigjfenaa.E
open Go Go.EV Go.RowKit Go.Proofs
set_option linter.unusedVariables false
set_option maxRecDepth 100000
abbrev eI (n : Nat) : AV := .lit (.int .i64 (Int.ofNat n))
abbrev eS (l : List Nat) : AV := .lit (.string (sb l))
abbrev eT (l : List Nat) : AV := .lit (.string (sb l))
abbrev eB1 : AV := .lit (.bool true)
def mmTexts : Memo := []
theorem mmTexts_ok : ∀ x ∈ mmTexts, Contract Try.prog x := memo_nil _
theorem folTexts : Try.prog.follows .mixedOrders = true := by kernel_rfl
def hmTexts0 : List HE := []
theorem hmTexts0_ok : ∀ x ∈ hmTexts0, HOk Try.prog x := hmemo_nil _
def hTexts0 : HE := ⟨64, [(eS [83])], [], [((.val eB1), [], [])]⟩
theorem hTexts0_ok : HOk Try.prog hTexts0 := hok_eq mmTexts_ok hmTexts0_ok folTexts (lf := 100000) (k := 1000) (by kernel_rfl)
def hmTexts1 : List HE := hTexts0 :: hmTexts0
theorem hmTexts1_ok : ∀ x ∈ hmTexts1, HOk Try.prog x := hmemo_cons hTexts0_ok hmTexts0_ok
def hTexts1 : HE := ⟨64, [(eS [97])], [], [((.val eB1), [], [])]⟩
theorem hTexts1_ok : HOk Try.prog hTexts1 := hok_eq mmTexts_ok hmTexts1_ok folTexts (lf := 100000) (k := 1000) (by kernel_rfl)
def hmTexts2 : List HE := hTexts1 :: hmTexts1
theorem hmTexts2_ok : ∀ x ∈ hmTexts2, HOk Try.prog x := hmemo_cons hTexts1_ok hmTexts1_ok
def btexts1 : Blk := ⟨[(eS [97])],9,[(0,1)],1,0,false,0,none⟩
def btexts2 : Blk := ⟨[(eS [83])],9,[(0,1)],1,0,false,0,none⟩
def btexts3 : Blk := ⟨[(eI 100),(.sl 3 0 0 1 none 1)],57,[(0,2)],1,0,false,0,none⟩
def btexts4 : Blk := ⟨[(eI 1)],3,[(0,1)],1,0,false,0,none⟩
def hTexts2 : HE := ⟨21, [(eS [83,58,32,97,10])], [], [((.val (.tup [(.agg [(.sl 0 0 0 1 none 1),(.sl 1 0 0 1 none 1),(.sl 2 0 0 1 none 2)]),(eI 0),(eI 0),(eI 0)])), [], [btexts1, btexts2, btexts3, btexts4])]⟩
theorem hTexts2_ok : HOk Try.prog hTexts2 := hok_eq mmTexts_ok hmTexts2_ok folTexts (lf := 100000) (k := 1000) (by kernel_rfl)
def hmTexts3 : List HE := hTexts2 :: hmTexts2
theorem hmTexts3_ok : ∀ x ∈ hmTexts3, HOk Try.prog x := hmemo_cons hTexts2_ok hmTexts2_ok
def hTexts3 : HE := ⟨64, [(eS [98])], [], [((.val eB1), [], [])]⟩
theorem hTexts3_ok : HOk Try.prog hTexts3 := hok_eq mmTexts_ok hmTexts3_ok folTexts (lf := 100000) (k := 1000) (by kernel_rfl)
def hmTexts4 : List HE := hTexts3 :: hmTexts3
theorem hmTexts4_ok : ∀ x ∈ hmTexts4, HOk Try.prog x := hmemo_cons hTexts3_ok hmTexts3_ok
def btexts5 : Blk := ⟨[(eS [97]),(eS [98])],9,[(1,2),(0,1)],2,0,false,1,none⟩
def btexts6 : Blk := ⟨[(eI 100),(.sl 3 1 0 2 none 1),(eI 100),(.sl 4 0 0 1 none 1)],57,[(1,4),(0,2)],2,0,false,1,none⟩
def btexts7 : Blk := ⟨[(eI 1),(eI 100)],3,[(1,2),(0,1)],2,0,false,1,none⟩
def btexts8 : Blk := ⟨[(eI 2)],3,[(0,1)],1,0,false,0,none⟩
def hTexts4 : HE := ⟨21, [(eS [83,58,32,97,32,83,32,124,32,98,10])], [], [((.val (.tup [(.agg [(.sl 0 1 0 2 none 1),(.sl 1 0 0 1 none 1),(.sl 2 1 0 2 none 2)]),(eI 0),(eI 0),(eI 0)])), [], [btexts5, btexts2, btexts6, btexts7, btexts8])]⟩
theorem hTexts4_ok : HOk Try.prog hTexts4 := hok_eq mmTexts_ok hmTexts4_ok folTexts (lf := 100000) (k := 1000) (by kernel_rfl)
def hmTexts5 : List HE := hTexts4 :: hmTexts4
theorem hmTexts5_ok : ∀ x ∈ hmTexts5, HOk Try.prog x := hmemo_cons hTexts4_ok hmTexts4_ok
def btexts9 : Blk := ⟨[(eI 100),(eI 1)],3,[(1,2),(0,1)],2,0,false,1,none⟩
def hTexts5 : HE := ⟨21, [(eS [83,58,32,83,32,97,32,124,32,98,10])], [], [((.val (.tup [(.agg [(.sl 0 1 0 2 none 1),(.sl 1 0 0 1 none 1),(.sl 2 1 0 2 none 2)]),(eI 0),(eI 0),(eI 0)])), [], [btexts5, btexts2, btexts6, btexts9, btexts8])]⟩
theorem hTexts5_ok : HOk Try.prog hTexts5 := hok_eq mmTexts_ok hmTexts5_ok folTexts (lf := 100000) (k := 1000) (by kernel_rfl)
def hmTexts6 : List HE := hTexts5 :: hmTexts5
theorem hmTexts6_ok : ∀ x ∈ hmTexts6, HOk Try.prog x := hmemo_cons hTexts5_ok hmTexts5_ok
def btexts10 : Blk := ⟨[(eI 100),(.sl 3 2 0 3 none 1),(eI 100),(.lit (.slice none 0 0))],57,[(1,4),(0,2)],2,0,false,1,none⟩
def btexts11 : Blk := ⟨[(eI 1),(eI 100),(eI 2)],3,[(2,3),(1,2),(0,1)],3,0,false,2,none⟩
def hTexts6 : HE := ⟨21, [(eS [83,58,32,97,32,83,32,98,32,124,10])], [], [((.val (.tup [(.agg [(.sl 0 1 0 2 none 1),(.sl 1 0 0 1 none 1),(.sl 2 1 0 2 none 2)]),(eI 0),(eI 0),(eI 0)])), [], [btexts5, btexts2, btexts10, btexts11])]⟩
theorem hTexts6_ok : HOk Try.prog hTexts6 := hok_eq mmTexts_ok hmTexts6_ok folTexts (lf := 100000) (k := 1000) (by kernel_rfl)
def hmTexts7 : List HE := hTexts6 :: hmTexts6
theorem hmTexts7_ok : ∀ x ∈ hmTexts7, HOk Try.prog x := hmemo_cons hTexts6_ok hmTexts6_ok
def hTexts7 : HE := ⟨64, [(eS [65])], [], [((.val eB1), [], [])]⟩
theorem hTexts7_ok : HOk Try.prog hTexts7 := hok_eq mmTexts_ok hmTexts7_ok folTexts (lf := 100000) (k := 1000) (by kernel_rfl)
def hmTexts8 : List HE := hTexts7 :: hmTexts7
theorem hmTexts8_ok : ∀ x ∈ hmTexts8, HOk Try.prog x := hmemo_cons hTexts7_ok hmTexts7_ok
def btexts12 : Blk := ⟨[(eS [83]),(eS [65])],9,[(1,2),(0,1)],2,0,false,1,none⟩
def btexts13 : Blk := ⟨[(eI 100),(.sl 3 1 0 2 none 1),(eI 101),(.sl 4 1 0 2 none 1),(eI 101),(.sl 5 0 0 1 none 1)],57,[(2,6),(1,4),(0,2)],3,0,false,2,none⟩
def btexts14 : Blk := ⟨[(eI 101),(eI 101)],3,[(1,2),(0,1)],2,0,false,1,none⟩
def btexts15 : Blk := ⟨[(eI 1),(eI 101)],3,[(1,2),(0,1)],2,0,false,1,none⟩
def hTexts8 : HE := ⟨21, [(eS [83,58,32,65,32,65,10,65,58,32,97,32,65,32,124,32,98,10])], [], [((.val (.tup [(.agg [(.sl 0 1 0 2 none 1),(.sl 1 1 0 2 none 1),(.sl 2 2 0 3 none 2)]),(eI 0),(eI 0),(eI 0)])), [], [btexts5, btexts12, btexts13, btexts14, btexts15, btexts8])]⟩
theorem hTexts8_ok : HOk Try.prog hTexts8 := hok_eq mmTexts_ok hmTexts8_ok folTexts (lf := 100000) (k := 1000) (by kernel_rfl)
def hmTexts9 : List HE := hTexts8 :: hmTexts8
theorem hmTexts9_ok : ∀ x ∈ hmTexts9, HOk Try.prog x := hmemo_cons hTexts8_ok hmTexts8_ok
def hTexts9 : HE := ⟨64, [(eS [69])], [], [((.val eB1), [], [])]⟩
theorem hTexts9_ok : HOk Try.prog hTexts9 := hok_eq mmTexts_ok hmTexts9_ok folTexts (lf := 100000) (k := 1000) (by kernel_rfl)
def hmTexts10 : List HE := hTexts9 :: hmTexts9
theorem hmTexts10_ok : ∀ x ∈ hmTexts10, HOk Try.prog x := hmemo_cons hTexts9_ok hmTexts9_ok
def hTexts10 : HE := ⟨64, [(eS [112])], [], [((.val eB1), [], [])]⟩
theorem hTexts10_ok : HOk Try.prog hTexts10 := hok_eq mmTexts_ok hmTexts10_ok folTexts (lf := 100000) (k := 1000) (by kernel_rfl)
def hmTexts11 : List HE := hTexts10 :: hmTexts10
theorem hmTexts11_ok : ∀ x ∈ hmTexts11, HOk Try.prog x := hmemo_cons hTexts10_ok hmTexts10_ok
def hTexts11 : HE := ⟨64, [(eS [84])], [], [((.val eB1), [], [])]⟩
theorem hTexts11_ok : HOk Try.prog hTexts11 := hok_eq mmTexts_ok hmTexts11_ok folTexts (lf := 100000) (k := 1000) (by kernel_rfl)
def hmTexts12 : List HE := hTexts11 :: hmTexts11
theorem hmTexts12_ok : ∀ x ∈ hmTexts12, HOk Try.prog x := hmemo_cons hTexts11_ok hmTexts11_ok
def hTexts12 : HE := ⟨64, [(eS [109])], [], [((.val eB1), [], [])]⟩
theorem hTexts12_ok : HOk Try.prog hTexts12 := hok_eq mmTexts_ok hmTexts12_ok folTexts (lf := 100000) (k := 1000) (by kernel_rfl)
def hmTexts13 : List HE := hTexts12 :: hmTexts12
theorem hmTexts13_ok : ∀ x ∈ hmTexts13, HOk Try.prog x := hmemo_cons hTexts12_ok hmTexts12_ok
def hTexts13 : HE := ⟨64, [(eS [70])], [], [((.val eB1), [], [])]⟩
theorem hTexts13_ok : HOk Try.prog hTexts13 := hok_eq mmTexts_ok hmTexts13_ok folTexts (lf := 100000) (k := 1000) (by kernel_rfl)
def hmTexts14 : List HE := hTexts13 :: hmTexts13
theorem hmTexts14_ok : ∀ x ∈ hmTexts14, HOk Try.prog x := hmemo_cons hTexts13_ok hmTexts13_ok
def hTexts14 : HE := ⟨64, [(eS [105])], [], [((.val eB1), [], [])]⟩
theorem hTexts14_ok : HOk Try.prog hTexts14 := hok_eq mmTexts_ok hmTexts14_ok folTexts (lf := 100000) (k := 1000) (by kernel_rfl)
def hmTexts15 : List HE := hTexts14 :: hmTexts14
theorem hmTexts15_ok : ∀ x ∈ hmTexts15, HOk Try.prog x := hmemo_cons hTexts14_ok hmTexts14_ok
def hTexts15 : HE := ⟨64, [(eS [108])], [], [((.val eB1), [], [])]⟩
theorem hTexts15_ok : HOk Try.prog hTexts15 := hok_eq mmTexts_ok hmTexts15_ok folTexts (lf := 100000) (k := 1000) (by kernel_rfl)
def hmTexts16 : List HE := hTexts15 :: hmTexts15
theorem hmTexts16_ok : ∀ x ∈ hmTexts16, HOk Try.prog x := hmemo_cons hTexts15_ok hmTexts15_ok
def hTexts16 : HE := ⟨64, [(eS [114])], [], [((.val eB1), [], [])]⟩
theorem hTexts16_ok : HOk Try.prog hTexts16 := hok_eq mmTexts_ok hmTexts16_ok folTexts (lf := 100000) (k := 1000) (by kernel_rfl)
def hmTexts17 : List HE := hTexts16 :: hmTexts16
theorem hmTexts17_ok : ∀ x ∈ hmTexts17, HOk Try.prog x := hmemo_cons hTexts16_ok hmTexts16_ok
def btexts16 : Blk := ⟨[(eS [112]),(eS [109]),(eS [105]),(eS [108]),(eS [114])],9,[(4,5),(3,4),(2,3),(1,2),(0,1)],5,0,false,4,none⟩
def btexts17 : Blk := ⟨[(eS [69]),(eS [84]),(eS [70])],9,[(2,3),(1,2),(0,1)],3,0,false,2,none⟩
def btexts18 : Blk := ⟨[(eI 100),(.sl 3 2 0 3 none 1),(eI 100),(.sl 4 0 0 1 none 1),(eI 101),(.sl 5 2 0 3 none 1),(eI 101),(.sl 6 0 0 1 none 1),(eI 102),(.sl 7 0 0 1 none 1),(eI 102),(.sl 8 2 0 3 none 1)],57,[(5,12),(4,10),(3,8),(2,6),(1,4),(0,2)],6,0,false,5,none⟩
def btexts19 : Blk := ⟨[(eI 100),(eI 1),(eI 101)],3,[(2,3),(1,2),(0,1)],3,0,false,2,none⟩
def btexts20 : Blk := ⟨[(eI 101)],3,[(0,1)],1,0,false,0,none⟩
def btexts21 : Blk := ⟨[(eI 101),(eI 2),(eI 102)],3,[(2,3),(1,2),(0,1)],3,0,false,2,none⟩
def btexts22 : Blk := ⟨[(eI 102)],3,[(0,1)],1,0,false,0,none⟩
def btexts23 : Blk := ⟨[(eI 3)],3,[(0,1)],1,0,false,0,none⟩
def btexts24 : Blk := ⟨[(eI 4),(eI 100),(eI 5)],3,[(2,3),(1,2),(0,1)],3,0,false,2,none⟩
def ttexts1 : List Nat := [69,58,32,69,32,112,32,84,32,124,32,84,10,84,58,32,84,32,109,32,70,32,124,32,70,10,70,58,32,105,32,124,32,108,32,69,32,114,10]
def hTexts17 : HE := ⟨21, [(eT ttexts1)], [], [((.val (.tup [(.agg [(.sl 0 4 0 5 none 1),(.sl 1 2 0 3 none 1),(.sl 2 5 0 6 none 2)]),(eI 0),(eI 0),(eI 0)])), [], [btexts16, btexts17, btexts18, btexts19, btexts20, btexts21, btexts22, btexts23, btexts24])]⟩
theorem hTexts17_ok : HOk Try.prog hTexts17 := hok_eq mmTexts_ok hmTexts17_ok folTexts (lf := 100000) (k := 1000) (by kernel_rfl)
def hmTexts18 : List HE := hTexts17 :: hmTexts17
theorem hmTexts18_ok : ∀ x ∈ hmTexts18, HOk Try.prog x := hmemo_cons hTexts17_ok hmTexts17_ok
def hTexts18 : HE := ⟨64, [(eS [99])], [], [((.val eB1), [], [])]⟩
theorem hTexts18_ok : HOk Try.prog hTexts18 := hok_eq mmTexts_ok hmTexts18_ok folTexts (lf := 100000) (k := 1000) (by kernel_rfl)
def hmTexts19 : List HE := hTexts18 :: hmTexts18
theorem hmTexts19_ok : ∀ x ∈ hmTexts19, HOk Try.prog x := hmemo_cons hTexts18_ok hmTexts18_ok
def hTexts19 : HE := ⟨64, [(eS [100])], [], [((.val eB1), [], [])]⟩
theorem hTexts19_ok : HOk Try.prog hTexts19 := hok_eq mmTexts_ok hmTexts19_ok folTexts (lf := 100000) (k := 1000) (by kernel_rfl)
def hmTexts20 : List HE := hTexts19 :: hmTexts19
theorem hmTexts20_ok : ∀ x ∈ hmTexts20, HOk Try.prog x := hmemo_cons hTexts19_ok hmTexts19_ok
def btexts25 : Blk := ⟨[(eS [97]),(eS [98]),(eS [99]),(eS [100])],9,[(3,4),(2,3),(1,2),(0,1)],4,0,false,3,none⟩
def btexts26 : Blk := ⟨[(eI 100),(.sl 3 1 0 2 none 1),(eI 100),(.sl 4 2 0 3 none 1),(eI 100),(.sl 5 1 0 2 none 1),(eI 100),(.sl 6 2 0 3 none 1),(eI 101),(.sl 7 0 0 1 none 1)],57,[(4,10),(3,8),(2,6),(1,4),(0,2)],5,0,false,4,none⟩
def btexts27 : Blk := ⟨[(eI 101),(eI 1)],3,[(1,2),(0,1)],2,0,false,1,none⟩
def btexts28 : Blk := ⟨[(eI 2),(eI 101),(eI 3)],3,[(2,3),(1,2),(0,1)],3,0,false,2,none⟩
def btexts29 : Blk := ⟨[(eI 4),(eI 3)],3,[(1,2),(0,1)],2,0,false,1,none⟩
def btexts30 : Blk := ⟨[(eI 2),(eI 4),(eI 1)],3,[(2,3),(1,2),(0,1)],3,0,false,2,none⟩
def btexts31 : Blk := ⟨[(eI 4)],3,[(0,1)],1,0,false,0,none⟩
def ttexts2 : List Nat := [83,58,32,65,32,97,32,124,32,98,32,65,32,99,32,124,32,100,32,99,32,124,32,98,32,100,32,97,10,65,58,32,100,10]
def hTexts20 : HE := ⟨21, [(eT ttexts2)], [], [((.val (.tup [(.agg [(.sl 0 3 0 4 none 1),(.sl 1 1 0 2 none 1),(.sl 2 4 0 5 none 2)]),(eI 0),(eI 0),(eI 0)])), [], [btexts25, btexts12, btexts26, btexts27, btexts28, btexts29, btexts30, btexts31])]⟩
theorem hTexts20_ok : HOk Try.prog hTexts20 := hok_eq mmTexts_ok hmTexts20_ok folTexts (lf := 100000) (k := 1000) (by kernel_rfl)
def hmTexts21 : List HE := hTexts20 :: hmTexts20
theorem hmTexts21_ok : ∀ x ∈ hmTexts21, HOk Try.prog x := hmemo_cons hTexts20_ok hmTexts20_ok
def hTexts21 : HE := ⟨64, [(eS [66])], [], [((.val eB1), [], [])]⟩
theorem hTexts21_ok : HOk Try.prog hTexts21 := hok_eq mmTexts_ok hmTexts21_ok folTexts (lf := 100000) (k := 1000) (by kernel_rfl)
def hmTexts22 : List HE := hTexts21 :: hmTexts21
theorem hmTexts22_ok : ∀ x ∈ hmTexts22, HOk Try.prog x := hmemo_cons hTexts21_ok hmTexts21_ok
def hTexts22 : HE := ⟨64, [(eS [101])], [], [((.val eB1), [], [])]⟩
theorem hTexts22_ok : HOk Try.prog hTexts22 := hok_eq mmTexts_ok hmTexts22_ok folTexts (lf := 100000) (k := 1000) (by kernel_rfl)
def hmTexts23 : List HE := hTexts22 :: hmTexts22
theorem hmTexts23_ok : ∀ x ∈ hmTexts23, HOk Try.prog x := hmemo_cons hTexts22_ok hmTexts22_ok
def btexts32 : Blk := ⟨[(eS [97]),(eS [100]),(eS [98]),(eS [101]),(eS [99])],9,[(4,5),(3,4),(2,3),(1,2),(0,1)],5,0,false,4,none⟩
def btexts33 : Blk := ⟨[(eS [83]),(eS [65]),(eS [66])],9,[(2,3),(1,2),(0,1)],3,0,false,2,none⟩
def btexts34 : Blk := ⟨[(eI 100),(.sl 3 2 0 3 none 1),(eI 100),(.sl 4 2 0 3 none 1),(eI 100),(.sl 5 2 0 3 none 1),(eI 100),(.sl 6 2 0 3 none 1),(eI 101),(.sl 7 0 0 1 none 1),(eI 102),(.sl 8 0 0 1 none 1)],57,[(5,12),(4,10),(3,8),(2,6),(1,4),(0,2)],6,0,false,5,none⟩
def btexts35 : Blk := ⟨[(eI 1),(eI 101),(eI 2)],3,[(2,3),(1,2),(0,1)],3,0,false,2,none⟩
def btexts36 : Blk := ⟨[(eI 3),(eI 102),(eI 2)],3,[(2,3),(1,2),(0,1)],3,0,false,2,none⟩
def btexts37 : Blk := ⟨[(eI 1),(eI 102),(eI 4)],3,[(2,3),(1,2),(0,1)],3,0,false,2,none⟩
def btexts38 : Blk := ⟨[(eI 3),(eI 101),(eI 4)],3,[(2,3),(1,2),(0,1)],3,0,false,2,none⟩
def btexts39 : Blk := ⟨[(eI 5)],3,[(0,1)],1,0,false,0,none⟩
def ttexts3 : List Nat := [83,58,32,97,32,65,32,100,32,124,32,98,32,66,32,100,32,124,32,97,32,66,32,101,32,124,32,98,32,65,32,101,10,65,58,32,99,10,66,58,32,99,10]
def hTexts23 : HE := ⟨21, [(eT ttexts3)], [], [((.val (.tup [(.agg [(.sl 0 4 0 5 none 1),(.sl 1 2 0 3 none 1),(.sl 2 5 0 6 none 2)]),(eI 0),(eI 0),(eI 0)])), [], [btexts32, btexts33, btexts34, btexts35, btexts36, btexts37, btexts38, btexts39, btexts39])]⟩
theorem hTexts23_ok : HOk Try.prog hTexts23 := hok_eq mmTexts_ok hmTexts23_ok folTexts (lf := 100000) (k := 1000) (by kernel_rfl)
def hmTexts24 : List HE := hTexts23 :: hmTexts23
theorem hmTexts24_ok : ∀ x ∈ hmTexts24, HOk Try.prog x := hmemo_cons hTexts23_ok hmTexts23_ok
def btexts40 : Blk := ⟨[(eI 100),(.sl 3 1 0 2 none 1),(eI 101),(.sl 4 1 0 2 none 1),(eI 101),(.lit (.slice none 0 0)),(eI 102),(.sl 5 1 0 2 none 1),(eI 102),(.lit (.slice none 0 0))],57,[(4,10),(3,8),(2,6),(1,4),(0,2)],5,0,false,4,none⟩
def btexts41 : Blk := ⟨[(eI 101),(eI 102)],3,[(1,2),(0,1)],2,0,false,1,none⟩
def btexts42 : Blk := ⟨[(eI 2),(eI 102)],3,[(1,2),(0,1)],2,0,false,1,none⟩
def ttexts4 : List Nat := [83,58,32,65,32,66,10,65,58,32,97,32,65,32,124,10,66,58,32,98,32,66,32,124,10]
def hTexts24 : HE := ⟨21, [(eT ttexts4)], [], [((.val (.tup [(.agg [(.sl 0 1 0 2 none 1),(.sl 1 2 0 3 none 1),(.sl 2 4 0 5 none 2)]),(eI 0),(eI 0),(eI 0)])), [], [btexts5, btexts33, btexts40, btexts41, btexts15, btexts42])]⟩
theorem hTexts24_ok : HOk Try.prog hTexts24 := hok_eq mmTexts_ok hmTexts24_ok folTexts (lf := 100000) (k := 1000) (by kernel_rfl)
def hmTexts25 : List HE := hTexts24 :: hmTexts24
theorem hmTexts25_ok : ∀ x ∈ hmTexts25, HOk Try.prog x := hmemo_cons hTexts24_ok hmTexts24_ok
def hTexts25 : HE := ⟨64, [(eS [76])], [], [((.val eB1), [], [])]⟩
theorem hTexts25_ok : HOk Try.prog hTexts25 := hok_eq mmTexts_ok hmTexts25_ok folTexts (lf := 100000) (k := 1000) (by kernel_rfl)
def hmTexts26 : List HE := hTexts25 :: hmTexts25
theorem hmTexts26_ok : ∀ x ∈ hmTexts26, HOk Try.prog x := hmemo_cons hTexts25_ok hmTexts25_ok
def hTexts26 : HE := ⟨64, [(eS [113])], [], [((.val eB1), [], [])]⟩
theorem hTexts26_ok : HOk Try.prog hTexts26 := hok_eq mmTexts_ok hmTexts26_ok folTexts (lf := 100000) (k := 1000) (by kernel_rfl)
def hmTexts27 : List HE := hTexts26 :: hmTexts26
theorem hmTexts27_ok : ∀ x ∈ hmTexts27, HOk Try.prog x := hmemo_cons hTexts26_ok hmTexts26_ok
def hTexts27 : HE := ⟨64, [(eS [82])], [], [((.val eB1), [], [])]⟩
theorem hTexts27_ok : HOk Try.prog hTexts27 := hok_eq mmTexts_ok hmTexts27_ok folTexts (lf := 100000) (k := 1000) (by kernel_rfl)
def hmTexts28 : List HE := hTexts27 :: hmTexts27
theorem hmTexts28_ok : ∀ x ∈ hmTexts28, HOk Try.prog x := hmemo_cons hTexts27_ok hmTexts27_ok
def btexts43 : Blk := ⟨[(eS [113]),(eS [109]),(eS [105])],9,[(2,3),(1,2),(0,1)],3,0,false,2,none⟩
def btexts44 : Blk := ⟨[(eS [83]),(eS [76]),(eS [82])],9,[(2,3),(1,2),(0,1)],3,0,false,2,none⟩
def btexts45 : Blk := ⟨[(eI 100),(.sl 3 2 0 3 none 1),(eI 100),(.sl 4 0 0 1 none 1),(eI 101),(.sl 5 1 0 2 none 1),(eI 101),(.sl 6 0 0 1 none 1),(eI 102),(.sl 7 0 0 1 none 1)],57,[(4,10),(3,8),(2,6),(1,4),(0,2)],5,0,false,4,none⟩
def btexts46 : Blk := ⟨[(eI 101),(eI 1),(eI 102)],3,[(2,3),(1,2),(0,1)],3,0,false,2,none⟩
def ttexts5 : List Nat := [83,58,32,76,32,113,32,82,32,124,32,82,10,76,58,32,109,32,82,32,124,32,105,10,82,58,32,76,10]
def hTexts28 : HE := ⟨21, [(eT ttexts5)], [], [((.val (.tup [(.agg [(.sl 0 2 0 3 none 1),(.sl 1 2 0 3 none 1),(.sl 2 4 0 5 none 2)]),(eI 0),(eI 0),(eI 0)])), [], [btexts43, btexts44, btexts45, btexts46, btexts22, btexts42, btexts23, btexts20])]⟩
theorem hTexts28_ok : HOk Try.prog hTexts28 := hok_eq mmTexts_ok hmTexts28_ok folTexts (lf := 100000) (k := 1000) (by kernel_rfl)
def hmTexts29 : List HE := hTexts28 :: hmTexts28
theorem hmTexts29_ok : ∀ x ∈ hmTexts29, HOk Try.prog x := hmemo_cons hTexts28_ok hmTexts28_ok
def hTexts29 : HE := ⟨64, [(eS [85])], [], [((.val eB1), [], [])]⟩
theorem hTexts29_ok : HOk Try.prog hTexts29 := hok_eq mmTexts_ok hmTexts29_ok folTexts (lf := 100000) (k := 1000) (by kernel_rfl)
def hmTexts30 : List HE := hTexts29 :: hmTexts29
theorem hmTexts30_ok : ∀ x ∈ hmTexts30, HOk Try.prog x := hmemo_cons hTexts29_ok hmTexts29_ok
def btexts47 : Blk := ⟨[(eS [83]),(eS [85])],9,[(1,2),(0,1)],2,0,false,1,none⟩
def btexts48 : Blk := ⟨[(eI 100),(.sl 3 1 0 2 none 1),(eI 100),(.sl 4 0 0 1 none 1),(eI 101),(.sl 5 1 0 2 none 1)],57,[(2,6),(1,4),(0,2)],3,0,false,2,none⟩
def hTexts30 : HE := ⟨21, [(eS [83,58,32,97,32,85,32,124,32,98,10,85,58,32,85,32,97,10])], [], [((.val (.tup [(.agg [(.sl 0 1 0 2 none 1),(.sl 1 1 0 2 none 1),(.sl 2 2 0 3 none 2)]),(eI 0),(eI 0),(eI 0)])), [], [btexts5, btexts47, btexts48, btexts15, btexts8, btexts27])]⟩
theorem hTexts30_ok : HOk Try.prog hTexts30 := hok_eq mmTexts_ok hmTexts30_ok folTexts (lf := 100000) (k := 1000) (by kernel_rfl)
def hmTexts31 : List HE := hTexts30 :: hmTexts30
theorem hmTexts31_ok : ∀ x ∈ hmTexts31, HOk Try.prog x := hmemo_cons hTexts30_ok hmTexts30_ok
def hTexts31 : HE := ⟨64, [(eS [86])], [], [((.val eB1), [], [])]⟩
theorem hTexts31_ok : HOk Try.prog hTexts31 := hok_eq mmTexts_ok hmTexts31_ok folTexts (lf := 100000) (k := 1000) (by kernel_rfl)
def hmTexts32 : List HE := hTexts31 :: hmTexts31
theorem hmTexts32_ok : ∀ x ∈ hmTexts32, HOk Try.prog x := hmemo_cons hTexts31_ok hmTexts31_ok
def btexts49 : Blk := ⟨[(eS [83]),(eS [84]),(eS [86])],9,[(2,3),(1,2),(0,1)],3,0,false,2,none⟩
def btexts50 : Blk := ⟨[(eI 100),(.sl 3 1 0 2 none 1),(eI 100),(.sl 4 0 0 1 none 1),(eI 101),(.sl 5 1 0 2 none 1),(eI 101),(.sl 6 0 0 1 none 1),(eI 102),(.sl 7 1 0 2 none 1)],57,[(4,10),(3,8),(2,6),(1,4),(0,2)],5,0,false,4,none⟩
def btexts51 : Blk := ⟨[(eI 2),(eI 100)],3,[(1,2),(0,1)],2,0,false,1,none⟩
def btexts52 : Blk := ⟨[(eI 1),(eI 1)],3,[(1,2),(0,1)],2,0,false,1,none⟩
def ttexts6 : List Nat := [83,58,32,97,32,84,32,124,32,98,10,84,58,32,98,32,83,32,124,32,97,10,86,58,32,97,32,97,10]
def hTexts32 : HE := ⟨21, [(eT ttexts6)], [], [((.val (.tup [(.agg [(.sl 0 1 0 2 none 1),(.sl 1 2 0 3 none 1),(.sl 2 4 0 5 none 2)]),(eI 0),(eI 0),(eI 0)])), [], [btexts5, btexts49, btexts50, btexts15, btexts8, btexts51, btexts4, btexts52])]⟩
theorem hTexts32_ok : HOk Try.prog hTexts32 := hok_eq mmTexts_ok hmTexts32_ok folTexts (lf := 100000) (k := 1000) (by kernel_rfl)
def hmTexts33 : List HE := hTexts32 :: hmTexts32
theorem hmTexts33_ok : ∀ x ∈ hmTexts33, HOk Try.prog x := hmemo_cons hTexts32_ok hmTexts32_ok
def btexts53 : Blk := ⟨[(eS [83]),(eS [84])],9,[(1,2),(0,1)],2,0,false,1,none⟩
def btexts54 : Blk := ⟨[(eI 100),(.lit (.slice none 0 0)),(eI 101),(.sl 3 0 0 1 none 1)],57,[(1,4),(0,2)],2,0,false,1,none⟩
def hTexts33 : HE := ⟨21, [(eS [83,58,10,84,58,32,97,10])], [], [((.val (.tup [(.agg [(.sl 0 0 0 1 none 1),(.sl 1 1 0 2 none 1),(.sl 2 1 0 2 none 2)]),(eI 0),(eI 0),(eI 0)])), [], [btexts1, btexts53, btexts54, btexts4])]⟩
theorem hTexts33_ok : HOk Try.prog hTexts33 := hok_eq mmTexts_ok hmTexts33_ok folTexts (lf := 100000) (k := 1000) (by kernel_rfl)
def hmTexts34 : List HE := hTexts33 :: hmTexts33
theorem hmTexts34_ok : ∀ x ∈ hmTexts34, HOk Try.prog x := hmemo_cons hTexts33_ok hmTexts33_ok
def btexts55 : Blk := ⟨[(eS [98]),(eS [97])],9,[(1,2),(0,1)],2,0,false,1,none⟩
def btexts56 : Blk := ⟨[(eI 100),(.sl 3 1 0 2 none 1),(eI 101),(.sl 4 0 0 1 none 1),(eI 101),(.sl 5 0 0 1 none 1),(eI 102),(.lit (.slice none 0 0))],57,[(3,8),(2,6),(1,4),(0,2)],4,0,false,3,none⟩
def hTexts34 : HE := ⟨21, [(eS [83,58,32,65,32,98,10,65,58,32,97,32,124,32,66,10,66,58,10])], [], [((.val (.tup [(.agg [(.sl 0 1 0 2 none 1),(.sl 1 2 0 3 none 1),(.sl 2 3 0 4 none 2)]),(eI 0),(eI 0),(eI 0)])), [], [btexts55, btexts33, btexts56, btexts27, btexts8, btexts22])]⟩
theorem hTexts34_ok : HOk Try.prog hTexts34 := hok_eq mmTexts_ok hmTexts34_ok folTexts (lf := 100000) (k := 1000) (by kernel_rfl)
def hmTexts35 : List HE := hTexts34 :: hmTexts34
theorem hmTexts35_ok : ∀ x ∈ hmTexts35, HOk Try.prog x := hmemo_cons hTexts34_ok hmTexts34_ok
def btexts57 : Blk := ⟨[(eS [108]),(eS [114])],9,[(1,2),(0,1)],2,0,false,1,none⟩
def btexts58 : Blk := ⟨[(eI 100),(.sl 3 3 0 4 none 1),(eI 100),(.lit (.slice none 0 0))],57,[(1,4),(0,2)],2,0,false,1,none⟩
def btexts59 : Blk := ⟨[(eI 1),(eI 100),(eI 2),(eI 100)],3,[(3,4),(2,3),(1,2),(0,1)],4,0,false,3,none⟩
def hTexts35 : HE := ⟨21, [(eS [83,58,32,108,32,83,32,114,32,83,32,124,10])], [], [((.val (.tup [(.agg [(.sl 0 1 0 2 none 1),(.sl 1 0 0 1 none 1),(.sl 2 1 0 2 none 2)]),(eI 0),(eI 0),(eI 0)])), [], [btexts57, btexts2, btexts58, btexts59])]⟩
theorem hTexts35_ok : HOk Try.prog hTexts35 := hok_eq mmTexts_ok hmTexts35_ok folTexts (lf := 100000) (k := 1000) (by kernel_rfl)
def hmTexts36 : List HE := hTexts35 :: hmTexts35
theorem hmTexts36_ok : ∀ x ∈ hmTexts36, HOk Try.prog x := hmemo_cons hTexts35_ok hmTexts35_ok
def btexts60 : Blk := ⟨[(eI 100),(.sl 3 1 0 2 none 1),(eI 101),(.sl 4 1 0 2 none 1),(eI 101),(.sl 5 0 0 1 none 1),(eI 102),(.sl 6 1 0 2 none 1),(eI 102),(.sl 7 1 0 2 none 1)],57,[(4,10),(3,8),(2,6),(1,4),(0,2)],5,0,false,4,none⟩
def btexts61 : Blk := ⟨[(eI 4),(eI 100)],3,[(1,2),(0,1)],2,0,false,1,none⟩
def ttexts7 : List Nat := [83,58,32,97,32,65,10,65,58,32,98,32,66,32,124,32,99,10,66,58,32,97,32,65,32,124,32,100,32,83,10]
def hTexts36 : HE := ⟨21, [(eT ttexts7)], [], [((.val (.tup [(.agg [(.sl 0 3 0 4 none 1),(.sl 1 2 0 3 none 1),(.sl 2 4 0 5 none 2)]),(eI 0),(eI 0),(eI 0)])), [], [btexts25, btexts33, btexts60, btexts15, btexts42, btexts23, btexts15, btexts61])]⟩
theorem hTexts36_ok : HOk Try.prog hTexts36 := hok_eq mmTexts_ok hmTexts36_ok folTexts (lf := 100000) (k := 1000) (by kernel_rfl)
def hmTexts37 : List HE := hTexts36 :: hmTexts36
theorem hmTexts37_ok : ∀ x ∈ hmTexts37, HOk Try.prog x := hmemo_cons hTexts36_ok hmTexts36_ok
def btexts62 : Blk := ⟨[(eS [99]),(eS [97]),(eS [98])],9,[(2,3),(1,2),(0,1)],3,0,false,2,none⟩
def btexts63 : Blk := ⟨[(eI 100),(.sl 3 1 0 2 none 1),(eI 101),(.sl 4 1 0 2 none 1),(eI 101),(.sl 5 1 0 2 none 1),(eI 102),(.sl 6 0 0 1 none 1),(eI 102),(.sl 7 0 0 1 none 1)],57,[(4,10),(3,8),(2,6),(1,4),(0,2)],5,0,false,4,none⟩
def btexts64 : Blk := ⟨[(eI 102),(eI 2)],3,[(1,2),(0,1)],2,0,false,1,none⟩
def btexts65 : Blk := ⟨[(eI 2),(eI 3)],3,[(1,2),(0,1)],2,0,false,1,none⟩
def ttexts8 : List Nat := [83,58,32,65,32,99,10,65,58,32,66,32,97,32,124,32,97,32,98,10,66,58,32,97,32,124,32,98,10]
def hTexts37 : HE := ⟨21, [(eT ttexts8)], [], [((.val (.tup [(.agg [(.sl 0 2 0 3 none 1),(.sl 1 2 0 3 none 1),(.sl 2 4 0 5 none 2)]),(eI 0),(eI 0),(eI 0)])), [], [btexts62, btexts33, btexts63, btexts27, btexts64, btexts65, btexts8, btexts23])]⟩
theorem hTexts37_ok : HOk Try.prog hTexts37 := hok_eq mmTexts_ok hmTexts37_ok folTexts (lf := 100000) (k := 1000) (by kernel_rfl)
def hmTexts38 : List HE := hTexts37 :: hmTexts37
theorem hmTexts38_ok : ∀ x ∈ hmTexts38, HOk Try.prog x := hmemo_cons hTexts37_ok hmTexts37_ok
def btexts66 : Blk := ⟨[(eI 100),(eI 100)],3,[(1,2),(0,1)],2,0,false,1,none⟩
def hTexts38 : HE := ⟨21, [(eS [83,58,32,83,32,83,32,124,32,97,10])], [], [((.val (.tup [(.agg [(.sl 0 0 0 1 none 1),(.sl 1 0 0 1 none 1),(.sl 2 1 0 2 none 2)]),(eI 0),(eI 0),(eI 0)])), [], [btexts1, btexts2, btexts6, btexts66, btexts4])]⟩
theorem hTexts38_ok : HOk Try.prog hTexts38 := hok_eq mmTexts_ok hmTexts38_ok folTexts (lf := 100000) (k := 1000) (by kernel_rfl)
def hmTexts39 : List HE := hTexts38 :: hmTexts38
theorem hmTexts39_ok : ∀ x ∈ hmTexts39, HOk Try.prog x := hmemo_cons hTexts38_ok hmTexts38_ok
def btexts67 : Blk := ⟨[(eI 100),(.sl 3 1 0 2 none 1),(eI 100),(.sl 4 1 0 2 none 1),(eI 100),(.sl 5 0 0 1 none 1)],57,[(2,6),(1,4),(0,2)],3,0,false,2,none⟩
def btexts68 : Blk := ⟨[(eI 100),(eI 2)],3,[(1,2),(0,1)],2,0,false,1,none⟩
def hTexts39 : HE := ⟨21, [(eS [83,58,32,97,32,83,32,124,32,83,32,98,32,124,32,97,10])], [], [((.val (.tup [(.agg [(.sl 0 1 0 2 none 1),(.sl 1 0 0 1 none 1),(.sl 2 2 0 3 none 2)]),(eI 0),(eI 0),(eI 0)])), [], [btexts5, btexts2, btexts67, btexts7, btexts68, btexts4])]⟩
theorem hTexts39_ok : HOk Try.prog hTexts39 := hok_eq mmTexts_ok hmTexts39_ok folTexts (lf := 100000) (k := 1000) (by kernel_rfl)
def hmTexts40 : List HE := hTexts39 :: hmTexts39
theorem hmTexts40_ok : ∀ x ∈ hmTexts40, HOk Try.prog x := hmemo_cons hTexts39_ok hmTexts39_ok
def btexts69 : Blk := ⟨[(eS [105]),(eS [101]),(eS [97])],9,[(2,3),(1,2),(0,1)],3,0,false,2,none⟩
def btexts70 : Blk := ⟨[(eI 100),(.sl 3 1 0 2 none 1),(eI 100),(.sl 4 3 0 4 none 1),(eI 100),(.sl 5 0 0 1 none 1)],57,[(2,6),(1,4),(0,2)],3,0,false,2,none⟩
def ttexts9 : List Nat := [83,58,32,105,32,83,32,124,32,105,32,83,32,101,32,83,32,124,32,97,10]
def hTexts40 : HE := ⟨21, [(eT ttexts9)], [], [((.val (.tup [(.agg [(.sl 0 2 0 3 none 1),(.sl 1 0 0 1 none 1),(.sl 2 2 0 3 none 2)]),(eI 0),(eI 0),(eI 0)])), [], [btexts69, btexts2, btexts70, btexts7, btexts59, btexts23])]⟩
theorem hTexts40_ok : HOk Try.prog hTexts40 := hok_eq mmTexts_ok hmTexts40_ok folTexts (lf := 100000) (k := 1000) (by kernel_rfl)
def hmTexts41 : List HE := hTexts40 :: hmTexts40
theorem hmTexts41_ok : ∀ x ∈ hmTexts41, HOk Try.prog x := hmemo_cons hTexts40_ok hmTexts40_ok
def btexts71 : Blk := ⟨[(eI 100),(.sl 3 0 0 1 none 1),(eI 100),(.sl 4 0 0 1 none 1),(eI 101),(.sl 5 0 0 1 none 1),(eI 102),(.sl 6 0 0 1 none 1)],57,[(3,8),(2,6),(1,4),(0,2)],4,0,false,3,none⟩
def hTexts41 : HE := ⟨21, [(eS [83,58,32,65,32,124,32,66,10,65,58,32,97,10,66,58,32,97,10])], [], [((.val (.tup [(.agg [(.sl 0 0 0 1 none 1),(.sl 1 2 0 3 none 1),(.sl 2 3 0 4 none 2)]),(eI 0),(eI 0),(eI 0)])), [], [btexts1, btexts33, btexts71, btexts20, btexts22, btexts4, btexts4])]⟩
theorem hTexts41_ok : HOk Try.prog hTexts41 := hok_eq mmTexts_ok hmTexts41_ok folTexts (lf := 100000) (k := 1000) (by kernel_rfl)
def hmTexts42 : List HE := hTexts41 :: hmTexts41
theorem hmTexts42_ok : ∀ x ∈ hmTexts42, HOk Try.prog x := hmemo_cons hTexts41_ok hmTexts41_ok
def btexts72 : Blk := ⟨[(eS [112]),(eS [109]),(eS [105])],9,[(2,3),(1,2),(0,1)],3,0,false,2,none⟩
def btexts73 : Blk := ⟨[(eS [69])],9,[(0,1)],1,0,false,0,none⟩
def btexts74 : Blk := ⟨[(eI 100),(.sl 3 2 0 3 none 1),(eI 100),(.sl 4 2 0 3 none 1),(eI 100),(.sl 5 0 0 1 none 1)],57,[(2,6),(1,4),(0,2)],3,0,false,2,none⟩
def btexts75 : Blk := ⟨[(eI 100),(eI 1),(eI 100)],3,[(2,3),(1,2),(0,1)],3,0,false,2,none⟩
def btexts76 : Blk := ⟨[(eI 100),(eI 2),(eI 100)],3,[(2,3),(1,2),(0,1)],3,0,false,2,none⟩
def ttexts10 : List Nat := [69,58,32,69,32,112,32,69,32,124,32,69,32,109,32,69,32,124,32,105,10]
def hTexts42 : HE := ⟨21, [(eT ttexts10)], [], [((.val (.tup [(.agg [(.sl 0 2 0 3 none 1),(.sl 1 0 0 1 none 1),(.sl 2 2 0 3 none 2)]),(eI 0),(eI 0),(eI 0)])), [], [btexts72, btexts73, btexts74, btexts75, btexts76, btexts23])]⟩
theorem hTexts42_ok : HOk Try.prog hTexts42 := hok_eq mmTexts_ok hmTexts42_ok folTexts (lf := 100000) (k := 1000) (by kernel_rfl)
def hmTexts43 : List HE := hTexts42 :: hmTexts42
theorem hmTexts43_ok : ∀ x ∈ hmTexts43, HOk Try.prog x := hmemo_cons hTexts42_ok hmTexts42_ok
def btexts77 : Blk := ⟨[(eI 100),(.sl 3 0 0 1 none 1),(eI 100),(.sl 4 0 0 1 none 1)],57,[(1,4),(0,2)],2,0,false,1,none⟩
def btexts78 : Blk := ⟨[(eI 100)],3,[(0,1)],1,0,false,0,none⟩
def hTexts43 : HE := ⟨21, [(eS [83,58,32,83,32,124,32,97,10])], [], [((.val (.tup [(.agg [(.sl 0 0 0 1 none 1),(.sl 1 0 0 1 none 1),(.sl 2 1 0 2 none 2)]),(eI 0),(eI 0),(eI 0)])), [], [btexts1, btexts2, btexts77, btexts78, btexts4])]⟩
theorem hTexts43_ok : HOk Try.prog hTexts43 := hok_eq mmTexts_ok hmTexts43_ok folTexts (lf := 100000) (k := 1000) (by kernel_rfl)
def hmTexts44 : List HE := hTexts43 :: hmTexts43
theorem hmTexts44_ok : ∀ x ∈ hmTexts44, HOk Try.prog x := hmemo_cons hTexts43_ok hmTexts43_ok
def btexts79 : Blk := ⟨[(eI 100),(.sl 3 1 0 2 none 1),(eI 100),(.sl 4 0 0 1 none 1),(eI 101),(.lit (.slice none 0 0))],57,[(2,6),(1,4),(0,2)],3,0,false,2,none⟩
def btexts80 : Blk := ⟨[(eI 101),(eI 100)],3,[(1,2),(0,1)],2,0,false,1,none⟩
def hTexts44 : HE := ⟨21, [(eS [83,58,32,65,32,83,32,124,32,97,10,65,58,10])], [], [((.val (.tup [(.agg [(.sl 0 0 0 1 none 1),(.sl 1 1 0 2 none 1),(.sl 2 2 0 3 none 2)]),(eI 0),(eI 0),(eI 0)])), [], [btexts1, btexts12, btexts79, btexts80, btexts4])]⟩
theorem hTexts44_ok : HOk Try.prog hTexts44 := hok_eq mmTexts_ok hmTexts44_ok folTexts (lf := 100000) (k := 1000) (by kernel_rfl)
def hmTexts45 : List HE := hTexts44 :: hmTexts44
theorem hmTexts45_ok : ∀ x ∈ hmTexts45, HOk Try.prog x := hmemo_cons hTexts44_ok hmTexts44_ok
def btexts81 : Blk := ⟨[(eS [99]),(eS [97])],9,[(1,2),(0,1)],2,0,false,1,none⟩
def btexts82 : Blk := ⟨[(eI 100),(.sl 3 2 0 3 none 1),(eI 101),(.sl 4 0 0 1 none 1),(eI 101),(.lit (.slice none 0 0)),(eI 102),(.sl 5 0 0 1 none 1),(eI 102),(.lit (.slice none 0 0))],57,[(4,10),(3,8),(2,6),(1,4),(0,2)],5,0,false,4,none⟩
def btexts83 : Blk := ⟨[(eI 101),(eI 102),(eI 1)],3,[(2,3),(1,2),(0,1)],3,0,false,2,none⟩
def ttexts11 : List Nat := [83,58,32,65,32,66,32,99,10,65,58,32,97,32,124,10,66,58,32,97,32,124,10]
def hTexts45 : HE := ⟨21, [(eT ttexts11)], [], [((.val (.tup [(.agg [(.sl 0 1 0 2 none 1),(.sl 1 2 0 3 none 1),(.sl 2 4 0 5 none 2)]),(eI 0),(eI 0),(eI 0)])), [], [btexts81, btexts33, btexts82, btexts83, btexts8, btexts8])]⟩
theorem hTexts45_ok : HOk Try.prog hTexts45 := hok_eq mmTexts_ok hmTexts45_ok folTexts (lf := 100000) (k := 1000) (by kernel_rfl)
def hmTexts46 : List HE := hTexts45 :: hmTexts45
theorem hmTexts46_ok : ∀ x ∈ hmTexts46, HOk Try.prog x := hmemo_cons hTexts45_ok hmTexts45_ok
def hTexts46 : HE := ⟨21, [(eS [83,58,32,83,32,97,32,124,32,97,32,83,32,124,32,97,10])], [], [((.val (.tup [(.agg [(.sl 0 0 0 1 none 1),(.sl 1 0 0 1 none 1),(.sl 2 2 0 3 none 2)]),(eI 0),(eI 0),(eI 0)])), [], [btexts1, btexts2, btexts67, btexts9, btexts7, btexts4])]⟩
theorem hTexts46_ok : HOk Try.prog hTexts46 := hok_eq mmTexts_ok hmTexts46_ok folTexts (lf := 100000) (k := 1000) (by kernel_rfl)
def hmTexts47 : List HE := hTexts46 :: hmTexts46
theorem hmTexts47_ok : ∀ x ∈ hmTexts47, HOk Try.prog x := hmemo_cons hTexts46_ok hmTexts46_ok
def btexts84 : Blk := ⟨[(eI 100),(.sl 3 1 0 2 none 1),(eI 100),(.sl 4 1 0 2 none 1),(eI 101),(.sl 5 0 0 1 none 1),(eI 102),(.sl 6 0 0 1 none 1)],57,[(3,8),(2,6),(1,4),(0,2)],4,0,false,3,none⟩
def btexts85 : Blk := ⟨[(eI 102),(eI 1)],3,[(1,2),(0,1)],2,0,false,1,none⟩
def ttexts12 : List Nat := [83,58,32,65,32,97,32,124,32,66,32,97,10,65,58,32,98,10,66,58,32,98,10]
def hTexts47 : HE := ⟨21, [(eT ttexts12)], [], [((.val (.tup [(.agg [(.sl 0 1 0 2 none 1),(.sl 1 2 0 3 none 1),(.sl 2 3 0 4 none 2)]),(eI 0),(eI 0),(eI 0)])), [], [btexts5, btexts33, btexts84, btexts27, btexts85, btexts8, btexts8])]⟩
theorem hTexts47_ok : HOk Try.prog hTexts47 := hok_eq mmTexts_ok hmTexts47_ok folTexts (lf := 100000) (k := 1000) (by kernel_rfl)
def hmTexts48 : List HE := hTexts47 :: hmTexts47
theorem hmTexts48_ok : ∀ x ∈ hmTexts48, HOk Try.prog x := hmemo_cons hTexts47_ok hmTexts47_ok
def hTexts48 : HE := ⟨20, [], [], [((.val eB1), [], [])]⟩
theorem hTexts48_ok : HOk Try.prog hTexts48 := hok_eq mmTexts_ok hmTexts48_ok folTexts (lf := 100000) (k := 1000) (by kernel_rfl)
end Go.Proofs.Ytdmljeaigjfenaa.E
