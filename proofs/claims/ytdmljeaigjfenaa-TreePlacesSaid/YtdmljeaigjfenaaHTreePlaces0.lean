/- Calls that TreePlaces makes, each carried out once over the memory that it is given. -/
import Derived.Test.YtdmljeaigjfenaaEWithin
import Derived.Test.YtdmljeaigjfenaaESplit
import Derived.Test.YtdmljeaigjfenaaProg
import Derived.KernelRfl
namespace Go.Proofs.Ytdmljeaigjfenaa.E
open Go Go.EV Go.RowKit Go.Proofs
set_option linter.unusedVariables false
set_option maxRecDepth 100000
abbrev eI (n : Nat) : AV := .lit (.int .i64 (Int.ofNat n))
abbrev eU (n : Nat) : AV := .lit (.int .u8 (Int.ofNat n))
abbrev eS (l : List Nat) : AV := .lit (.string (sb l))
abbrev eT (l : List Nat) : AV := .lit (.string (sb l))
abbrev eB1 : AV := .lit (.bool true)
abbrev eB0 : AV := .lit (.bool false)
def mmTreePlaces : Memo := [(17, [.any .i64, .lit (.int .i64 (Int.ofNat 6))], upto 6)]
theorem mmTreePlaces_ok : ∀ x ∈ mmTreePlaces, Contract Try.prog x := memo_cons (within_c 6 (by omega)) (memo_nil _)
theorem folTreePlaces : Try.prog.follows .mixedOrders = true := by kernel_rfl
def hmTreePlaces0 : List HE := []
theorem hmTreePlaces0_ok : ∀ x ∈ hmTreePlaces0, HOk Try.prog x := hmemo_nil _
def hTreePlaces0 : HE := ⟨62, [(eU 83)], [], [((.val eB1), [])]⟩
theorem hTreePlaces0_ok : HOk Try.prog hTreePlaces0 := hok_eq mmTreePlaces_ok hmTreePlaces0_ok folTreePlaces (lf := 100000) (k := 1000) (by kernel_rfl)
def hmTreePlaces1 : List HE := hTreePlaces0 :: hmTreePlaces0
theorem hmTreePlaces1_ok : ∀ x ∈ hmTreePlaces1, HOk Try.prog x := hmemo_cons hTreePlaces0_ok hmTreePlaces0_ok
def hTreePlaces1 : HE := ⟨62, [(eU 58)], [], [((.val eB0), [])]⟩
theorem hTreePlaces1_ok : HOk Try.prog hTreePlaces1 := hok_eq mmTreePlaces_ok hmTreePlaces1_ok folTreePlaces (lf := 100000) (k := 1000) (by kernel_rfl)
def hmTreePlaces2 : List HE := hTreePlaces1 :: hmTreePlaces1
theorem hmTreePlaces2_ok : ∀ x ∈ hmTreePlaces2, HOk Try.prog x := hmemo_cons hTreePlaces1_ok hmTreePlaces1_ok
def hTreePlaces2 : HE := ⟨63, [(eU 58)], [], [((.val eB0), [])]⟩
theorem hTreePlaces2_ok : HOk Try.prog hTreePlaces2 := hok_eq mmTreePlaces_ok hmTreePlaces2_ok folTreePlaces (lf := 100000) (k := 1000) (by kernel_rfl)
def hmTreePlaces3 : List HE := hTreePlaces2 :: hmTreePlaces2
theorem hmTreePlaces3_ok : ∀ x ∈ hmTreePlaces3, HOk Try.prog x := hmemo_cons hTreePlaces2_ok hmTreePlaces2_ok
def hTreePlaces3 : HE := ⟨62, [(eU 65)], [], [((.val eB1), [])]⟩
theorem hTreePlaces3_ok : HOk Try.prog hTreePlaces3 := hok_eq mmTreePlaces_ok hmTreePlaces3_ok folTreePlaces (lf := 100000) (k := 1000) (by kernel_rfl)
def hmTreePlaces4 : List HE := hTreePlaces3 :: hmTreePlaces3
theorem hmTreePlaces4_ok : ∀ x ∈ hmTreePlaces4, HOk Try.prog x := hmemo_cons hTreePlaces3_ok hmTreePlaces3_ok
def hTreePlaces4 : HE := ⟨62, [(eU 32)], [], [((.val eB0), [])]⟩
theorem hTreePlaces4_ok : HOk Try.prog hTreePlaces4 := hok_eq mmTreePlaces_ok hmTreePlaces4_ok folTreePlaces (lf := 100000) (k := 1000) (by kernel_rfl)
def hmTreePlaces5 : List HE := hTreePlaces4 :: hmTreePlaces4
theorem hmTreePlaces5_ok : ∀ x ∈ hmTreePlaces5, HOk Try.prog x := hmemo_cons hTreePlaces4_ok hmTreePlaces4_ok
def hTreePlaces5 : HE := ⟨63, [(eU 32)], [], [((.val eB0), [])]⟩
theorem hTreePlaces5_ok : HOk Try.prog hTreePlaces5 := hok_eq mmTreePlaces_ok hmTreePlaces5_ok folTreePlaces (lf := 100000) (k := 1000) (by kernel_rfl)
def hmTreePlaces6 : List HE := hTreePlaces5 :: hmTreePlaces5
theorem hmTreePlaces6_ok : ∀ x ∈ hmTreePlaces6, HOk Try.prog x := hmemo_cons hTreePlaces5_ok hmTreePlaces5_ok
def hTreePlaces6 : HE := ⟨62, [(eU 97)], [], [((.val eB1), [])]⟩
theorem hTreePlaces6_ok : HOk Try.prog hTreePlaces6 := hok_eq mmTreePlaces_ok hmTreePlaces6_ok folTreePlaces (lf := 100000) (k := 1000) (by kernel_rfl)
def hmTreePlaces7 : List HE := hTreePlaces6 :: hmTreePlaces6
theorem hmTreePlaces7_ok : ∀ x ∈ hmTreePlaces7, HOk Try.prog x := hmemo_cons hTreePlaces6_ok hmTreePlaces6_ok
def hTreePlaces7 : HE := ⟨62, [(eU 98)], [], [((.val eB1), [])]⟩
theorem hTreePlaces7_ok : HOk Try.prog hTreePlaces7 := hok_eq mmTreePlaces_ok hmTreePlaces7_ok folTreePlaces (lf := 100000) (k := 1000) (by kernel_rfl)
def hmTreePlaces8 : List HE := hTreePlaces7 :: hmTreePlaces7
theorem hmTreePlaces8_ok : ∀ x ∈ hmTreePlaces8, HOk Try.prog x := hmemo_cons hTreePlaces7_ok hmTreePlaces7_ok
def hTreePlaces8 : HE := ⟨62, [(eU 10)], [], [((.val eB0), [])]⟩
theorem hTreePlaces8_ok : HOk Try.prog hTreePlaces8 := hok_eq mmTreePlaces_ok hmTreePlaces8_ok folTreePlaces (lf := 100000) (k := 1000) (by kernel_rfl)
def hmTreePlaces9 : List HE := hTreePlaces8 :: hmTreePlaces8
theorem hmTreePlaces9_ok : ∀ x ∈ hmTreePlaces9, HOk Try.prog x := hmemo_cons hTreePlaces8_ok hmTreePlaces8_ok
def hTreePlaces9 : HE := ⟨63, [(eU 10)], [], [((.val eB0), [])]⟩
theorem hTreePlaces9_ok : HOk Try.prog hTreePlaces9 := hok_eq mmTreePlaces_ok hmTreePlaces9_ok folTreePlaces (lf := 100000) (k := 1000) (by kernel_rfl)
def hmTreePlaces10 : List HE := hTreePlaces9 :: hmTreePlaces9
theorem hmTreePlaces10_ok : ∀ x ∈ hmTreePlaces10, HOk Try.prog x := hmemo_cons hTreePlaces9_ok hmTreePlaces9_ok
def hTreePlaces10 : HE := ⟨62, [(eU 99)], [], [((.val eB1), [])]⟩
theorem hTreePlaces10_ok : HOk Try.prog hTreePlaces10 := hok_eq mmTreePlaces_ok hmTreePlaces10_ok folTreePlaces (lf := 100000) (k := 1000) (by kernel_rfl)
def hmTreePlaces11 : List HE := hTreePlaces10 :: hmTreePlaces10
theorem hmTreePlaces11_ok : ∀ x ∈ hmTreePlaces11, HOk Try.prog x := hmemo_cons hTreePlaces10_ok hmTreePlaces10_ok
def btreePlaces1 : Blk := ⟨[(eI 1),(eS [83]),(eI 1),(eI 1),(eI 3),(eS [58]),(eI 1),(eI 2),(eI 1),(eS [65]),(eI 1),(eI 4),(eI 2),(eS [97]),(eI 1),(eI 6),(eI 1),(eS [83]),(eI 1),(eI 8),(eI 4),(eS [124]),(eI 1),(eI 10),(eI 2),(eS [98]),(eI 1),(eI 12),(eI 5),(eS []),(eI 1),(eI 13),(eI 1),(eS [65]),(eI 2),(eI 1),(eI 3),(eS [58]),(eI 2),(eI 2),(eI 4),(eS [124]),(eI 2),(eI 4),(eI 2),(eS [99]),(eI 2),(eI 6),(eI 5),(eS []),(eI 2),(eI 7)],85,[(12,52),(11,48),(10,44),(9,40),(8,36),(7,32),(6,28),(5,24),(4,20),(3,16),(2,12),(1,8),(0,4)],13,0,false,12,none⟩
def ttreePlaces1 : List Nat := [83,58,32,65,32,97,32,83,32,124,32,98,10,65,58,32,124,32,99,10]
def hTreePlaces11 : HE := ⟨43, [(eT ttreePlaces1)], [], [((.val (.tup [(.sl 0 12 0 13 none 4),(eI 0),(eI 0)])), [btreePlaces1])]⟩
theorem hTreePlaces11_ok : HOk Try.prog hTreePlaces11 := hok_eq mmTreePlaces_ok hmTreePlaces11_ok folTreePlaces (lf := 100000) (k := 1000) (by kernel_rfl)
def hmTreePlaces12 : List HE := hTreePlaces11 :: hmTreePlaces11
theorem hmTreePlaces12_ok : ∀ x ∈ hmTreePlaces12, HOk Try.prog x := hmemo_cons hTreePlaces11_ok hmTreePlaces11_ok
def btreePlaces2 : Blk := ⟨[(eS [97]),(eS [98]),(eS [99])],9,[(2,3),(1,2),(0,1)],3,0,false,2,none⟩
def btreePlaces3 : Blk := ⟨[(eS [83]),(eS [65])],9,[(1,2),(0,1)],2,0,false,1,none⟩
def btreePlaces4 : Blk := ⟨[(eI 100),(.sl 3 2 0 3 none 1),(eI 100),(.sl 4 0 0 1 none 1),(eI 101),(.lit (.slice none 0 0)),(eI 101),(.sl 5 0 0 1 none 1)],57,[(3,8),(2,6),(1,4),(0,2)],4,0,false,3,none⟩
def btreePlaces5 : Blk := ⟨[(eI 101),(eI 1),(eI 100)],3,[(2,3),(1,2),(0,1)],3,0,false,2,none⟩
def btreePlaces6 : Blk := ⟨[(eI 2)],3,[(0,1)],1,0,false,0,none⟩
def btreePlaces7 : Blk := ⟨[(eI 3)],3,[(0,1)],1,0,false,0,none⟩
def hTreePlaces12 : HE := ⟨21, [(eT ttreePlaces1)], [], [((.val (.tup [(.agg [(.sl 0 2 0 3 none 1),(.sl 1 1 0 2 none 1),(.sl 2 3 0 4 none 2)]),(eI 0),(eI 0),(eI 0)])), [btreePlaces2, btreePlaces3, btreePlaces4, btreePlaces5, btreePlaces6, btreePlaces7])]⟩
theorem hTreePlaces12_ok : HOk Try.prog hTreePlaces12 := hok_eq mmTreePlaces_ok hmTreePlaces12_ok folTreePlaces (lf := 100000) (k := 1000) (by kernel_rfl)
def hmTreePlaces13 : List HE := hTreePlaces12 :: hmTreePlaces12
theorem hmTreePlaces13_ok : ∀ x ∈ hmTreePlaces13, HOk Try.prog x := hmemo_cons hTreePlaces12_ok hmTreePlaces12_ok
def hTreePlaces13 : HE := ⟨74, [(eS [32,40,41])], [], [((.val (.tup [(.agg [eB0,eB0,eB0,eB0,eB0,eB0,eB0,eB0,eB0,eB0,eB0,eB0,eB0,eB0,eB0,eB0,eB0,eB0,eB0,eB0,eB0,eB0,eB0,eB0,eB0,eB0,eB0,eB0,eB0,eB0,eB0,eB0,eB1,eB0,eB0,eB0,eB0,eB0,eB0,eB0,eB1,eB1,eB0,eB0,eB0,eB0,eB0,eB0,eB0,eB0,eB0,eB0,eB0,eB0,eB0,eB0,eB0,eB0,eB0,eB0,eB0,eB0,eB0,eB0,eB0,eB0,eB0,eB0,eB0,eB0,eB0,eB0,eB0,eB0,eB0,eB0,eB0,eB0,eB0,eB0,eB0,eB0,eB0,eB0,eB0,eB0,eB0,eB0,eB0,eB0,eB0,eB0,eB0,eB0,eB0,eB0,eB0,eB0,eB0,eB0,eB0,eB0,eB0,eB0,eB0,eB0,eB0,eB0,eB0,eB0,eB0,eB0,eB0,eB0,eB0,eB0,eB0,eB0,eB0,eB0,eB0,eB0,eB0,eB0,eB0,eB0,eB0,eB0,eB0,eB0,eB0,eB0,eB0,eB0,eB0,eB0,eB0,eB0,eB0,eB0,eB0,eB0,eB0,eB0,eB0,eB0,eB0,eB0,eB0,eB0,eB0,eB0,eB0,eB0,eB0,eB0,eB0,eB0,eB0,eB0,eB0,eB0,eB0,eB0,eB0,eB0,eB0,eB0,eB0,eB0,eB0,eB0,eB0,eB0,eB0,eB0,eB0,eB0,eB0,eB0,eB0,eB0,eB0,eB0,eB0,eB0,eB0,eB0,eB0,eB0,eB0,eB0,eB0,eB0,eB0,eB0,eB0,eB0,eB0,eB0,eB0,eB0,eB0,eB0,eB0,eB0,eB0,eB0,eB0,eB0,eB0,eB0,eB0,eB0,eB0,eB0,eB0,eB0,eB0,eB0,eB0,eB0,eB0,eB0,eB0,eB0,eB0,eB0,eB0,eB0,eB0,eB0,eB0,eB0,eB0,eB0,eB0,eB0,eB0,eB0,eB0,eB0,eB0,eB0,eB0,eB0,eB0,eB0,eB0,eB0,eB0,eB0,eB0,eB0,eB0,eB0]),eB1])), [])]⟩
theorem hTreePlaces13_ok : HOk Try.prog hTreePlaces13 := hok_eq mmTreePlaces_ok hmTreePlaces13_ok folTreePlaces (lf := 100000) (k := 1000) (by kernel_rfl)
def hmTreePlaces14 : List HE := hTreePlaces13 :: hmTreePlaces13
theorem hmTreePlaces14_ok : ∀ x ∈ hmTreePlaces14, HOk Try.prog x := hmemo_cons hTreePlaces13_ok hmTreePlaces13_ok
def ttreePlaces2 : List Nat := [83,32,40,65,41,32,97,32,40,83,32,40,65,32,99,41,32,97,32,83,41,41,41]
def hTreePlaces14 : HE := ⟨67, [(eT ttreePlaces2),(eS [32,40,41])], [], [((.val (eI 1)), [])]⟩
theorem hTreePlaces14_ok : HOk Try.prog hTreePlaces14 := hok_eq mmTreePlaces_ok hmTreePlaces14_ok folTreePlaces (lf := 100000) (k := 1000) (by kernel_rfl)
def hmTreePlaces15 : List HE := hTreePlaces14 :: hmTreePlaces14
theorem hmTreePlaces15_ok : ∀ x ∈ hmTreePlaces15, HOk Try.prog x := hmemo_cons hTreePlaces14_ok hmTreePlaces14_ok
def ttreePlaces3 : List Nat := [65,41,32,97,32,40,83,32,40,65,32,99,41,32,97,32,83,41,41,41]
def hTreePlaces15 : HE := ⟨67, [(eT ttreePlaces3),(eS [32,40,41])], [], [((.val (eI 1)), [])]⟩
theorem hTreePlaces15_ok : HOk Try.prog hTreePlaces15 := hok_eq mmTreePlaces_ok hmTreePlaces15_ok folTreePlaces (lf := 100000) (k := 1000) (by kernel_rfl)
def hmTreePlaces16 : List HE := hTreePlaces15 :: hmTreePlaces15
theorem hmTreePlaces16_ok : ∀ x ∈ hmTreePlaces16, HOk Try.prog x := hmemo_cons hTreePlaces15_ok hmTreePlaces15_ok
def hTreePlaces16 : HE := ⟨67, [(eS [97,32,40,83,32,40,65,32,99,41,32,97,32,83,41,41,41]),(eS [32,40,41])], [], [((.val (eI 1)), [])]⟩
theorem hTreePlaces16_ok : HOk Try.prog hTreePlaces16 := hok_eq mmTreePlaces_ok hmTreePlaces16_ok folTreePlaces (lf := 100000) (k := 1000) (by kernel_rfl)
def hmTreePlaces17 : List HE := hTreePlaces16 :: hmTreePlaces16
theorem hmTreePlaces17_ok : ∀ x ∈ hmTreePlaces17, HOk Try.prog x := hmemo_cons hTreePlaces16_ok hmTreePlaces16_ok
def hTreePlaces17 : HE := ⟨67, [(eS [83,32,40,65,32,99,41,32,97,32,83,41,41,41]),(eS [32,40,41])], [], [((.val (eI 1)), [])]⟩
theorem hTreePlaces17_ok : HOk Try.prog hTreePlaces17 := hok_eq mmTreePlaces_ok hmTreePlaces17_ok folTreePlaces (lf := 100000) (k := 1000) (by kernel_rfl)
def hmTreePlaces18 : List HE := hTreePlaces17 :: hmTreePlaces17
theorem hmTreePlaces18_ok : ∀ x ∈ hmTreePlaces18, HOk Try.prog x := hmemo_cons hTreePlaces17_ok hmTreePlaces17_ok
def hTreePlaces18 : HE := ⟨67, [(eS [65,32,99,41,32,97,32,83,41,41,41]),(eS [32,40,41])], [], [((.val (eI 1)), [])]⟩
theorem hTreePlaces18_ok : HOk Try.prog hTreePlaces18 := hok_eq mmTreePlaces_ok hmTreePlaces18_ok folTreePlaces (lf := 100000) (k := 1000) (by kernel_rfl)
def hmTreePlaces19 : List HE := hTreePlaces18 :: hmTreePlaces18
theorem hmTreePlaces19_ok : ∀ x ∈ hmTreePlaces19, HOk Try.prog x := hmemo_cons hTreePlaces18_ok hmTreePlaces18_ok
def hTreePlaces19 : HE := ⟨67, [(eS [99,41,32,97,32,83,41,41,41]),(eS [32,40,41])], [], [((.val (eI 1)), [])]⟩
theorem hTreePlaces19_ok : HOk Try.prog hTreePlaces19 := hok_eq mmTreePlaces_ok hmTreePlaces19_ok folTreePlaces (lf := 100000) (k := 1000) (by kernel_rfl)
def hmTreePlaces20 : List HE := hTreePlaces19 :: hmTreePlaces19
theorem hmTreePlaces20_ok : ∀ x ∈ hmTreePlaces20, HOk Try.prog x := hmemo_cons hTreePlaces19_ok hmTreePlaces19_ok
def hTreePlaces20 : HE := ⟨72, [(eS [32,40,41]),(.lit (.int .i32 97))], [], [((.val (.lit (.int .i64 (Int.negSucc 0)))), [])]⟩
theorem hTreePlaces20_ok : HOk Try.prog hTreePlaces20 := hok_eq mmTreePlaces_ok hmTreePlaces20_ok folTreePlaces (lf := 100000) (k := 1000) (by kernel_rfl)
def hmTreePlaces21 : List HE := hTreePlaces20 :: hmTreePlaces20
theorem hmTreePlaces21_ok : ∀ x ∈ hmTreePlaces21, HOk Try.prog x := hmemo_cons hTreePlaces20_ok hmTreePlaces20_ok
def hTreePlaces21 : HE := ⟨72, [(eS [32,40,41]),(.lit (.int .i32 32))], [], [((.val (eI 0)), [])]⟩
theorem hTreePlaces21_ok : HOk Try.prog hTreePlaces21 := hok_eq mmTreePlaces_ok hmTreePlaces21_ok folTreePlaces (lf := 100000) (k := 1000) (by kernel_rfl)
def hmTreePlaces22 : List HE := hTreePlaces21 :: hmTreePlaces21
theorem hmTreePlaces22_ok : ∀ x ∈ hmTreePlaces22, HOk Try.prog x := hmemo_cons hTreePlaces21_ok hmTreePlaces21_ok
def hTreePlaces22 : HE := ⟨67, [(eS [97,32,83,41,41,41]),(eS [32,40,41])], [], [((.val (eI 1)), [])]⟩
theorem hTreePlaces22_ok : HOk Try.prog hTreePlaces22 := hok_eq mmTreePlaces_ok hmTreePlaces22_ok folTreePlaces (lf := 100000) (k := 1000) (by kernel_rfl)
def hmTreePlaces23 : List HE := hTreePlaces22 :: hmTreePlaces22
theorem hmTreePlaces23_ok : ∀ x ∈ hmTreePlaces23, HOk Try.prog x := hmemo_cons hTreePlaces22_ok hmTreePlaces22_ok
def hTreePlaces23 : HE := ⟨72, [(eS [32,40,41]),(.lit (.int .i32 83))], [], [((.val (.lit (.int .i64 (Int.negSucc 0)))), [])]⟩
theorem hTreePlaces23_ok : HOk Try.prog hTreePlaces23 := hok_eq mmTreePlaces_ok hmTreePlaces23_ok folTreePlaces (lf := 100000) (k := 1000) (by kernel_rfl)
def hmTreePlaces24 : List HE := hTreePlaces23 :: hmTreePlaces23
theorem hmTreePlaces24_ok : ∀ x ∈ hmTreePlaces24, HOk Try.prog x := hmemo_cons hTreePlaces23_ok hmTreePlaces23_ok
def hTreePlaces24 : HE := ⟨72, [(eS [32,40,41]),(.lit (.int .i32 41))], [], [((.val (eI 2)), [])]⟩
theorem hTreePlaces24_ok : HOk Try.prog hTreePlaces24 := hok_eq mmTreePlaces_ok hmTreePlaces24_ok folTreePlaces (lf := 100000) (k := 1000) (by kernel_rfl)
def hmTreePlaces25 : List HE := hTreePlaces24 :: hmTreePlaces24
theorem hmTreePlaces25_ok : ∀ x ∈ hmTreePlaces25, HOk Try.prog x := hmemo_cons hTreePlaces24_ok hmTreePlaces24_ok
def hTreePlaces25 : HE := ⟨67, [(eS [83,41,41,41]),(eS [32,40,41])], [], [((.val (eI 1)), [])]⟩
theorem hTreePlaces25_ok : HOk Try.prog hTreePlaces25 := hok_eq mmTreePlaces_ok hmTreePlaces25_ok folTreePlaces (lf := 100000) (k := 1000) (by kernel_rfl)
def hmTreePlaces26 : List HE := hTreePlaces25 :: hmTreePlaces25
theorem hmTreePlaces26_ok : ∀ x ∈ hmTreePlaces26, HOk Try.prog x := hmemo_cons hTreePlaces25_ok hmTreePlaces25_ok
def btreePlaces8 : Blk := ⟨[(eI 101),(eI 2),(.lit (.slice none 0 0)),(eI 1),(.lit (.int .i64 (Int.negSucc 0))),(.lit (.slice none 0 0)),(eI 100),(eI 0),(.sl 7 2 0 3 none 3)],33,[(2,9),(1,6),(0,3)],3,0,false,2,none⟩
def btreePlaces9 : Blk := ⟨[(eI 101),(eI 3),(.sl 8 0 0 1 none 3),(eI 1),(.lit (.int .i64 (Int.negSucc 0))),(.lit (.slice none 0 0)),(eI 100),(.lit (.int .i64 (Int.negSucc 0))),(.lit (.slice none 0 0))],33,[(2,9),(1,6),(0,3)],3,0,false,2,none⟩
def btreePlaces10 : Blk := ⟨[(eI 3),(.lit (.int .i64 (Int.negSucc 0))),(.lit (.slice none 0 0))],33,[(0,3)],1,0,false,0,none⟩
def ttreePlaces4 : List Nat := [40,83,32,40,65,41,32,97,32,40,83,32,40,65,32,99,41,32,97,32,83,41,41]
def hTreePlaces26 : HE := ⟨14, [(.agg [(.sl 0 2 0 3 none 1),(.sl 1 1 0 2 none 1),(.sl 2 3 0 4 none 2)]),(eT ttreePlaces4)], [btreePlaces2, btreePlaces3, btreePlaces4, btreePlaces5, btreePlaces6, btreePlaces7], [((.val (.tup [(.agg [(eI 100),(eI 0),(.sl 6 2 0 3 none 3)]),(eI 0)])), [btreePlaces8, btreePlaces9, btreePlaces10])]⟩
theorem hTreePlaces26_ok : HOk Try.prog hTreePlaces26 := hok_eq mmTreePlaces_ok hmTreePlaces26_ok folTreePlaces (lf := 100000) (k := 1000) (by kernel_rfl)
def hmTreePlaces27 : List HE := hTreePlaces26 :: hmTreePlaces26
theorem hmTreePlaces27_ok : ∀ x ∈ hmTreePlaces27, HOk Try.prog x := hmemo_cons hTreePlaces26_ok hmTreePlaces26_ok
def hTreePlaces27 : HE := ⟨32, [(.agg [(eI 101),(eI 2),(.lit (.slice none 0 0))]),(eI 4),(eI 4),(eI 4)], [], [((.val eB0), [])]⟩
theorem hTreePlaces27_ok : HOk Try.prog hTreePlaces27 := hok_eq mmTreePlaces_ok hmTreePlaces27_ok folTreePlaces (lf := 100000) (k := 1000) (by kernel_rfl)
def hmTreePlaces28 : List HE := hTreePlaces27 :: hmTreePlaces27
theorem hmTreePlaces28_ok : ∀ x ∈ hmTreePlaces28, HOk Try.prog x := hmemo_cons hTreePlaces27_ok hmTreePlaces27_ok
def hTreePlaces28 : HE := ⟨25, [(.agg [(eI 101),(eI 2),(.lit (.slice none 0 0))])], [], [((.val (.lit (.slice none 0 0))), [])]⟩
theorem hTreePlaces28_ok : HOk Try.prog hTreePlaces28 := hok_eq mmTreePlaces_ok hmTreePlaces28_ok folTreePlaces (lf := 100000) (k := 1000) (by kernel_rfl)
def hmTreePlaces29 : List HE := hTreePlaces28 :: hmTreePlaces28
theorem hmTreePlaces29_ok : ∀ x ∈ hmTreePlaces29, HOk Try.prog x := hmemo_cons hTreePlaces28_ok hmTreePlaces28_ok
def hTreePlaces29 : HE := ⟨32, [(.agg [(eI 1),(.lit (.int .i64 (Int.negSucc 0))),(.lit (.slice none 0 0))]),(eI 4),(eI 4),(eI 4)], [], [((.val eB0), [])]⟩
theorem hTreePlaces29_ok : HOk Try.prog hTreePlaces29 := hok_eq mmTreePlaces_ok hmTreePlaces29_ok folTreePlaces (lf := 100000) (k := 1000) (by kernel_rfl)
def hmTreePlaces30 : List HE := hTreePlaces29 :: hmTreePlaces29
theorem hmTreePlaces30_ok : ∀ x ∈ hmTreePlaces30, HOk Try.prog x := hmemo_cons hTreePlaces29_ok hmTreePlaces29_ok
def btreePlaces11 : Blk := ⟨[(eI 1)],3,[(0,1)],1,0,false,0,none⟩
def hTreePlaces30 : HE := ⟨25, [(.agg [(eI 1),(.lit (.int .i64 (Int.negSucc 0))),(.lit (.slice none 0 0))])], [], [((.val (.sl 0 0 0 1 (some 1) 1)), [btreePlaces11])]⟩
theorem hTreePlaces30_ok : HOk Try.prog hTreePlaces30 := hok_eq mmTreePlaces_ok hmTreePlaces30_ok folTreePlaces (lf := 100000) (k := 1000) (by kernel_rfl)
def hmTreePlaces31 : List HE := hTreePlaces30 :: hmTreePlaces30
theorem hmTreePlaces31_ok : ∀ x ∈ hmTreePlaces31, HOk Try.prog x := hmemo_cons hTreePlaces30_ok hmTreePlaces30_ok
def hTreePlaces31 : HE := ⟨32, [(.agg [(eI 3),(.lit (.int .i64 (Int.negSucc 0))),(.lit (.slice none 0 0))]),(eI 4),(eI 4),(eI 3)], [], [((.val eB0), [])]⟩
theorem hTreePlaces31_ok : HOk Try.prog hTreePlaces31 := hok_eq mmTreePlaces_ok hmTreePlaces31_ok folTreePlaces (lf := 100000) (k := 1000) (by kernel_rfl)
def hmTreePlaces32 : List HE := hTreePlaces31 :: hmTreePlaces31
theorem hmTreePlaces32_ok : ∀ x ∈ hmTreePlaces32, HOk Try.prog x := hmemo_cons hTreePlaces31_ok hmTreePlaces31_ok
def hTreePlaces32 : HE := ⟨25, [(.agg [(eI 3),(.lit (.int .i64 (Int.negSucc 0))),(.lit (.slice none 0 0))])], [], [((.val (.sl 0 0 0 1 (some 1) 1)), [btreePlaces7])]⟩
theorem hTreePlaces32_ok : HOk Try.prog hTreePlaces32 := hok_eq mmTreePlaces_ok hmTreePlaces32_ok folTreePlaces (lf := 100000) (k := 1000) (by kernel_rfl)
def hmTreePlaces33 : List HE := hTreePlaces32 :: hmTreePlaces32
theorem hmTreePlaces33_ok : ∀ x ∈ hmTreePlaces33, HOk Try.prog x := hmemo_cons hTreePlaces32_ok hmTreePlaces32_ok
def hTreePlaces33 : HE := ⟨32, [(.agg [(eI 101),(eI 3),(.sl 0 0 0 1 none 3)]),(eI 4),(eI 4),(eI 3)], [btreePlaces10], [((.val eB0), [])]⟩
theorem hTreePlaces33_ok : HOk Try.prog hTreePlaces33 := hok_eq mmTreePlaces_ok hmTreePlaces33_ok folTreePlaces (lf := 100000) (k := 1000) (by kernel_rfl)
def hmTreePlaces34 : List HE := hTreePlaces33 :: hmTreePlaces33
theorem hmTreePlaces34_ok : ∀ x ∈ hmTreePlaces34, HOk Try.prog x := hmemo_cons hTreePlaces33_ok hmTreePlaces33_ok
def hTreePlaces34 : HE := ⟨25, [(.agg [(eI 101),(eI 3),(.sl 0 0 0 1 none 3)])], [btreePlaces10], [((.val (.sl 1 0 0 1 none 1)), [btreePlaces7])]⟩
theorem hTreePlaces34_ok : HOk Try.prog hTreePlaces34 := hok_eq mmTreePlaces_ok hmTreePlaces34_ok folTreePlaces (lf := 100000) (k := 1000) (by kernel_rfl)
def hmTreePlaces35 : List HE := hTreePlaces34 :: hmTreePlaces34
theorem hmTreePlaces35_ok : ∀ x ∈ hmTreePlaces35, HOk Try.prog x := hmemo_cons hTreePlaces34_ok hmTreePlaces34_ok
def hTreePlaces35 : HE := ⟨32, [(.agg [(eI 1),(.lit (.int .i64 (Int.negSucc 0))),(.lit (.slice none 0 0))]),(eI 4),(eI 4),(eI 2)], [], [((.val eB0), [])]⟩
theorem hTreePlaces35_ok : HOk Try.prog hTreePlaces35 := hok_eq mmTreePlaces_ok hmTreePlaces35_ok folTreePlaces (lf := 100000) (k := 1000) (by kernel_rfl)
def hmTreePlaces36 : List HE := hTreePlaces35 :: hmTreePlaces35
theorem hmTreePlaces36_ok : ∀ x ∈ hmTreePlaces36, HOk Try.prog x := hmemo_cons hTreePlaces35_ok hmTreePlaces35_ok
def hTreePlaces36 : HE := ⟨32, [(.agg [(eI 100),(.lit (.int .i64 (Int.negSucc 0))),(.lit (.slice none 0 0))]),(eI 4),(eI 4),(eI 1)], [], [((.val eB0), [])]⟩
theorem hTreePlaces36_ok : HOk Try.prog hTreePlaces36 := hok_eq mmTreePlaces_ok hmTreePlaces36_ok folTreePlaces (lf := 100000) (k := 1000) (by kernel_rfl)
def hmTreePlaces37 : List HE := hTreePlaces36 :: hmTreePlaces36
theorem hmTreePlaces37_ok : ∀ x ∈ hmTreePlaces37, HOk Try.prog x := hmemo_cons hTreePlaces36_ok hmTreePlaces36_ok
def btreePlaces12 : Blk := ⟨[(eI 100)],3,[(0,1)],1,0,false,0,none⟩
def hTreePlaces37 : HE := ⟨25, [(.agg [(eI 100),(.lit (.int .i64 (Int.negSucc 0))),(.lit (.slice none 0 0))])], [], [((.val (.sl 0 0 0 1 (some 1) 1)), [btreePlaces12])]⟩
theorem hTreePlaces37_ok : HOk Try.prog hTreePlaces37 := hok_eq mmTreePlaces_ok hmTreePlaces37_ok folTreePlaces (lf := 100000) (k := 1000) (by kernel_rfl)
def hmTreePlaces38 : List HE := hTreePlaces37 :: hmTreePlaces37
theorem hmTreePlaces38_ok : ∀ x ∈ hmTreePlaces38, HOk Try.prog x := hmemo_cons hTreePlaces37_ok hmTreePlaces37_ok
def btreePlaces13 : Blk := ⟨[(eI 101),(eI 3),(.sl 1 0 0 1 none 3),(eI 1),(.lit (.int .i64 (Int.negSucc 0))),(.lit (.slice none 0 0)),(eI 100),(.lit (.int .i64 (Int.negSucc 0))),(.lit (.slice none 0 0))],33,[(2,9),(1,6),(0,3)],3,0,false,2,none⟩
def hTreePlaces38 : HE := ⟨32, [(.agg [(eI 100),(eI 0),(.sl 0 2 0 3 none 3)]),(eI 4),(eI 4),(eI 3)], [btreePlaces13, btreePlaces10], [((.val eB0), [])]⟩
theorem hTreePlaces38_ok : HOk Try.prog hTreePlaces38 := hok_eq mmTreePlaces_ok hmTreePlaces38_ok folTreePlaces (lf := 100000) (k := 1000) (by kernel_rfl)
def hmTreePlaces39 : List HE := hTreePlaces38 :: hmTreePlaces38
theorem hmTreePlaces39_ok : ∀ x ∈ hmTreePlaces39, HOk Try.prog x := hmemo_cons hTreePlaces38_ok hmTreePlaces38_ok
def btreePlaces14 : Blk := ⟨[(eI 3),(eI 1),(eI 100)],3,[(2,3),(1,2),(0,1)],3,0,false,2,none⟩
def hTreePlaces39 : HE := ⟨25, [(.agg [(eI 100),(eI 0),(.sl 0 2 0 3 none 3)])], [btreePlaces13, btreePlaces10], [((.val (.sl 2 2 0 3 none 1)), [btreePlaces14])]⟩
theorem hTreePlaces39_ok : HOk Try.prog hTreePlaces39 := hok_eq mmTreePlaces_ok hmTreePlaces39_ok folTreePlaces (lf := 100000) (k := 1000) (by kernel_rfl)
def hmTreePlaces40 : List HE := hTreePlaces39 :: hmTreePlaces39
theorem hmTreePlaces40_ok : ∀ x ∈ hmTreePlaces40, HOk Try.prog x := hmemo_cons hTreePlaces39_ok hmTreePlaces39_ok
def btreePlaces15 : Blk := ⟨[(eI 101),(eI 2),(.lit (.slice none 0 0)),(eI 1),(.lit (.int .i64 (Int.negSucc 0))),(.lit (.slice none 0 0)),(eI 100),(eI 0),(.sl 1 2 0 3 none 3)],33,[(2,9),(1,6),(0,3)],3,0,false,2,none⟩
def btreePlaces16 : Blk := ⟨[(eI 101),(eI 3),(.sl 2 0 0 1 none 3),(eI 1),(.lit (.int .i64 (Int.negSucc 0))),(.lit (.slice none 0 0)),(eI 100),(.lit (.int .i64 (Int.negSucc 0))),(.lit (.slice none 0 0))],33,[(2,9),(1,6),(0,3)],3,0,false,2,none⟩
def hTreePlaces40 : HE := ⟨32, [(.agg [(eI 100),(eI 0),(.sl 0 2 0 3 none 3)]),(eI 4),(eI 4),(eI 4)], [btreePlaces15, btreePlaces16, btreePlaces10], [((.val eB0), [])]⟩
theorem hTreePlaces40_ok : HOk Try.prog hTreePlaces40 := hok_eq mmTreePlaces_ok hmTreePlaces40_ok folTreePlaces (lf := 100000) (k := 1000) (by kernel_rfl)
def hmTreePlaces41 : List HE := hTreePlaces40 :: hmTreePlaces40
theorem hmTreePlaces41_ok : ∀ x ∈ hmTreePlaces41, HOk Try.prog x := hmemo_cons hTreePlaces40_ok hmTreePlaces40_ok
def hTreePlaces41 : HE := ⟨32, [(.agg [(eI 101),(eI 2),(.lit (.slice none 0 0))]),(eI 4),(eI 4),(eI 3)], [], [((.val eB0), [])]⟩
theorem hTreePlaces41_ok : HOk Try.prog hTreePlaces41 := hok_eq mmTreePlaces_ok hmTreePlaces41_ok folTreePlaces (lf := 100000) (k := 1000) (by kernel_rfl)
def hmTreePlaces42 : List HE := hTreePlaces41 :: hmTreePlaces41
theorem hmTreePlaces42_ok : ∀ x ∈ hmTreePlaces42, HOk Try.prog x := hmemo_cons hTreePlaces41_ok hmTreePlaces41_ok
def hTreePlaces42 : HE := ⟨32, [(.agg [(eI 1),(.lit (.int .i64 (Int.negSucc 0))),(.lit (.slice none 0 0))]),(eI 4),(eI 4),(eI 3)], [], [((.val eB0), [])]⟩
theorem hTreePlaces42_ok : HOk Try.prog hTreePlaces42 := hok_eq mmTreePlaces_ok hmTreePlaces42_ok folTreePlaces (lf := 100000) (k := 1000) (by kernel_rfl)
def hmTreePlaces43 : List HE := hTreePlaces42 :: hmTreePlaces42
theorem hmTreePlaces43_ok : ∀ x ∈ hmTreePlaces43, HOk Try.prog x := hmemo_cons hTreePlaces42_ok hmTreePlaces42_ok
def hTreePlaces43 : HE := ⟨32, [(.agg [(eI 3),(.lit (.int .i64 (Int.negSucc 0))),(.lit (.slice none 0 0))]),(eI 4),(eI 4),(eI 2)], [], [((.val eB0), [])]⟩
theorem hTreePlaces43_ok : HOk Try.prog hTreePlaces43 := hok_eq mmTreePlaces_ok hmTreePlaces43_ok folTreePlaces (lf := 100000) (k := 1000) (by kernel_rfl)
def hmTreePlaces44 : List HE := hTreePlaces43 :: hmTreePlaces43
theorem hmTreePlaces44_ok : ∀ x ∈ hmTreePlaces44, HOk Try.prog x := hmemo_cons hTreePlaces43_ok hmTreePlaces43_ok
def hTreePlaces44 : HE := ⟨32, [(.agg [(eI 101),(eI 3),(.sl 0 0 0 1 none 3)]),(eI 4),(eI 4),(eI 2)], [btreePlaces10], [((.val eB0), [])]⟩
theorem hTreePlaces44_ok : HOk Try.prog hTreePlaces44 := hok_eq mmTreePlaces_ok hmTreePlaces44_ok folTreePlaces (lf := 100000) (k := 1000) (by kernel_rfl)
def hmTreePlaces45 : List HE := hTreePlaces44 :: hmTreePlaces44
theorem hmTreePlaces45_ok : ∀ x ∈ hmTreePlaces45, HOk Try.prog x := hmemo_cons hTreePlaces44_ok hmTreePlaces44_ok
def hTreePlaces45 : HE := ⟨32, [(.agg [(eI 1),(.lit (.int .i64 (Int.negSucc 0))),(.lit (.slice none 0 0))]),(eI 4),(eI 4),(eI 1)], [], [((.val eB0), [])]⟩
theorem hTreePlaces45_ok : HOk Try.prog hTreePlaces45 := hok_eq mmTreePlaces_ok hmTreePlaces45_ok folTreePlaces (lf := 100000) (k := 1000) (by kernel_rfl)
def hmTreePlaces46 : List HE := hTreePlaces45 :: hmTreePlaces45
theorem hmTreePlaces46_ok : ∀ x ∈ hmTreePlaces46, HOk Try.prog x := hmemo_cons hTreePlaces45_ok hmTreePlaces45_ok
def hTreePlaces46 : HE := ⟨32, [(.agg [(eI 100),(.lit (.int .i64 (Int.negSucc 0))),(.lit (.slice none 0 0))]),(eI 4),(eI 4),(eI 0)], [], [((.val eB0), [])]⟩
theorem hTreePlaces46_ok : HOk Try.prog hTreePlaces46 := hok_eq mmTreePlaces_ok hmTreePlaces46_ok folTreePlaces (lf := 100000) (k := 1000) (by kernel_rfl)
def hmTreePlaces47 : List HE := hTreePlaces46 :: hmTreePlaces46
theorem hmTreePlaces47_ok : ∀ x ∈ hmTreePlaces47, HOk Try.prog x := hmemo_cons hTreePlaces46_ok hmTreePlaces46_ok
def hTreePlaces47 : HE := ⟨32, [(.agg [(eI 100),(eI 0),(.sl 0 2 0 3 none 3)]),(eI 4),(eI 4),(eI 2)], [btreePlaces13, btreePlaces10], [((.val eB0), [])]⟩
theorem hTreePlaces47_ok : HOk Try.prog hTreePlaces47 := hok_eq mmTreePlaces_ok hmTreePlaces47_ok folTreePlaces (lf := 100000) (k := 1000) (by kernel_rfl)
def hmTreePlaces48 : List HE := hTreePlaces47 :: hmTreePlaces47
theorem hmTreePlaces48_ok : ∀ x ∈ hmTreePlaces48, HOk Try.prog x := hmemo_cons hTreePlaces47_ok hmTreePlaces47_ok
def hTreePlaces48 : HE := ⟨32, [(.agg [(eI 100),(eI 0),(.sl 0 2 0 3 none 3)]),(eI 4),(eI 4),(eI 3)], [btreePlaces15, btreePlaces16, btreePlaces10], [((.val eB0), [])]⟩
theorem hTreePlaces48_ok : HOk Try.prog hTreePlaces48 := hok_eq mmTreePlaces_ok hmTreePlaces48_ok folTreePlaces (lf := 100000) (k := 1000) (by kernel_rfl)
def hmTreePlaces49 : List HE := hTreePlaces48 :: hmTreePlaces48
theorem hmTreePlaces49_ok : ∀ x ∈ hmTreePlaces49, HOk Try.prog x := hmemo_cons hTreePlaces48_ok hmTreePlaces48_ok
def hTreePlaces49 : HE := ⟨32, [(.agg [(eI 101),(eI 2),(.lit (.slice none 0 0))]),(eI 4),(eI 4),(eI 2)], [], [((.val eB0), [])]⟩
theorem hTreePlaces49_ok : HOk Try.prog hTreePlaces49 := hok_eq mmTreePlaces_ok hmTreePlaces49_ok folTreePlaces (lf := 100000) (k := 1000) (by kernel_rfl)
def hmTreePlaces50 : List HE := hTreePlaces49 :: hmTreePlaces49
theorem hmTreePlaces50_ok : ∀ x ∈ hmTreePlaces50, HOk Try.prog x := hmemo_cons hTreePlaces49_ok hmTreePlaces49_ok
def hTreePlaces50 : HE := ⟨32, [(.agg [(eI 3),(.lit (.int .i64 (Int.negSucc 0))),(.lit (.slice none 0 0))]),(eI 4),(eI 4),(eI 1)], [], [((.val eB0), [])]⟩
theorem hTreePlaces50_ok : HOk Try.prog hTreePlaces50 := hok_eq mmTreePlaces_ok hmTreePlaces50_ok folTreePlaces (lf := 100000) (k := 1000) (by kernel_rfl)
def hmTreePlaces51 : List HE := hTreePlaces50 :: hmTreePlaces50
theorem hmTreePlaces51_ok : ∀ x ∈ hmTreePlaces51, HOk Try.prog x := hmemo_cons hTreePlaces50_ok hmTreePlaces50_ok
def hTreePlaces51 : HE := ⟨32, [(.agg [(eI 101),(eI 3),(.sl 0 0 0 1 none 3)]),(eI 4),(eI 4),(eI 1)], [btreePlaces10], [((.val eB0), [])]⟩
theorem hTreePlaces51_ok : HOk Try.prog hTreePlaces51 := hok_eq mmTreePlaces_ok hmTreePlaces51_ok folTreePlaces (lf := 100000) (k := 1000) (by kernel_rfl)
def hmTreePlaces52 : List HE := hTreePlaces51 :: hmTreePlaces51
theorem hmTreePlaces52_ok : ∀ x ∈ hmTreePlaces52, HOk Try.prog x := hmemo_cons hTreePlaces51_ok hmTreePlaces51_ok
def hTreePlaces52 : HE := ⟨32, [(.agg [(eI 1),(.lit (.int .i64 (Int.negSucc 0))),(.lit (.slice none 0 0))]),(eI 4),(eI 4),(eI 0)], [], [((.val eB0), [])]⟩
theorem hTreePlaces52_ok : HOk Try.prog hTreePlaces52 := hok_eq mmTreePlaces_ok hmTreePlaces52_ok folTreePlaces (lf := 100000) (k := 1000) (by kernel_rfl)
def hmTreePlaces53 : List HE := hTreePlaces52 :: hmTreePlaces52
theorem hmTreePlaces53_ok : ∀ x ∈ hmTreePlaces53, HOk Try.prog x := hmemo_cons hTreePlaces52_ok hmTreePlaces52_ok
def hTreePlaces53 : HE := ⟨32, [(.agg [(eI 100),(.lit (.int .i64 (Int.negSucc 0))),(.lit (.slice none 0 0))]),(eI 4),(eI 4),(.lit (.int .i64 (Int.negSucc 0)))], [], [((.val eB0), [])]⟩
theorem hTreePlaces53_ok : HOk Try.prog hTreePlaces53 := hok_eq mmTreePlaces_ok hmTreePlaces53_ok folTreePlaces (lf := 100000) (k := 1000) (by kernel_rfl)
def hmTreePlaces54 : List HE := hTreePlaces53 :: hmTreePlaces53
theorem hmTreePlaces54_ok : ∀ x ∈ hmTreePlaces54, HOk Try.prog x := hmemo_cons hTreePlaces53_ok hmTreePlaces53_ok
def hTreePlaces54 : HE := ⟨32, [(.agg [(eI 100),(eI 0),(.sl 0 2 0 3 none 3)]),(eI 4),(eI 4),(eI 1)], [btreePlaces13, btreePlaces10], [((.val eB0), [])]⟩
theorem hTreePlaces54_ok : HOk Try.prog hTreePlaces54 := hok_eq mmTreePlaces_ok hmTreePlaces54_ok folTreePlaces (lf := 100000) (k := 1000) (by kernel_rfl)
def hmTreePlaces55 : List HE := hTreePlaces54 :: hmTreePlaces54
theorem hmTreePlaces55_ok : ∀ x ∈ hmTreePlaces55, HOk Try.prog x := hmemo_cons hTreePlaces54_ok hmTreePlaces54_ok
def hTreePlaces55 : HE := ⟨32, [(.agg [(eI 100),(eI 0),(.sl 0 2 0 3 none 3)]),(eI 4),(eI 4),(eI 2)], [btreePlaces15, btreePlaces16, btreePlaces10], [((.val eB0), [])]⟩
theorem hTreePlaces55_ok : HOk Try.prog hTreePlaces55 := hok_eq mmTreePlaces_ok hmTreePlaces55_ok folTreePlaces (lf := 100000) (k := 1000) (by kernel_rfl)
def hmTreePlaces56 : List HE := hTreePlaces55 :: hmTreePlaces55
theorem hmTreePlaces56_ok : ∀ x ∈ hmTreePlaces56, HOk Try.prog x := hmemo_cons hTreePlaces55_ok hmTreePlaces55_ok
def hTreePlaces56 : HE := ⟨32, [(.agg [(eI 101),(eI 2),(.lit (.slice none 0 0))]),(eI 4),(eI 4),(eI 1)], [], [((.val eB0), [])]⟩
theorem hTreePlaces56_ok : HOk Try.prog hTreePlaces56 := hok_eq mmTreePlaces_ok hmTreePlaces56_ok folTreePlaces (lf := 100000) (k := 1000) (by kernel_rfl)
def hmTreePlaces57 : List HE := hTreePlaces56 :: hmTreePlaces56
theorem hmTreePlaces57_ok : ∀ x ∈ hmTreePlaces57, HOk Try.prog x := hmemo_cons hTreePlaces56_ok hmTreePlaces56_ok
def hTreePlaces57 : HE := ⟨32, [(.agg [(eI 3),(.lit (.int .i64 (Int.negSucc 0))),(.lit (.slice none 0 0))]),(eI 4),(eI 4),(eI 0)], [], [((.val eB0), [])]⟩
theorem hTreePlaces57_ok : HOk Try.prog hTreePlaces57 := hok_eq mmTreePlaces_ok hmTreePlaces57_ok folTreePlaces (lf := 100000) (k := 1000) (by kernel_rfl)
def hmTreePlaces58 : List HE := hTreePlaces57 :: hmTreePlaces57
theorem hmTreePlaces58_ok : ∀ x ∈ hmTreePlaces58, HOk Try.prog x := hmemo_cons hTreePlaces57_ok hmTreePlaces57_ok
def hTreePlaces58 : HE := ⟨32, [(.agg [(eI 101),(eI 3),(.sl 0 0 0 1 none 3)]),(eI 4),(eI 4),(eI 0)], [btreePlaces10], [((.val eB0), [])]⟩
theorem hTreePlaces58_ok : HOk Try.prog hTreePlaces58 := hok_eq mmTreePlaces_ok hmTreePlaces58_ok folTreePlaces (lf := 100000) (k := 1000) (by kernel_rfl)
def hmTreePlaces59 : List HE := hTreePlaces58 :: hmTreePlaces58
theorem hmTreePlaces59_ok : ∀ x ∈ hmTreePlaces59, HOk Try.prog x := hmemo_cons hTreePlaces58_ok hmTreePlaces58_ok
def hTreePlaces59 : HE := ⟨32, [(.agg [(eI 1),(.lit (.int .i64 (Int.negSucc 0))),(.lit (.slice none 0 0))]),(eI 4),(eI 4),(.lit (.int .i64 (Int.negSucc 0)))], [], [((.val eB0), [])]⟩
theorem hTreePlaces59_ok : HOk Try.prog hTreePlaces59 := hok_eq mmTreePlaces_ok hmTreePlaces59_ok folTreePlaces (lf := 100000) (k := 1000) (by kernel_rfl)
def hmTreePlaces60 : List HE := hTreePlaces59 :: hmTreePlaces59
theorem hmTreePlaces60_ok : ∀ x ∈ hmTreePlaces60, HOk Try.prog x := hmemo_cons hTreePlaces59_ok hmTreePlaces59_ok
def hTreePlaces60 : HE := ⟨32, [(.agg [(eI 100),(.lit (.int .i64 (Int.negSucc 0))),(.lit (.slice none 0 0))]),(eI 4),(eI 4),(.lit (.int .i64 (Int.negSucc 1)))], [], [((.val eB0), [])]⟩
theorem hTreePlaces60_ok : HOk Try.prog hTreePlaces60 := hok_eq mmTreePlaces_ok hmTreePlaces60_ok folTreePlaces (lf := 100000) (k := 1000) (by kernel_rfl)
def hmTreePlaces61 : List HE := hTreePlaces60 :: hmTreePlaces60
theorem hmTreePlaces61_ok : ∀ x ∈ hmTreePlaces61, HOk Try.prog x := hmemo_cons hTreePlaces60_ok hmTreePlaces60_ok
def hTreePlaces61 : HE := ⟨32, [(.agg [(eI 100),(eI 0),(.sl 0 2 0 3 none 3)]),(eI 4),(eI 4),(eI 0)], [btreePlaces13, btreePlaces10], [((.val eB0), [])]⟩
theorem hTreePlaces61_ok : HOk Try.prog hTreePlaces61 := hok_eq mmTreePlaces_ok hmTreePlaces61_ok folTreePlaces (lf := 100000) (k := 1000) (by kernel_rfl)
def hmTreePlaces62 : List HE := hTreePlaces61 :: hmTreePlaces61
theorem hmTreePlaces62_ok : ∀ x ∈ hmTreePlaces62, HOk Try.prog x := hmemo_cons hTreePlaces61_ok hmTreePlaces61_ok
def hTreePlaces62 : HE := ⟨32, [(.agg [(eI 100),(eI 0),(.sl 0 2 0 3 none 3)]),(eI 4),(eI 4),(eI 1)], [btreePlaces15, btreePlaces16, btreePlaces10], [((.val eB0), [])]⟩
theorem hTreePlaces62_ok : HOk Try.prog hTreePlaces62 := hok_eq mmTreePlaces_ok hmTreePlaces62_ok folTreePlaces (lf := 100000) (k := 1000) (by kernel_rfl)
def hmTreePlaces63 : List HE := hTreePlaces62 :: hmTreePlaces62
theorem hmTreePlaces63_ok : ∀ x ∈ hmTreePlaces63, HOk Try.prog x := hmemo_cons hTreePlaces62_ok hmTreePlaces62_ok
def hTreePlaces63 : HE := ⟨32, [(.agg [(eI 101),(eI 2),(.lit (.slice none 0 0))]),(eI 4),(eI 4),(eI 0)], [], [((.val eB0), [])]⟩
theorem hTreePlaces63_ok : HOk Try.prog hTreePlaces63 := hok_eq mmTreePlaces_ok hmTreePlaces63_ok folTreePlaces (lf := 100000) (k := 1000) (by kernel_rfl)
def hmTreePlaces64 : List HE := hTreePlaces63 :: hmTreePlaces63
theorem hmTreePlaces64_ok : ∀ x ∈ hmTreePlaces64, HOk Try.prog x := hmemo_cons hTreePlaces63_ok hmTreePlaces63_ok
def hTreePlaces64 : HE := ⟨32, [(.agg [(eI 100),(eI 0),(.sl 0 2 0 3 none 3)]),(eI 4),(eI 4),(.lit (.int .i64 (Int.negSucc 0)))], [btreePlaces13, btreePlaces10], [((.val eB0), [])]⟩
theorem hTreePlaces64_ok : HOk Try.prog hTreePlaces64 := hok_eq mmTreePlaces_ok hmTreePlaces64_ok folTreePlaces (lf := 100000) (k := 1000) (by kernel_rfl)
def hmTreePlaces65 : List HE := hTreePlaces64 :: hmTreePlaces64
theorem hmTreePlaces65_ok : ∀ x ∈ hmTreePlaces65, HOk Try.prog x := hmemo_cons hTreePlaces64_ok hmTreePlaces64_ok
def hTreePlaces65 : HE := ⟨32, [(.agg [(eI 100),(eI 0),(.sl 0 2 0 3 none 3)]),(eI 4),(eI 4),(eI 0)], [btreePlaces15, btreePlaces16, btreePlaces10], [((.val eB0), [])]⟩
theorem hTreePlaces65_ok : HOk Try.prog hTreePlaces65 := hok_eq mmTreePlaces_ok hmTreePlaces65_ok folTreePlaces (lf := 100000) (k := 1000) (by kernel_rfl)
def hmTreePlaces66 : List HE := hTreePlaces65 :: hmTreePlaces65
theorem hmTreePlaces66_ok : ∀ x ∈ hmTreePlaces66, HOk Try.prog x := hmemo_cons hTreePlaces65_ok hmTreePlaces65_ok
def hTreePlaces66 : HE := ⟨32, [(.agg [(eI 100),(eI 0),(.sl 0 2 0 3 none 3)]),(eI 4),(eI 4),(.lit (.int .i64 (Int.negSucc 0)))], [btreePlaces15, btreePlaces16, btreePlaces10], [((.val eB0), [])]⟩
theorem hTreePlaces66_ok : HOk Try.prog hTreePlaces66 := hok_eq mmTreePlaces_ok hmTreePlaces66_ok folTreePlaces (lf := 100000) (k := 1000) (by kernel_rfl)
def hmTreePlaces67 : List HE := hTreePlaces66 :: hmTreePlaces66
theorem hmTreePlaces67_ok : ∀ x ∈ hmTreePlaces67, HOk Try.prog x := hmemo_cons hTreePlaces66_ok hmTreePlaces66_ok
def hTreePlaces67 : HE := ⟨32, [(.agg [(eI 101),(eI 2),(.lit (.slice none 0 0))]),(eI 4),(eI 3),(eI 4)], [], [((.val eB0), [])]⟩
theorem hTreePlaces67_ok : HOk Try.prog hTreePlaces67 := hok_eq mmTreePlaces_ok hmTreePlaces67_ok folTreePlaces (lf := 100000) (k := 1000) (by kernel_rfl)
def hmTreePlaces68 : List HE := hTreePlaces67 :: hmTreePlaces67
theorem hmTreePlaces68_ok : ∀ x ∈ hmTreePlaces68, HOk Try.prog x := hmemo_cons hTreePlaces67_ok hmTreePlaces67_ok
def hTreePlaces68 : HE := ⟨32, [(.agg [(eI 1),(.lit (.int .i64 (Int.negSucc 0))),(.lit (.slice none 0 0))]),(eI 4),(eI 3),(eI 4)], [], [((.val eB0), [])]⟩
theorem hTreePlaces68_ok : HOk Try.prog hTreePlaces68 := hok_eq mmTreePlaces_ok hmTreePlaces68_ok folTreePlaces (lf := 100000) (k := 1000) (by kernel_rfl)
def hmTreePlaces69 : List HE := hTreePlaces68 :: hmTreePlaces68
theorem hmTreePlaces69_ok : ∀ x ∈ hmTreePlaces69, HOk Try.prog x := hmemo_cons hTreePlaces68_ok hmTreePlaces68_ok
def hTreePlaces69 : HE := ⟨32, [(.agg [(eI 3),(.lit (.int .i64 (Int.negSucc 0))),(.lit (.slice none 0 0))]),(eI 4),(eI 3),(eI 3)], [], [((.val eB0), [])]⟩
theorem hTreePlaces69_ok : HOk Try.prog hTreePlaces69 := hok_eq mmTreePlaces_ok hmTreePlaces69_ok folTreePlaces (lf := 100000) (k := 1000) (by kernel_rfl)
def hmTreePlaces70 : List HE := hTreePlaces69 :: hmTreePlaces69
theorem hmTreePlaces70_ok : ∀ x ∈ hmTreePlaces70, HOk Try.prog x := hmemo_cons hTreePlaces69_ok hmTreePlaces69_ok
def hTreePlaces70 : HE := ⟨32, [(.agg [(eI 101),(eI 3),(.sl 0 0 0 1 none 3)]),(eI 4),(eI 3),(eI 3)], [btreePlaces10], [((.val eB0), [])]⟩
theorem hTreePlaces70_ok : HOk Try.prog hTreePlaces70 := hok_eq mmTreePlaces_ok hmTreePlaces70_ok folTreePlaces (lf := 100000) (k := 1000) (by kernel_rfl)
def hmTreePlaces71 : List HE := hTreePlaces70 :: hmTreePlaces70
theorem hmTreePlaces71_ok : ∀ x ∈ hmTreePlaces71, HOk Try.prog x := hmemo_cons hTreePlaces70_ok hmTreePlaces70_ok
def hTreePlaces71 : HE := ⟨32, [(.agg [(eI 1),(.lit (.int .i64 (Int.negSucc 0))),(.lit (.slice none 0 0))]),(eI 4),(eI 3),(eI 2)], [], [((.val eB0), [])]⟩
theorem hTreePlaces71_ok : HOk Try.prog hTreePlaces71 := hok_eq mmTreePlaces_ok hmTreePlaces71_ok folTreePlaces (lf := 100000) (k := 1000) (by kernel_rfl)
def hmTreePlaces72 : List HE := hTreePlaces71 :: hmTreePlaces71
theorem hmTreePlaces72_ok : ∀ x ∈ hmTreePlaces72, HOk Try.prog x := hmemo_cons hTreePlaces71_ok hmTreePlaces71_ok
def hTreePlaces72 : HE := ⟨32, [(.agg [(eI 100),(.lit (.int .i64 (Int.negSucc 0))),(.lit (.slice none 0 0))]),(eI 4),(eI 3),(eI 1)], [], [((.val eB0), [])]⟩
theorem hTreePlaces72_ok : HOk Try.prog hTreePlaces72 := hok_eq mmTreePlaces_ok hmTreePlaces72_ok folTreePlaces (lf := 100000) (k := 1000) (by kernel_rfl)
def hmTreePlaces73 : List HE := hTreePlaces72 :: hmTreePlaces72
theorem hmTreePlaces73_ok : ∀ x ∈ hmTreePlaces73, HOk Try.prog x := hmemo_cons hTreePlaces72_ok hmTreePlaces72_ok
def hTreePlaces73 : HE := ⟨32, [(.agg [(eI 100),(eI 0),(.sl 0 2 0 3 none 3)]),(eI 4),(eI 3),(eI 3)], [btreePlaces13, btreePlaces10], [((.val eB0), [])]⟩
theorem hTreePlaces73_ok : HOk Try.prog hTreePlaces73 := hok_eq mmTreePlaces_ok hmTreePlaces73_ok folTreePlaces (lf := 100000) (k := 1000) (by kernel_rfl)
def hmTreePlaces74 : List HE := hTreePlaces73 :: hmTreePlaces73
theorem hmTreePlaces74_ok : ∀ x ∈ hmTreePlaces74, HOk Try.prog x := hmemo_cons hTreePlaces73_ok hmTreePlaces73_ok
def hTreePlaces74 : HE := ⟨32, [(.agg [(eI 100),(eI 0),(.sl 0 2 0 3 none 3)]),(eI 4),(eI 3),(eI 4)], [btreePlaces15, btreePlaces16, btreePlaces10], [((.val eB0), [])]⟩
theorem hTreePlaces74_ok : HOk Try.prog hTreePlaces74 := hok_eq mmTreePlaces_ok hmTreePlaces74_ok folTreePlaces (lf := 100000) (k := 1000) (by kernel_rfl)
def hmTreePlaces75 : List HE := hTreePlaces74 :: hmTreePlaces74
theorem hmTreePlaces75_ok : ∀ x ∈ hmTreePlaces75, HOk Try.prog x := hmemo_cons hTreePlaces74_ok hmTreePlaces74_ok
def hTreePlaces75 : HE := ⟨32, [(.agg [(eI 101),(eI 2),(.lit (.slice none 0 0))]),(eI 4),(eI 3),(eI 3)], [], [((.val eB0), [])]⟩
theorem hTreePlaces75_ok : HOk Try.prog hTreePlaces75 := hok_eq mmTreePlaces_ok hmTreePlaces75_ok folTreePlaces (lf := 100000) (k := 1000) (by kernel_rfl)
def hmTreePlaces76 : List HE := hTreePlaces75 :: hmTreePlaces75
theorem hmTreePlaces76_ok : ∀ x ∈ hmTreePlaces76, HOk Try.prog x := hmemo_cons hTreePlaces75_ok hmTreePlaces75_ok
def hTreePlaces76 : HE := ⟨32, [(.agg [(eI 1),(.lit (.int .i64 (Int.negSucc 0))),(.lit (.slice none 0 0))]),(eI 4),(eI 3),(eI 3)], [], [((.val eB0), [])]⟩
theorem hTreePlaces76_ok : HOk Try.prog hTreePlaces76 := hok_eq mmTreePlaces_ok hmTreePlaces76_ok folTreePlaces (lf := 100000) (k := 1000) (by kernel_rfl)
def hmTreePlaces77 : List HE := hTreePlaces76 :: hmTreePlaces76
theorem hmTreePlaces77_ok : ∀ x ∈ hmTreePlaces77, HOk Try.prog x := hmemo_cons hTreePlaces76_ok hmTreePlaces76_ok
def hTreePlaces77 : HE := ⟨32, [(.agg [(eI 3),(.lit (.int .i64 (Int.negSucc 0))),(.lit (.slice none 0 0))]),(eI 4),(eI 3),(eI 2)], [], [((.val eB0), [])]⟩
theorem hTreePlaces77_ok : HOk Try.prog hTreePlaces77 := hok_eq mmTreePlaces_ok hmTreePlaces77_ok folTreePlaces (lf := 100000) (k := 1000) (by kernel_rfl)
def hmTreePlaces78 : List HE := hTreePlaces77 :: hmTreePlaces77
theorem hmTreePlaces78_ok : ∀ x ∈ hmTreePlaces78, HOk Try.prog x := hmemo_cons hTreePlaces77_ok hmTreePlaces77_ok
def hTreePlaces78 : HE := ⟨32, [(.agg [(eI 101),(eI 3),(.sl 0 0 0 1 none 3)]),(eI 4),(eI 3),(eI 2)], [btreePlaces10], [((.val eB0), [])]⟩
theorem hTreePlaces78_ok : HOk Try.prog hTreePlaces78 := hok_eq mmTreePlaces_ok hmTreePlaces78_ok folTreePlaces (lf := 100000) (k := 1000) (by kernel_rfl)
def hmTreePlaces79 : List HE := hTreePlaces78 :: hmTreePlaces78
theorem hmTreePlaces79_ok : ∀ x ∈ hmTreePlaces79, HOk Try.prog x := hmemo_cons hTreePlaces78_ok hmTreePlaces78_ok
def hTreePlaces79 : HE := ⟨32, [(.agg [(eI 1),(.lit (.int .i64 (Int.negSucc 0))),(.lit (.slice none 0 0))]),(eI 4),(eI 3),(eI 1)], [], [((.val eB0), [])]⟩
theorem hTreePlaces79_ok : HOk Try.prog hTreePlaces79 := hok_eq mmTreePlaces_ok hmTreePlaces79_ok folTreePlaces (lf := 100000) (k := 1000) (by kernel_rfl)
def hmTreePlaces80 : List HE := hTreePlaces79 :: hmTreePlaces79
theorem hmTreePlaces80_ok : ∀ x ∈ hmTreePlaces80, HOk Try.prog x := hmemo_cons hTreePlaces79_ok hmTreePlaces79_ok
def hTreePlaces80 : HE := ⟨32, [(.agg [(eI 100),(.lit (.int .i64 (Int.negSucc 0))),(.lit (.slice none 0 0))]),(eI 4),(eI 3),(eI 0)], [], [((.val eB0), [])]⟩
theorem hTreePlaces80_ok : HOk Try.prog hTreePlaces80 := hok_eq mmTreePlaces_ok hmTreePlaces80_ok folTreePlaces (lf := 100000) (k := 1000) (by kernel_rfl)
def hmTreePlaces81 : List HE := hTreePlaces80 :: hmTreePlaces80
theorem hmTreePlaces81_ok : ∀ x ∈ hmTreePlaces81, HOk Try.prog x := hmemo_cons hTreePlaces80_ok hmTreePlaces80_ok
def hTreePlaces81 : HE := ⟨32, [(.agg [(eI 100),(eI 0),(.sl 0 2 0 3 none 3)]),(eI 4),(eI 3),(eI 2)], [btreePlaces13, btreePlaces10], [((.val eB0), [])]⟩
theorem hTreePlaces81_ok : HOk Try.prog hTreePlaces81 := hok_eq mmTreePlaces_ok hmTreePlaces81_ok folTreePlaces (lf := 100000) (k := 1000) (by kernel_rfl)
def hmTreePlaces82 : List HE := hTreePlaces81 :: hmTreePlaces81
theorem hmTreePlaces82_ok : ∀ x ∈ hmTreePlaces82, HOk Try.prog x := hmemo_cons hTreePlaces81_ok hmTreePlaces81_ok
def hTreePlaces82 : HE := ⟨32, [(.agg [(eI 100),(eI 0),(.sl 0 2 0 3 none 3)]),(eI 4),(eI 3),(eI 3)], [btreePlaces15, btreePlaces16, btreePlaces10], [((.val eB0), [])]⟩
theorem hTreePlaces82_ok : HOk Try.prog hTreePlaces82 := hok_eq mmTreePlaces_ok hmTreePlaces82_ok folTreePlaces (lf := 100000) (k := 1000) (by kernel_rfl)
def hmTreePlaces83 : List HE := hTreePlaces82 :: hmTreePlaces82
theorem hmTreePlaces83_ok : ∀ x ∈ hmTreePlaces83, HOk Try.prog x := hmemo_cons hTreePlaces82_ok hmTreePlaces82_ok
def hTreePlaces83 : HE := ⟨32, [(.agg [(eI 101),(eI 2),(.lit (.slice none 0 0))]),(eI 4),(eI 3),(eI 2)], [], [((.val eB0), [])]⟩
theorem hTreePlaces83_ok : HOk Try.prog hTreePlaces83 := hok_eq mmTreePlaces_ok hmTreePlaces83_ok folTreePlaces (lf := 100000) (k := 1000) (by kernel_rfl)
def hmTreePlaces84 : List HE := hTreePlaces83 :: hmTreePlaces83
theorem hmTreePlaces84_ok : ∀ x ∈ hmTreePlaces84, HOk Try.prog x := hmemo_cons hTreePlaces83_ok hmTreePlaces83_ok
def hTreePlaces84 : HE := ⟨32, [(.agg [(eI 3),(.lit (.int .i64 (Int.negSucc 0))),(.lit (.slice none 0 0))]),(eI 4),(eI 3),(eI 1)], [], [((.val eB0), [])]⟩
theorem hTreePlaces84_ok : HOk Try.prog hTreePlaces84 := hok_eq mmTreePlaces_ok hmTreePlaces84_ok folTreePlaces (lf := 100000) (k := 1000) (by kernel_rfl)
def hmTreePlaces85 : List HE := hTreePlaces84 :: hmTreePlaces84
theorem hmTreePlaces85_ok : ∀ x ∈ hmTreePlaces85, HOk Try.prog x := hmemo_cons hTreePlaces84_ok hmTreePlaces84_ok
def hTreePlaces85 : HE := ⟨32, [(.agg [(eI 101),(eI 3),(.sl 0 0 0 1 none 3)]),(eI 4),(eI 3),(eI 1)], [btreePlaces10], [((.val eB0), [])]⟩
theorem hTreePlaces85_ok : HOk Try.prog hTreePlaces85 := hok_eq mmTreePlaces_ok hmTreePlaces85_ok folTreePlaces (lf := 100000) (k := 1000) (by kernel_rfl)
def hmTreePlaces86 : List HE := hTreePlaces85 :: hmTreePlaces85
theorem hmTreePlaces86_ok : ∀ x ∈ hmTreePlaces86, HOk Try.prog x := hmemo_cons hTreePlaces85_ok hmTreePlaces85_ok
def hTreePlaces86 : HE := ⟨32, [(.agg [(eI 1),(.lit (.int .i64 (Int.negSucc 0))),(.lit (.slice none 0 0))]),(eI 4),(eI 3),(eI 0)], [], [((.val eB0), [])]⟩
theorem hTreePlaces86_ok : HOk Try.prog hTreePlaces86 := hok_eq mmTreePlaces_ok hmTreePlaces86_ok folTreePlaces (lf := 100000) (k := 1000) (by kernel_rfl)
def hmTreePlaces87 : List HE := hTreePlaces86 :: hmTreePlaces86
theorem hmTreePlaces87_ok : ∀ x ∈ hmTreePlaces87, HOk Try.prog x := hmemo_cons hTreePlaces86_ok hmTreePlaces86_ok
def hTreePlaces87 : HE := ⟨32, [(.agg [(eI 100),(.lit (.int .i64 (Int.negSucc 0))),(.lit (.slice none 0 0))]),(eI 4),(eI 3),(.lit (.int .i64 (Int.negSucc 0)))], [], [((.val eB0), [])]⟩
theorem hTreePlaces87_ok : HOk Try.prog hTreePlaces87 := hok_eq mmTreePlaces_ok hmTreePlaces87_ok folTreePlaces (lf := 100000) (k := 1000) (by kernel_rfl)
def hmTreePlaces88 : List HE := hTreePlaces87 :: hmTreePlaces87
theorem hmTreePlaces88_ok : ∀ x ∈ hmTreePlaces88, HOk Try.prog x := hmemo_cons hTreePlaces87_ok hmTreePlaces87_ok
def hTreePlaces88 : HE := ⟨32, [(.agg [(eI 100),(eI 0),(.sl 0 2 0 3 none 3)]),(eI 4),(eI 3),(eI 1)], [btreePlaces13, btreePlaces10], [((.val eB0), [])]⟩
theorem hTreePlaces88_ok : HOk Try.prog hTreePlaces88 := hok_eq mmTreePlaces_ok hmTreePlaces88_ok folTreePlaces (lf := 100000) (k := 1000) (by kernel_rfl)
def hmTreePlaces89 : List HE := hTreePlaces88 :: hmTreePlaces88
theorem hmTreePlaces89_ok : ∀ x ∈ hmTreePlaces89, HOk Try.prog x := hmemo_cons hTreePlaces88_ok hmTreePlaces88_ok
def hTreePlaces89 : HE := ⟨32, [(.agg [(eI 100),(eI 0),(.sl 0 2 0 3 none 3)]),(eI 4),(eI 3),(eI 2)], [btreePlaces15, btreePlaces16, btreePlaces10], [((.val eB0), [])]⟩
theorem hTreePlaces89_ok : HOk Try.prog hTreePlaces89 := hok_eq mmTreePlaces_ok hmTreePlaces89_ok folTreePlaces (lf := 100000) (k := 1000) (by kernel_rfl)
def hmTreePlaces90 : List HE := hTreePlaces89 :: hmTreePlaces89
theorem hmTreePlaces90_ok : ∀ x ∈ hmTreePlaces90, HOk Try.prog x := hmemo_cons hTreePlaces89_ok hmTreePlaces89_ok
def hTreePlaces90 : HE := ⟨32, [(.agg [(eI 101),(eI 2),(.lit (.slice none 0 0))]),(eI 4),(eI 3),(eI 1)], [], [((.val eB0), [])]⟩
theorem hTreePlaces90_ok : HOk Try.prog hTreePlaces90 := hok_eq mmTreePlaces_ok hmTreePlaces90_ok folTreePlaces (lf := 100000) (k := 1000) (by kernel_rfl)
def hmTreePlaces91 : List HE := hTreePlaces90 :: hmTreePlaces90
theorem hmTreePlaces91_ok : ∀ x ∈ hmTreePlaces91, HOk Try.prog x := hmemo_cons hTreePlaces90_ok hmTreePlaces90_ok
def hTreePlaces91 : HE := ⟨32, [(.agg [(eI 3),(.lit (.int .i64 (Int.negSucc 0))),(.lit (.slice none 0 0))]),(eI 4),(eI 3),(eI 0)], [], [((.val eB0), [])]⟩
theorem hTreePlaces91_ok : HOk Try.prog hTreePlaces91 := hok_eq mmTreePlaces_ok hmTreePlaces91_ok folTreePlaces (lf := 100000) (k := 1000) (by kernel_rfl)
def hmTreePlaces92 : List HE := hTreePlaces91 :: hmTreePlaces91
theorem hmTreePlaces92_ok : ∀ x ∈ hmTreePlaces92, HOk Try.prog x := hmemo_cons hTreePlaces91_ok hmTreePlaces91_ok
def hTreePlaces92 : HE := ⟨32, [(.agg [(eI 101),(eI 3),(.sl 0 0 0 1 none 3)]),(eI 4),(eI 3),(eI 0)], [btreePlaces10], [((.val eB0), [])]⟩
theorem hTreePlaces92_ok : HOk Try.prog hTreePlaces92 := hok_eq mmTreePlaces_ok hmTreePlaces92_ok folTreePlaces (lf := 100000) (k := 1000) (by kernel_rfl)
def hmTreePlaces93 : List HE := hTreePlaces92 :: hmTreePlaces92
theorem hmTreePlaces93_ok : ∀ x ∈ hmTreePlaces93, HOk Try.prog x := hmemo_cons hTreePlaces92_ok hmTreePlaces92_ok
def hTreePlaces93 : HE := ⟨32, [(.agg [(eI 1),(.lit (.int .i64 (Int.negSucc 0))),(.lit (.slice none 0 0))]),(eI 4),(eI 3),(.lit (.int .i64 (Int.negSucc 0)))], [], [((.val eB0), [])]⟩
theorem hTreePlaces93_ok : HOk Try.prog hTreePlaces93 := hok_eq mmTreePlaces_ok hmTreePlaces93_ok folTreePlaces (lf := 100000) (k := 1000) (by kernel_rfl)
def hmTreePlaces94 : List HE := hTreePlaces93 :: hmTreePlaces93
theorem hmTreePlaces94_ok : ∀ x ∈ hmTreePlaces94, HOk Try.prog x := hmemo_cons hTreePlaces93_ok hmTreePlaces93_ok
def hTreePlaces94 : HE := ⟨32, [(.agg [(eI 100),(.lit (.int .i64 (Int.negSucc 0))),(.lit (.slice none 0 0))]),(eI 4),(eI 3),(.lit (.int .i64 (Int.negSucc 1)))], [], [((.val eB0), [])]⟩
theorem hTreePlaces94_ok : HOk Try.prog hTreePlaces94 := hok_eq mmTreePlaces_ok hmTreePlaces94_ok folTreePlaces (lf := 100000) (k := 1000) (by kernel_rfl)
def hmTreePlaces95 : List HE := hTreePlaces94 :: hmTreePlaces94
theorem hmTreePlaces95_ok : ∀ x ∈ hmTreePlaces95, HOk Try.prog x := hmemo_cons hTreePlaces94_ok hmTreePlaces94_ok
def hTreePlaces95 : HE := ⟨32, [(.agg [(eI 100),(eI 0),(.sl 0 2 0 3 none 3)]),(eI 4),(eI 3),(eI 0)], [btreePlaces13, btreePlaces10], [((.val eB0), [])]⟩
theorem hTreePlaces95_ok : HOk Try.prog hTreePlaces95 := hok_eq mmTreePlaces_ok hmTreePlaces95_ok folTreePlaces (lf := 100000) (k := 1000) (by kernel_rfl)
def hmTreePlaces96 : List HE := hTreePlaces95 :: hmTreePlaces95
theorem hmTreePlaces96_ok : ∀ x ∈ hmTreePlaces96, HOk Try.prog x := hmemo_cons hTreePlaces95_ok hmTreePlaces95_ok
def hTreePlaces96 : HE := ⟨32, [(.agg [(eI 100),(eI 0),(.sl 0 2 0 3 none 3)]),(eI 4),(eI 3),(eI 1)], [btreePlaces15, btreePlaces16, btreePlaces10], [((.val eB0), [])]⟩
theorem hTreePlaces96_ok : HOk Try.prog hTreePlaces96 := hok_eq mmTreePlaces_ok hmTreePlaces96_ok folTreePlaces (lf := 100000) (k := 1000) (by kernel_rfl)
def hmTreePlaces97 : List HE := hTreePlaces96 :: hmTreePlaces96
theorem hmTreePlaces97_ok : ∀ x ∈ hmTreePlaces97, HOk Try.prog x := hmemo_cons hTreePlaces96_ok hmTreePlaces96_ok
def hTreePlaces97 : HE := ⟨32, [(.agg [(eI 101),(eI 2),(.lit (.slice none 0 0))]),(eI 4),(eI 3),(eI 0)], [], [((.val eB0), [])]⟩
theorem hTreePlaces97_ok : HOk Try.prog hTreePlaces97 := hok_eq mmTreePlaces_ok hmTreePlaces97_ok folTreePlaces (lf := 100000) (k := 1000) (by kernel_rfl)
def hmTreePlaces98 : List HE := hTreePlaces97 :: hmTreePlaces97
theorem hmTreePlaces98_ok : ∀ x ∈ hmTreePlaces98, HOk Try.prog x := hmemo_cons hTreePlaces97_ok hmTreePlaces97_ok
def hTreePlaces98 : HE := ⟨32, [(.agg [(eI 100),(eI 0),(.sl 0 2 0 3 none 3)]),(eI 4),(eI 3),(.lit (.int .i64 (Int.negSucc 0)))], [btreePlaces13, btreePlaces10], [((.val eB0), [])]⟩
theorem hTreePlaces98_ok : HOk Try.prog hTreePlaces98 := hok_eq mmTreePlaces_ok hmTreePlaces98_ok folTreePlaces (lf := 100000) (k := 1000) (by kernel_rfl)
def hmTreePlaces99 : List HE := hTreePlaces98 :: hmTreePlaces98
theorem hmTreePlaces99_ok : ∀ x ∈ hmTreePlaces99, HOk Try.prog x := hmemo_cons hTreePlaces98_ok hmTreePlaces98_ok
def hTreePlaces99 : HE := ⟨32, [(.agg [(eI 100),(eI 0),(.sl 0 2 0 3 none 3)]),(eI 4),(eI 3),(eI 0)], [btreePlaces15, btreePlaces16, btreePlaces10], [((.val eB0), [])]⟩
theorem hTreePlaces99_ok : HOk Try.prog hTreePlaces99 := hok_eq mmTreePlaces_ok hmTreePlaces99_ok folTreePlaces (lf := 100000) (k := 1000) (by kernel_rfl)
def hmTreePlaces100 : List HE := hTreePlaces99 :: hmTreePlaces99
theorem hmTreePlaces100_ok : ∀ x ∈ hmTreePlaces100, HOk Try.prog x := hmemo_cons hTreePlaces99_ok hmTreePlaces99_ok
def hTreePlaces100 : HE := ⟨32, [(.agg [(eI 100),(eI 0),(.sl 0 2 0 3 none 3)]),(eI 4),(eI 3),(.lit (.int .i64 (Int.negSucc 0)))], [btreePlaces15, btreePlaces16, btreePlaces10], [((.val eB0), [])]⟩
theorem hTreePlaces100_ok : HOk Try.prog hTreePlaces100 := hok_eq mmTreePlaces_ok hmTreePlaces100_ok folTreePlaces (lf := 100000) (k := 1000) (by kernel_rfl)
def hmTreePlaces101 : List HE := hTreePlaces100 :: hmTreePlaces100
theorem hmTreePlaces101_ok : ∀ x ∈ hmTreePlaces101, HOk Try.prog x := hmemo_cons hTreePlaces100_ok hmTreePlaces100_ok
def hTreePlaces101 : HE := ⟨32, [(.agg [(eI 101),(eI 2),(.lit (.slice none 0 0))]),(eI 4),(eI 2),(eI 4)], [], [((.val eB0), [])]⟩
theorem hTreePlaces101_ok : HOk Try.prog hTreePlaces101 := hok_eq mmTreePlaces_ok hmTreePlaces101_ok folTreePlaces (lf := 100000) (k := 1000) (by kernel_rfl)
def hmTreePlaces102 : List HE := hTreePlaces101 :: hmTreePlaces101
theorem hmTreePlaces102_ok : ∀ x ∈ hmTreePlaces102, HOk Try.prog x := hmemo_cons hTreePlaces101_ok hmTreePlaces101_ok
def hTreePlaces102 : HE := ⟨32, [(.agg [(eI 1),(.lit (.int .i64 (Int.negSucc 0))),(.lit (.slice none 0 0))]),(eI 4),(eI 2),(eI 4)], [], [((.val eB0), [])]⟩
theorem hTreePlaces102_ok : HOk Try.prog hTreePlaces102 := hok_eq mmTreePlaces_ok hmTreePlaces102_ok folTreePlaces (lf := 100000) (k := 1000) (by kernel_rfl)
def hmTreePlaces103 : List HE := hTreePlaces102 :: hmTreePlaces102
theorem hmTreePlaces103_ok : ∀ x ∈ hmTreePlaces103, HOk Try.prog x := hmemo_cons hTreePlaces102_ok hmTreePlaces102_ok
def hTreePlaces103 : HE := ⟨32, [(.agg [(eI 3),(.lit (.int .i64 (Int.negSucc 0))),(.lit (.slice none 0 0))]),(eI 4),(eI 2),(eI 3)], [], [((.val eB0), [])]⟩
theorem hTreePlaces103_ok : HOk Try.prog hTreePlaces103 := hok_eq mmTreePlaces_ok hmTreePlaces103_ok folTreePlaces (lf := 100000) (k := 1000) (by kernel_rfl)
def hmTreePlaces104 : List HE := hTreePlaces103 :: hmTreePlaces103
theorem hmTreePlaces104_ok : ∀ x ∈ hmTreePlaces104, HOk Try.prog x := hmemo_cons hTreePlaces103_ok hmTreePlaces103_ok
def hTreePlaces104 : HE := ⟨32, [(.agg [(eI 101),(eI 3),(.sl 0 0 0 1 none 3)]),(eI 4),(eI 2),(eI 3)], [btreePlaces10], [((.val eB0), [])]⟩
theorem hTreePlaces104_ok : HOk Try.prog hTreePlaces104 := hok_eq mmTreePlaces_ok hmTreePlaces104_ok folTreePlaces (lf := 100000) (k := 1000) (by kernel_rfl)
def hmTreePlaces105 : List HE := hTreePlaces104 :: hmTreePlaces104
theorem hmTreePlaces105_ok : ∀ x ∈ hmTreePlaces105, HOk Try.prog x := hmemo_cons hTreePlaces104_ok hmTreePlaces104_ok
def hTreePlaces105 : HE := ⟨32, [(.agg [(eI 1),(.lit (.int .i64 (Int.negSucc 0))),(.lit (.slice none 0 0))]),(eI 4),(eI 2),(eI 2)], [], [((.val eB0), [])]⟩
theorem hTreePlaces105_ok : HOk Try.prog hTreePlaces105 := hok_eq mmTreePlaces_ok hmTreePlaces105_ok folTreePlaces (lf := 100000) (k := 1000) (by kernel_rfl)
def hmTreePlaces106 : List HE := hTreePlaces105 :: hmTreePlaces105
theorem hmTreePlaces106_ok : ∀ x ∈ hmTreePlaces106, HOk Try.prog x := hmemo_cons hTreePlaces105_ok hmTreePlaces105_ok
def hTreePlaces106 : HE := ⟨32, [(.agg [(eI 100),(.lit (.int .i64 (Int.negSucc 0))),(.lit (.slice none 0 0))]),(eI 4),(eI 2),(eI 1)], [], [((.val eB0), [])]⟩
theorem hTreePlaces106_ok : HOk Try.prog hTreePlaces106 := hok_eq mmTreePlaces_ok hmTreePlaces106_ok folTreePlaces (lf := 100000) (k := 1000) (by kernel_rfl)
def hmTreePlaces107 : List HE := hTreePlaces106 :: hmTreePlaces106
theorem hmTreePlaces107_ok : ∀ x ∈ hmTreePlaces107, HOk Try.prog x := hmemo_cons hTreePlaces106_ok hmTreePlaces106_ok
def hTreePlaces107 : HE := ⟨32, [(.agg [(eI 100),(eI 0),(.sl 0 2 0 3 none 3)]),(eI 4),(eI 2),(eI 3)], [btreePlaces13, btreePlaces10], [((.val eB0), [])]⟩
theorem hTreePlaces107_ok : HOk Try.prog hTreePlaces107 := hok_eq mmTreePlaces_ok hmTreePlaces107_ok folTreePlaces (lf := 100000) (k := 1000) (by kernel_rfl)
def hmTreePlaces108 : List HE := hTreePlaces107 :: hmTreePlaces107
theorem hmTreePlaces108_ok : ∀ x ∈ hmTreePlaces108, HOk Try.prog x := hmemo_cons hTreePlaces107_ok hmTreePlaces107_ok
def hTreePlaces108 : HE := ⟨32, [(.agg [(eI 100),(eI 0),(.sl 0 2 0 3 none 3)]),(eI 4),(eI 2),(eI 4)], [btreePlaces15, btreePlaces16, btreePlaces10], [((.val eB0), [])]⟩
theorem hTreePlaces108_ok : HOk Try.prog hTreePlaces108 := hok_eq mmTreePlaces_ok hmTreePlaces108_ok folTreePlaces (lf := 100000) (k := 1000) (by kernel_rfl)
def hmTreePlaces109 : List HE := hTreePlaces108 :: hmTreePlaces108
theorem hmTreePlaces109_ok : ∀ x ∈ hmTreePlaces109, HOk Try.prog x := hmemo_cons hTreePlaces108_ok hmTreePlaces108_ok
def hTreePlaces109 : HE := ⟨32, [(.agg [(eI 101),(eI 2),(.lit (.slice none 0 0))]),(eI 4),(eI 2),(eI 3)], [], [((.val eB0), [])]⟩
theorem hTreePlaces109_ok : HOk Try.prog hTreePlaces109 := hok_eq mmTreePlaces_ok hmTreePlaces109_ok folTreePlaces (lf := 100000) (k := 1000) (by kernel_rfl)
def hmTreePlaces110 : List HE := hTreePlaces109 :: hmTreePlaces109
theorem hmTreePlaces110_ok : ∀ x ∈ hmTreePlaces110, HOk Try.prog x := hmemo_cons hTreePlaces109_ok hmTreePlaces109_ok
def hTreePlaces110 : HE := ⟨32, [(.agg [(eI 1),(.lit (.int .i64 (Int.negSucc 0))),(.lit (.slice none 0 0))]),(eI 4),(eI 2),(eI 3)], [], [((.val eB0), [])]⟩
theorem hTreePlaces110_ok : HOk Try.prog hTreePlaces110 := hok_eq mmTreePlaces_ok hmTreePlaces110_ok folTreePlaces (lf := 100000) (k := 1000) (by kernel_rfl)
def hmTreePlaces111 : List HE := hTreePlaces110 :: hmTreePlaces110
theorem hmTreePlaces111_ok : ∀ x ∈ hmTreePlaces111, HOk Try.prog x := hmemo_cons hTreePlaces110_ok hmTreePlaces110_ok
def hTreePlaces111 : HE := ⟨32, [(.agg [(eI 3),(.lit (.int .i64 (Int.negSucc 0))),(.lit (.slice none 0 0))]),(eI 4),(eI 2),(eI 2)], [], [((.val eB0), [])]⟩
theorem hTreePlaces111_ok : HOk Try.prog hTreePlaces111 := hok_eq mmTreePlaces_ok hmTreePlaces111_ok folTreePlaces (lf := 100000) (k := 1000) (by kernel_rfl)
def hmTreePlaces112 : List HE := hTreePlaces111 :: hmTreePlaces111
theorem hmTreePlaces112_ok : ∀ x ∈ hmTreePlaces112, HOk Try.prog x := hmemo_cons hTreePlaces111_ok hmTreePlaces111_ok
def hTreePlaces112 : HE := ⟨32, [(.agg [(eI 101),(eI 3),(.sl 0 0 0 1 none 3)]),(eI 4),(eI 2),(eI 2)], [btreePlaces10], [((.val eB0), [])]⟩
theorem hTreePlaces112_ok : HOk Try.prog hTreePlaces112 := hok_eq mmTreePlaces_ok hmTreePlaces112_ok folTreePlaces (lf := 100000) (k := 1000) (by kernel_rfl)
def hmTreePlaces113 : List HE := hTreePlaces112 :: hmTreePlaces112
theorem hmTreePlaces113_ok : ∀ x ∈ hmTreePlaces113, HOk Try.prog x := hmemo_cons hTreePlaces112_ok hmTreePlaces112_ok
def hTreePlaces113 : HE := ⟨32, [(.agg [(eI 1),(.lit (.int .i64 (Int.negSucc 0))),(.lit (.slice none 0 0))]),(eI 4),(eI 2),(eI 1)], [], [((.val eB0), [])]⟩
theorem hTreePlaces113_ok : HOk Try.prog hTreePlaces113 := hok_eq mmTreePlaces_ok hmTreePlaces113_ok folTreePlaces (lf := 100000) (k := 1000) (by kernel_rfl)
def hmTreePlaces114 : List HE := hTreePlaces113 :: hmTreePlaces113
theorem hmTreePlaces114_ok : ∀ x ∈ hmTreePlaces114, HOk Try.prog x := hmemo_cons hTreePlaces113_ok hmTreePlaces113_ok
def hTreePlaces114 : HE := ⟨32, [(.agg [(eI 100),(.lit (.int .i64 (Int.negSucc 0))),(.lit (.slice none 0 0))]),(eI 4),(eI 2),(eI 0)], [], [((.val eB0), [])]⟩
theorem hTreePlaces114_ok : HOk Try.prog hTreePlaces114 := hok_eq mmTreePlaces_ok hmTreePlaces114_ok folTreePlaces (lf := 100000) (k := 1000) (by kernel_rfl)
def hmTreePlaces115 : List HE := hTreePlaces114 :: hmTreePlaces114
theorem hmTreePlaces115_ok : ∀ x ∈ hmTreePlaces115, HOk Try.prog x := hmemo_cons hTreePlaces114_ok hmTreePlaces114_ok
def hTreePlaces115 : HE := ⟨32, [(.agg [(eI 100),(eI 0),(.sl 0 2 0 3 none 3)]),(eI 4),(eI 2),(eI 2)], [btreePlaces13, btreePlaces10], [((.val eB0), [])]⟩
theorem hTreePlaces115_ok : HOk Try.prog hTreePlaces115 := hok_eq mmTreePlaces_ok hmTreePlaces115_ok folTreePlaces (lf := 100000) (k := 1000) (by kernel_rfl)
def hmTreePlaces116 : List HE := hTreePlaces115 :: hmTreePlaces115
theorem hmTreePlaces116_ok : ∀ x ∈ hmTreePlaces116, HOk Try.prog x := hmemo_cons hTreePlaces115_ok hmTreePlaces115_ok
def hTreePlaces116 : HE := ⟨32, [(.agg [(eI 100),(eI 0),(.sl 0 2 0 3 none 3)]),(eI 4),(eI 2),(eI 3)], [btreePlaces15, btreePlaces16, btreePlaces10], [((.val eB0), [])]⟩
theorem hTreePlaces116_ok : HOk Try.prog hTreePlaces116 := hok_eq mmTreePlaces_ok hmTreePlaces116_ok folTreePlaces (lf := 100000) (k := 1000) (by kernel_rfl)
def hmTreePlaces117 : List HE := hTreePlaces116 :: hmTreePlaces116
theorem hmTreePlaces117_ok : ∀ x ∈ hmTreePlaces117, HOk Try.prog x := hmemo_cons hTreePlaces116_ok hmTreePlaces116_ok
def hTreePlaces117 : HE := ⟨32, [(.agg [(eI 101),(eI 2),(.lit (.slice none 0 0))]),(eI 4),(eI 2),(eI 2)], [], [((.val eB0), [])]⟩
theorem hTreePlaces117_ok : HOk Try.prog hTreePlaces117 := hok_eq mmTreePlaces_ok hmTreePlaces117_ok folTreePlaces (lf := 100000) (k := 1000) (by kernel_rfl)
def hmTreePlaces118 : List HE := hTreePlaces117 :: hmTreePlaces117
theorem hmTreePlaces118_ok : ∀ x ∈ hmTreePlaces118, HOk Try.prog x := hmemo_cons hTreePlaces117_ok hmTreePlaces117_ok
def hTreePlaces118 : HE := ⟨32, [(.agg [(eI 3),(.lit (.int .i64 (Int.negSucc 0))),(.lit (.slice none 0 0))]),(eI 4),(eI 2),(eI 1)], [], [((.val eB0), [])]⟩
theorem hTreePlaces118_ok : HOk Try.prog hTreePlaces118 := hok_eq mmTreePlaces_ok hmTreePlaces118_ok folTreePlaces (lf := 100000) (k := 1000) (by kernel_rfl)
def hmTreePlaces119 : List HE := hTreePlaces118 :: hmTreePlaces118
theorem hmTreePlaces119_ok : ∀ x ∈ hmTreePlaces119, HOk Try.prog x := hmemo_cons hTreePlaces118_ok hmTreePlaces118_ok
def hTreePlaces119 : HE := ⟨32, [(.agg [(eI 101),(eI 3),(.sl 0 0 0 1 none 3)]),(eI 4),(eI 2),(eI 1)], [btreePlaces10], [((.val eB0), [])]⟩
theorem hTreePlaces119_ok : HOk Try.prog hTreePlaces119 := hok_eq mmTreePlaces_ok hmTreePlaces119_ok folTreePlaces (lf := 100000) (k := 1000) (by kernel_rfl)
def hmTreePlaces120 : List HE := hTreePlaces119 :: hmTreePlaces119
theorem hmTreePlaces120_ok : ∀ x ∈ hmTreePlaces120, HOk Try.prog x := hmemo_cons hTreePlaces119_ok hmTreePlaces119_ok
def hTreePlaces120 : HE := ⟨32, [(.agg [(eI 1),(.lit (.int .i64 (Int.negSucc 0))),(.lit (.slice none 0 0))]),(eI 4),(eI 2),(eI 0)], [], [((.val eB0), [])]⟩
theorem hTreePlaces120_ok : HOk Try.prog hTreePlaces120 := hok_eq mmTreePlaces_ok hmTreePlaces120_ok folTreePlaces (lf := 100000) (k := 1000) (by kernel_rfl)
def hmTreePlaces121 : List HE := hTreePlaces120 :: hmTreePlaces120
theorem hmTreePlaces121_ok : ∀ x ∈ hmTreePlaces121, HOk Try.prog x := hmemo_cons hTreePlaces120_ok hmTreePlaces120_ok
def hTreePlaces121 : HE := ⟨32, [(.agg [(eI 100),(.lit (.int .i64 (Int.negSucc 0))),(.lit (.slice none 0 0))]),(eI 4),(eI 2),(.lit (.int .i64 (Int.negSucc 0)))], [], [((.val eB0), [])]⟩
theorem hTreePlaces121_ok : HOk Try.prog hTreePlaces121 := hok_eq mmTreePlaces_ok hmTreePlaces121_ok folTreePlaces (lf := 100000) (k := 1000) (by kernel_rfl)
def hmTreePlaces122 : List HE := hTreePlaces121 :: hmTreePlaces121
theorem hmTreePlaces122_ok : ∀ x ∈ hmTreePlaces122, HOk Try.prog x := hmemo_cons hTreePlaces121_ok hmTreePlaces121_ok
def hTreePlaces122 : HE := ⟨32, [(.agg [(eI 100),(eI 0),(.sl 0 2 0 3 none 3)]),(eI 4),(eI 2),(eI 1)], [btreePlaces13, btreePlaces10], [((.val eB0), [])]⟩
theorem hTreePlaces122_ok : HOk Try.prog hTreePlaces122 := hok_eq mmTreePlaces_ok hmTreePlaces122_ok folTreePlaces (lf := 100000) (k := 1000) (by kernel_rfl)
def hmTreePlaces123 : List HE := hTreePlaces122 :: hmTreePlaces122
theorem hmTreePlaces123_ok : ∀ x ∈ hmTreePlaces123, HOk Try.prog x := hmemo_cons hTreePlaces122_ok hmTreePlaces122_ok
def hTreePlaces123 : HE := ⟨32, [(.agg [(eI 100),(eI 0),(.sl 0 2 0 3 none 3)]),(eI 4),(eI 2),(eI 2)], [btreePlaces15, btreePlaces16, btreePlaces10], [((.val eB0), [])]⟩
theorem hTreePlaces123_ok : HOk Try.prog hTreePlaces123 := hok_eq mmTreePlaces_ok hmTreePlaces123_ok folTreePlaces (lf := 100000) (k := 1000) (by kernel_rfl)
def hmTreePlaces124 : List HE := hTreePlaces123 :: hmTreePlaces123
theorem hmTreePlaces124_ok : ∀ x ∈ hmTreePlaces124, HOk Try.prog x := hmemo_cons hTreePlaces123_ok hmTreePlaces123_ok
def hTreePlaces124 : HE := ⟨32, [(.agg [(eI 101),(eI 2),(.lit (.slice none 0 0))]),(eI 4),(eI 2),(eI 1)], [], [((.val eB0), [])]⟩
theorem hTreePlaces124_ok : HOk Try.prog hTreePlaces124 := hok_eq mmTreePlaces_ok hmTreePlaces124_ok folTreePlaces (lf := 100000) (k := 1000) (by kernel_rfl)
def hmTreePlaces125 : List HE := hTreePlaces124 :: hmTreePlaces124
theorem hmTreePlaces125_ok : ∀ x ∈ hmTreePlaces125, HOk Try.prog x := hmemo_cons hTreePlaces124_ok hmTreePlaces124_ok
def hTreePlaces125 : HE := ⟨32, [(.agg [(eI 3),(.lit (.int .i64 (Int.negSucc 0))),(.lit (.slice none 0 0))]),(eI 4),(eI 2),(eI 0)], [], [((.val eB0), [])]⟩
theorem hTreePlaces125_ok : HOk Try.prog hTreePlaces125 := hok_eq mmTreePlaces_ok hmTreePlaces125_ok folTreePlaces (lf := 100000) (k := 1000) (by kernel_rfl)
def hmTreePlaces126 : List HE := hTreePlaces125 :: hmTreePlaces125
theorem hmTreePlaces126_ok : ∀ x ∈ hmTreePlaces126, HOk Try.prog x := hmemo_cons hTreePlaces125_ok hmTreePlaces125_ok
def hTreePlaces126 : HE := ⟨32, [(.agg [(eI 101),(eI 3),(.sl 0 0 0 1 none 3)]),(eI 4),(eI 2),(eI 0)], [btreePlaces10], [((.val eB0), [])]⟩
theorem hTreePlaces126_ok : HOk Try.prog hTreePlaces126 := hok_eq mmTreePlaces_ok hmTreePlaces126_ok folTreePlaces (lf := 100000) (k := 1000) (by kernel_rfl)
def hmTreePlaces127 : List HE := hTreePlaces126 :: hmTreePlaces126
theorem hmTreePlaces127_ok : ∀ x ∈ hmTreePlaces127, HOk Try.prog x := hmemo_cons hTreePlaces126_ok hmTreePlaces126_ok
def hTreePlaces127 : HE := ⟨32, [(.agg [(eI 1),(.lit (.int .i64 (Int.negSucc 0))),(.lit (.slice none 0 0))]),(eI 4),(eI 2),(.lit (.int .i64 (Int.negSucc 0)))], [], [((.val eB0), [])]⟩
theorem hTreePlaces127_ok : HOk Try.prog hTreePlaces127 := hok_eq mmTreePlaces_ok hmTreePlaces127_ok folTreePlaces (lf := 100000) (k := 1000) (by kernel_rfl)
def hmTreePlaces128 : List HE := hTreePlaces127 :: hmTreePlaces127
theorem hmTreePlaces128_ok : ∀ x ∈ hmTreePlaces128, HOk Try.prog x := hmemo_cons hTreePlaces127_ok hmTreePlaces127_ok
def hTreePlaces128 : HE := ⟨32, [(.agg [(eI 100),(.lit (.int .i64 (Int.negSucc 0))),(.lit (.slice none 0 0))]),(eI 4),(eI 2),(.lit (.int .i64 (Int.negSucc 1)))], [], [((.val eB0), [])]⟩
theorem hTreePlaces128_ok : HOk Try.prog hTreePlaces128 := hok_eq mmTreePlaces_ok hmTreePlaces128_ok folTreePlaces (lf := 100000) (k := 1000) (by kernel_rfl)
def hmTreePlaces129 : List HE := hTreePlaces128 :: hmTreePlaces128
theorem hmTreePlaces129_ok : ∀ x ∈ hmTreePlaces129, HOk Try.prog x := hmemo_cons hTreePlaces128_ok hmTreePlaces128_ok
def hTreePlaces129 : HE := ⟨32, [(.agg [(eI 100),(eI 0),(.sl 0 2 0 3 none 3)]),(eI 4),(eI 2),(eI 0)], [btreePlaces13, btreePlaces10], [((.val eB0), [])]⟩
theorem hTreePlaces129_ok : HOk Try.prog hTreePlaces129 := hok_eq mmTreePlaces_ok hmTreePlaces129_ok folTreePlaces (lf := 100000) (k := 1000) (by kernel_rfl)
def hmTreePlaces130 : List HE := hTreePlaces129 :: hmTreePlaces129
theorem hmTreePlaces130_ok : ∀ x ∈ hmTreePlaces130, HOk Try.prog x := hmemo_cons hTreePlaces129_ok hmTreePlaces129_ok
def hTreePlaces130 : HE := ⟨32, [(.agg [(eI 100),(eI 0),(.sl 0 2 0 3 none 3)]),(eI 4),(eI 2),(eI 1)], [btreePlaces15, btreePlaces16, btreePlaces10], [((.val eB0), [])]⟩
theorem hTreePlaces130_ok : HOk Try.prog hTreePlaces130 := hok_eq mmTreePlaces_ok hmTreePlaces130_ok folTreePlaces (lf := 100000) (k := 1000) (by kernel_rfl)
def hmTreePlaces131 : List HE := hTreePlaces130 :: hmTreePlaces130
theorem hmTreePlaces131_ok : ∀ x ∈ hmTreePlaces131, HOk Try.prog x := hmemo_cons hTreePlaces130_ok hmTreePlaces130_ok
def hTreePlaces131 : HE := ⟨32, [(.agg [(eI 101),(eI 2),(.lit (.slice none 0 0))]),(eI 4),(eI 2),(eI 0)], [], [((.val eB0), [])]⟩
theorem hTreePlaces131_ok : HOk Try.prog hTreePlaces131 := hok_eq mmTreePlaces_ok hmTreePlaces131_ok folTreePlaces (lf := 100000) (k := 1000) (by kernel_rfl)
def hmTreePlaces132 : List HE := hTreePlaces131 :: hmTreePlaces131
theorem hmTreePlaces132_ok : ∀ x ∈ hmTreePlaces132, HOk Try.prog x := hmemo_cons hTreePlaces131_ok hmTreePlaces131_ok
def hTreePlaces132 : HE := ⟨32, [(.agg [(eI 100),(eI 0),(.sl 0 2 0 3 none 3)]),(eI 4),(eI 2),(.lit (.int .i64 (Int.negSucc 0)))], [btreePlaces13, btreePlaces10], [((.val eB0), [])]⟩
theorem hTreePlaces132_ok : HOk Try.prog hTreePlaces132 := hok_eq mmTreePlaces_ok hmTreePlaces132_ok folTreePlaces (lf := 100000) (k := 1000) (by kernel_rfl)
def hmTreePlaces133 : List HE := hTreePlaces132 :: hmTreePlaces132
theorem hmTreePlaces133_ok : ∀ x ∈ hmTreePlaces133, HOk Try.prog x := hmemo_cons hTreePlaces132_ok hmTreePlaces132_ok
def hTreePlaces133 : HE := ⟨32, [(.agg [(eI 100),(eI 0),(.sl 0 2 0 3 none 3)]),(eI 4),(eI 2),(eI 0)], [btreePlaces15, btreePlaces16, btreePlaces10], [((.val eB0), [])]⟩
theorem hTreePlaces133_ok : HOk Try.prog hTreePlaces133 := hok_eq mmTreePlaces_ok hmTreePlaces133_ok folTreePlaces (lf := 100000) (k := 1000) (by kernel_rfl)
def hmTreePlaces134 : List HE := hTreePlaces133 :: hmTreePlaces133
theorem hmTreePlaces134_ok : ∀ x ∈ hmTreePlaces134, HOk Try.prog x := hmemo_cons hTreePlaces133_ok hmTreePlaces133_ok
def hTreePlaces134 : HE := ⟨32, [(.agg [(eI 100),(eI 0),(.sl 0 2 0 3 none 3)]),(eI 4),(eI 2),(.lit (.int .i64 (Int.negSucc 0)))], [btreePlaces15, btreePlaces16, btreePlaces10], [((.val eB0), [])]⟩
theorem hTreePlaces134_ok : HOk Try.prog hTreePlaces134 := hok_eq mmTreePlaces_ok hmTreePlaces134_ok folTreePlaces (lf := 100000) (k := 1000) (by kernel_rfl)
def hmTreePlaces135 : List HE := hTreePlaces134 :: hmTreePlaces134
theorem hmTreePlaces135_ok : ∀ x ∈ hmTreePlaces135, HOk Try.prog x := hmemo_cons hTreePlaces134_ok hmTreePlaces134_ok
def hTreePlaces135 : HE := ⟨32, [(.agg [(eI 101),(eI 2),(.lit (.slice none 0 0))]),(eI 4),(eI 1),(eI 4)], [], [((.val eB0), [])]⟩
theorem hTreePlaces135_ok : HOk Try.prog hTreePlaces135 := hok_eq mmTreePlaces_ok hmTreePlaces135_ok folTreePlaces (lf := 100000) (k := 1000) (by kernel_rfl)
def hmTreePlaces136 : List HE := hTreePlaces135 :: hmTreePlaces135
theorem hmTreePlaces136_ok : ∀ x ∈ hmTreePlaces136, HOk Try.prog x := hmemo_cons hTreePlaces135_ok hmTreePlaces135_ok
def hTreePlaces136 : HE := ⟨32, [(.agg [(eI 1),(.lit (.int .i64 (Int.negSucc 0))),(.lit (.slice none 0 0))]),(eI 4),(eI 1),(eI 4)], [], [((.val eB0), [])]⟩
theorem hTreePlaces136_ok : HOk Try.prog hTreePlaces136 := hok_eq mmTreePlaces_ok hmTreePlaces136_ok folTreePlaces (lf := 100000) (k := 1000) (by kernel_rfl)
def hmTreePlaces137 : List HE := hTreePlaces136 :: hmTreePlaces136
theorem hmTreePlaces137_ok : ∀ x ∈ hmTreePlaces137, HOk Try.prog x := hmemo_cons hTreePlaces136_ok hmTreePlaces136_ok
def hTreePlaces137 : HE := ⟨32, [(.agg [(eI 3),(.lit (.int .i64 (Int.negSucc 0))),(.lit (.slice none 0 0))]),(eI 4),(eI 1),(eI 3)], [], [((.val eB0), [])]⟩
theorem hTreePlaces137_ok : HOk Try.prog hTreePlaces137 := hok_eq mmTreePlaces_ok hmTreePlaces137_ok folTreePlaces (lf := 100000) (k := 1000) (by kernel_rfl)
def hmTreePlaces138 : List HE := hTreePlaces137 :: hmTreePlaces137
theorem hmTreePlaces138_ok : ∀ x ∈ hmTreePlaces138, HOk Try.prog x := hmemo_cons hTreePlaces137_ok hmTreePlaces137_ok
def hTreePlaces138 : HE := ⟨32, [(.agg [(eI 101),(eI 3),(.sl 0 0 0 1 none 3)]),(eI 4),(eI 1),(eI 3)], [btreePlaces10], [((.val eB0), [])]⟩
theorem hTreePlaces138_ok : HOk Try.prog hTreePlaces138 := hok_eq mmTreePlaces_ok hmTreePlaces138_ok folTreePlaces (lf := 100000) (k := 1000) (by kernel_rfl)
def hmTreePlaces139 : List HE := hTreePlaces138 :: hmTreePlaces138
theorem hmTreePlaces139_ok : ∀ x ∈ hmTreePlaces139, HOk Try.prog x := hmemo_cons hTreePlaces138_ok hmTreePlaces138_ok
def hTreePlaces139 : HE := ⟨32, [(.agg [(eI 1),(.lit (.int .i64 (Int.negSucc 0))),(.lit (.slice none 0 0))]),(eI 4),(eI 1),(eI 2)], [], [((.val eB0), [])]⟩
theorem hTreePlaces139_ok : HOk Try.prog hTreePlaces139 := hok_eq mmTreePlaces_ok hmTreePlaces139_ok folTreePlaces (lf := 100000) (k := 1000) (by kernel_rfl)
def hmTreePlaces140 : List HE := hTreePlaces139 :: hmTreePlaces139
theorem hmTreePlaces140_ok : ∀ x ∈ hmTreePlaces140, HOk Try.prog x := hmemo_cons hTreePlaces139_ok hmTreePlaces139_ok
def hTreePlaces140 : HE := ⟨32, [(.agg [(eI 100),(.lit (.int .i64 (Int.negSucc 0))),(.lit (.slice none 0 0))]),(eI 4),(eI 1),(eI 1)], [], [((.val eB0), [])]⟩
theorem hTreePlaces140_ok : HOk Try.prog hTreePlaces140 := hok_eq mmTreePlaces_ok hmTreePlaces140_ok folTreePlaces (lf := 100000) (k := 1000) (by kernel_rfl)
def hmTreePlaces141 : List HE := hTreePlaces140 :: hmTreePlaces140
theorem hmTreePlaces141_ok : ∀ x ∈ hmTreePlaces141, HOk Try.prog x := hmemo_cons hTreePlaces140_ok hmTreePlaces140_ok
def hTreePlaces141 : HE := ⟨32, [(.agg [(eI 100),(eI 0),(.sl 0 2 0 3 none 3)]),(eI 4),(eI 1),(eI 3)], [btreePlaces13, btreePlaces10], [((.val eB0), [])]⟩
theorem hTreePlaces141_ok : HOk Try.prog hTreePlaces141 := hok_eq mmTreePlaces_ok hmTreePlaces141_ok folTreePlaces (lf := 100000) (k := 1000) (by kernel_rfl)
def hmTreePlaces142 : List HE := hTreePlaces141 :: hmTreePlaces141
theorem hmTreePlaces142_ok : ∀ x ∈ hmTreePlaces142, HOk Try.prog x := hmemo_cons hTreePlaces141_ok hmTreePlaces141_ok
def hTreePlaces142 : HE := ⟨32, [(.agg [(eI 100),(eI 0),(.sl 0 2 0 3 none 3)]),(eI 4),(eI 1),(eI 4)], [btreePlaces15, btreePlaces16, btreePlaces10], [((.val eB0), [])]⟩
theorem hTreePlaces142_ok : HOk Try.prog hTreePlaces142 := hok_eq mmTreePlaces_ok hmTreePlaces142_ok folTreePlaces (lf := 100000) (k := 1000) (by kernel_rfl)
def hmTreePlaces143 : List HE := hTreePlaces142 :: hmTreePlaces142
theorem hmTreePlaces143_ok : ∀ x ∈ hmTreePlaces143, HOk Try.prog x := hmemo_cons hTreePlaces142_ok hmTreePlaces142_ok
def hTreePlaces143 : HE := ⟨32, [(.agg [(eI 101),(eI 2),(.lit (.slice none 0 0))]),(eI 4),(eI 1),(eI 3)], [], [((.val eB0), [])]⟩
theorem hTreePlaces143_ok : HOk Try.prog hTreePlaces143 := hok_eq mmTreePlaces_ok hmTreePlaces143_ok folTreePlaces (lf := 100000) (k := 1000) (by kernel_rfl)
def hmTreePlaces144 : List HE := hTreePlaces143 :: hmTreePlaces143
theorem hmTreePlaces144_ok : ∀ x ∈ hmTreePlaces144, HOk Try.prog x := hmemo_cons hTreePlaces143_ok hmTreePlaces143_ok
def hTreePlaces144 : HE := ⟨32, [(.agg [(eI 1),(.lit (.int .i64 (Int.negSucc 0))),(.lit (.slice none 0 0))]),(eI 4),(eI 1),(eI 3)], [], [((.val eB0), [])]⟩
theorem hTreePlaces144_ok : HOk Try.prog hTreePlaces144 := hok_eq mmTreePlaces_ok hmTreePlaces144_ok folTreePlaces (lf := 100000) (k := 1000) (by kernel_rfl)
def hmTreePlaces145 : List HE := hTreePlaces144 :: hmTreePlaces144
theorem hmTreePlaces145_ok : ∀ x ∈ hmTreePlaces145, HOk Try.prog x := hmemo_cons hTreePlaces144_ok hmTreePlaces144_ok
def hTreePlaces145 : HE := ⟨32, [(.agg [(eI 3),(.lit (.int .i64 (Int.negSucc 0))),(.lit (.slice none 0 0))]),(eI 4),(eI 1),(eI 2)], [], [((.val eB0), [])]⟩
theorem hTreePlaces145_ok : HOk Try.prog hTreePlaces145 := hok_eq mmTreePlaces_ok hmTreePlaces145_ok folTreePlaces (lf := 100000) (k := 1000) (by kernel_rfl)
def hmTreePlaces146 : List HE := hTreePlaces145 :: hmTreePlaces145
theorem hmTreePlaces146_ok : ∀ x ∈ hmTreePlaces146, HOk Try.prog x := hmemo_cons hTreePlaces145_ok hmTreePlaces145_ok
def hTreePlaces146 : HE := ⟨32, [(.agg [(eI 101),(eI 3),(.sl 0 0 0 1 none 3)]),(eI 4),(eI 1),(eI 2)], [btreePlaces10], [((.val eB0), [])]⟩
theorem hTreePlaces146_ok : HOk Try.prog hTreePlaces146 := hok_eq mmTreePlaces_ok hmTreePlaces146_ok folTreePlaces (lf := 100000) (k := 1000) (by kernel_rfl)
def hmTreePlaces147 : List HE := hTreePlaces146 :: hmTreePlaces146
theorem hmTreePlaces147_ok : ∀ x ∈ hmTreePlaces147, HOk Try.prog x := hmemo_cons hTreePlaces146_ok hmTreePlaces146_ok
def hTreePlaces147 : HE := ⟨32, [(.agg [(eI 1),(.lit (.int .i64 (Int.negSucc 0))),(.lit (.slice none 0 0))]),(eI 4),(eI 1),(eI 1)], [], [((.val eB0), [])]⟩
theorem hTreePlaces147_ok : HOk Try.prog hTreePlaces147 := hok_eq mmTreePlaces_ok hmTreePlaces147_ok folTreePlaces (lf := 100000) (k := 1000) (by kernel_rfl)
def hmTreePlaces148 : List HE := hTreePlaces147 :: hmTreePlaces147
theorem hmTreePlaces148_ok : ∀ x ∈ hmTreePlaces148, HOk Try.prog x := hmemo_cons hTreePlaces147_ok hmTreePlaces147_ok
def hTreePlaces148 : HE := ⟨32, [(.agg [(eI 100),(.lit (.int .i64 (Int.negSucc 0))),(.lit (.slice none 0 0))]),(eI 4),(eI 1),(eI 0)], [], [((.val eB0), [])]⟩
theorem hTreePlaces148_ok : HOk Try.prog hTreePlaces148 := hok_eq mmTreePlaces_ok hmTreePlaces148_ok folTreePlaces (lf := 100000) (k := 1000) (by kernel_rfl)
def hmTreePlaces149 : List HE := hTreePlaces148 :: hmTreePlaces148
theorem hmTreePlaces149_ok : ∀ x ∈ hmTreePlaces149, HOk Try.prog x := hmemo_cons hTreePlaces148_ok hmTreePlaces148_ok
def hTreePlaces149 : HE := ⟨32, [(.agg [(eI 100),(eI 0),(.sl 0 2 0 3 none 3)]),(eI 4),(eI 1),(eI 2)], [btreePlaces13, btreePlaces10], [((.val eB0), [])]⟩
theorem hTreePlaces149_ok : HOk Try.prog hTreePlaces149 := hok_eq mmTreePlaces_ok hmTreePlaces149_ok folTreePlaces (lf := 100000) (k := 1000) (by kernel_rfl)
def hmTreePlaces150 : List HE := hTreePlaces149 :: hmTreePlaces149
theorem hmTreePlaces150_ok : ∀ x ∈ hmTreePlaces150, HOk Try.prog x := hmemo_cons hTreePlaces149_ok hmTreePlaces149_ok
def hTreePlaces150 : HE := ⟨32, [(.agg [(eI 100),(eI 0),(.sl 0 2 0 3 none 3)]),(eI 4),(eI 1),(eI 3)], [btreePlaces15, btreePlaces16, btreePlaces10], [((.val eB0), [])]⟩
theorem hTreePlaces150_ok : HOk Try.prog hTreePlaces150 := hok_eq mmTreePlaces_ok hmTreePlaces150_ok folTreePlaces (lf := 100000) (k := 1000) (by kernel_rfl)
def hmTreePlaces151 : List HE := hTreePlaces150 :: hmTreePlaces150
theorem hmTreePlaces151_ok : ∀ x ∈ hmTreePlaces151, HOk Try.prog x := hmemo_cons hTreePlaces150_ok hmTreePlaces150_ok
def hTreePlaces151 : HE := ⟨32, [(.agg [(eI 101),(eI 2),(.lit (.slice none 0 0))]),(eI 4),(eI 1),(eI 2)], [], [((.val eB0), [])]⟩
theorem hTreePlaces151_ok : HOk Try.prog hTreePlaces151 := hok_eq mmTreePlaces_ok hmTreePlaces151_ok folTreePlaces (lf := 100000) (k := 1000) (by kernel_rfl)
def hmTreePlaces152 : List HE := hTreePlaces151 :: hmTreePlaces151
theorem hmTreePlaces152_ok : ∀ x ∈ hmTreePlaces152, HOk Try.prog x := hmemo_cons hTreePlaces151_ok hmTreePlaces151_ok
def hTreePlaces152 : HE := ⟨32, [(.agg [(eI 3),(.lit (.int .i64 (Int.negSucc 0))),(.lit (.slice none 0 0))]),(eI 4),(eI 1),(eI 1)], [], [((.val eB0), [])]⟩
theorem hTreePlaces152_ok : HOk Try.prog hTreePlaces152 := hok_eq mmTreePlaces_ok hmTreePlaces152_ok folTreePlaces (lf := 100000) (k := 1000) (by kernel_rfl)
def hmTreePlaces153 : List HE := hTreePlaces152 :: hmTreePlaces152
theorem hmTreePlaces153_ok : ∀ x ∈ hmTreePlaces153, HOk Try.prog x := hmemo_cons hTreePlaces152_ok hmTreePlaces152_ok
def hTreePlaces153 : HE := ⟨32, [(.agg [(eI 101),(eI 3),(.sl 0 0 0 1 none 3)]),(eI 4),(eI 1),(eI 1)], [btreePlaces10], [((.val eB0), [])]⟩
theorem hTreePlaces153_ok : HOk Try.prog hTreePlaces153 := hok_eq mmTreePlaces_ok hmTreePlaces153_ok folTreePlaces (lf := 100000) (k := 1000) (by kernel_rfl)
def hmTreePlaces154 : List HE := hTreePlaces153 :: hmTreePlaces153
theorem hmTreePlaces154_ok : ∀ x ∈ hmTreePlaces154, HOk Try.prog x := hmemo_cons hTreePlaces153_ok hmTreePlaces153_ok
def hTreePlaces154 : HE := ⟨32, [(.agg [(eI 1),(.lit (.int .i64 (Int.negSucc 0))),(.lit (.slice none 0 0))]),(eI 4),(eI 1),(eI 0)], [], [((.val eB0), [])]⟩
theorem hTreePlaces154_ok : HOk Try.prog hTreePlaces154 := hok_eq mmTreePlaces_ok hmTreePlaces154_ok folTreePlaces (lf := 100000) (k := 1000) (by kernel_rfl)
def hmTreePlaces155 : List HE := hTreePlaces154 :: hmTreePlaces154
theorem hmTreePlaces155_ok : ∀ x ∈ hmTreePlaces155, HOk Try.prog x := hmemo_cons hTreePlaces154_ok hmTreePlaces154_ok
def hTreePlaces155 : HE := ⟨32, [(.agg [(eI 100),(.lit (.int .i64 (Int.negSucc 0))),(.lit (.slice none 0 0))]),(eI 4),(eI 1),(.lit (.int .i64 (Int.negSucc 0)))], [], [((.val eB0), [])]⟩
theorem hTreePlaces155_ok : HOk Try.prog hTreePlaces155 := hok_eq mmTreePlaces_ok hmTreePlaces155_ok folTreePlaces (lf := 100000) (k := 1000) (by kernel_rfl)
def hmTreePlaces156 : List HE := hTreePlaces155 :: hmTreePlaces155
theorem hmTreePlaces156_ok : ∀ x ∈ hmTreePlaces156, HOk Try.prog x := hmemo_cons hTreePlaces155_ok hmTreePlaces155_ok
def hTreePlaces156 : HE := ⟨32, [(.agg [(eI 100),(eI 0),(.sl 0 2 0 3 none 3)]),(eI 4),(eI 1),(eI 1)], [btreePlaces13, btreePlaces10], [((.val eB0), [])]⟩
theorem hTreePlaces156_ok : HOk Try.prog hTreePlaces156 := hok_eq mmTreePlaces_ok hmTreePlaces156_ok folTreePlaces (lf := 100000) (k := 1000) (by kernel_rfl)
def hmTreePlaces157 : List HE := hTreePlaces156 :: hmTreePlaces156
theorem hmTreePlaces157_ok : ∀ x ∈ hmTreePlaces157, HOk Try.prog x := hmemo_cons hTreePlaces156_ok hmTreePlaces156_ok
def hTreePlaces157 : HE := ⟨32, [(.agg [(eI 100),(eI 0),(.sl 0 2 0 3 none 3)]),(eI 4),(eI 1),(eI 2)], [btreePlaces15, btreePlaces16, btreePlaces10], [((.val eB0), [])]⟩
theorem hTreePlaces157_ok : HOk Try.prog hTreePlaces157 := hok_eq mmTreePlaces_ok hmTreePlaces157_ok folTreePlaces (lf := 100000) (k := 1000) (by kernel_rfl)
def hmTreePlaces158 : List HE := hTreePlaces157 :: hmTreePlaces157
theorem hmTreePlaces158_ok : ∀ x ∈ hmTreePlaces158, HOk Try.prog x := hmemo_cons hTreePlaces157_ok hmTreePlaces157_ok
def hTreePlaces158 : HE := ⟨32, [(.agg [(eI 101),(eI 2),(.lit (.slice none 0 0))]),(eI 4),(eI 1),(eI 1)], [], [((.val eB0), [])]⟩
theorem hTreePlaces158_ok : HOk Try.prog hTreePlaces158 := hok_eq mmTreePlaces_ok hmTreePlaces158_ok folTreePlaces (lf := 100000) (k := 1000) (by kernel_rfl)
def hmTreePlaces159 : List HE := hTreePlaces158 :: hmTreePlaces158
theorem hmTreePlaces159_ok : ∀ x ∈ hmTreePlaces159, HOk Try.prog x := hmemo_cons hTreePlaces158_ok hmTreePlaces158_ok
def hTreePlaces159 : HE := ⟨32, [(.agg [(eI 3),(.lit (.int .i64 (Int.negSucc 0))),(.lit (.slice none 0 0))]),(eI 4),(eI 1),(eI 0)], [], [((.val eB0), [])]⟩
theorem hTreePlaces159_ok : HOk Try.prog hTreePlaces159 := hok_eq mmTreePlaces_ok hmTreePlaces159_ok folTreePlaces (lf := 100000) (k := 1000) (by kernel_rfl)
def hmTreePlaces160 : List HE := hTreePlaces159 :: hmTreePlaces159
theorem hmTreePlaces160_ok : ∀ x ∈ hmTreePlaces160, HOk Try.prog x := hmemo_cons hTreePlaces159_ok hmTreePlaces159_ok
def hTreePlaces160 : HE := ⟨32, [(.agg [(eI 101),(eI 3),(.sl 0 0 0 1 none 3)]),(eI 4),(eI 1),(eI 0)], [btreePlaces10], [((.val eB0), [])]⟩
theorem hTreePlaces160_ok : HOk Try.prog hTreePlaces160 := hok_eq mmTreePlaces_ok hmTreePlaces160_ok folTreePlaces (lf := 100000) (k := 1000) (by kernel_rfl)
def hmTreePlaces161 : List HE := hTreePlaces160 :: hmTreePlaces160
theorem hmTreePlaces161_ok : ∀ x ∈ hmTreePlaces161, HOk Try.prog x := hmemo_cons hTreePlaces160_ok hmTreePlaces160_ok
def hTreePlaces161 : HE := ⟨32, [(.agg [(eI 1),(.lit (.int .i64 (Int.negSucc 0))),(.lit (.slice none 0 0))]),(eI 4),(eI 1),(.lit (.int .i64 (Int.negSucc 0)))], [], [((.val eB0), [])]⟩
theorem hTreePlaces161_ok : HOk Try.prog hTreePlaces161 := hok_eq mmTreePlaces_ok hmTreePlaces161_ok folTreePlaces (lf := 100000) (k := 1000) (by kernel_rfl)
def hmTreePlaces162 : List HE := hTreePlaces161 :: hmTreePlaces161
theorem hmTreePlaces162_ok : ∀ x ∈ hmTreePlaces162, HOk Try.prog x := hmemo_cons hTreePlaces161_ok hmTreePlaces161_ok
def hTreePlaces162 : HE := ⟨32, [(.agg [(eI 100),(.lit (.int .i64 (Int.negSucc 0))),(.lit (.slice none 0 0))]),(eI 4),(eI 1),(.lit (.int .i64 (Int.negSucc 1)))], [], [((.val eB0), [])]⟩
theorem hTreePlaces162_ok : HOk Try.prog hTreePlaces162 := hok_eq mmTreePlaces_ok hmTreePlaces162_ok folTreePlaces (lf := 100000) (k := 1000) (by kernel_rfl)
def hmTreePlaces163 : List HE := hTreePlaces162 :: hmTreePlaces162
theorem hmTreePlaces163_ok : ∀ x ∈ hmTreePlaces163, HOk Try.prog x := hmemo_cons hTreePlaces162_ok hmTreePlaces162_ok
def hTreePlaces163 : HE := ⟨32, [(.agg [(eI 100),(eI 0),(.sl 0 2 0 3 none 3)]),(eI 4),(eI 1),(eI 0)], [btreePlaces13, btreePlaces10], [((.val eB0), [])]⟩
theorem hTreePlaces163_ok : HOk Try.prog hTreePlaces163 := hok_eq mmTreePlaces_ok hmTreePlaces163_ok folTreePlaces (lf := 100000) (k := 1000) (by kernel_rfl)
def hmTreePlaces164 : List HE := hTreePlaces163 :: hmTreePlaces163
theorem hmTreePlaces164_ok : ∀ x ∈ hmTreePlaces164, HOk Try.prog x := hmemo_cons hTreePlaces163_ok hmTreePlaces163_ok
def hTreePlaces164 : HE := ⟨32, [(.agg [(eI 100),(eI 0),(.sl 0 2 0 3 none 3)]),(eI 4),(eI 1),(eI 1)], [btreePlaces15, btreePlaces16, btreePlaces10], [((.val eB0), [])]⟩
theorem hTreePlaces164_ok : HOk Try.prog hTreePlaces164 := hok_eq mmTreePlaces_ok hmTreePlaces164_ok folTreePlaces (lf := 100000) (k := 1000) (by kernel_rfl)
def hmTreePlaces165 : List HE := hTreePlaces164 :: hmTreePlaces164
theorem hmTreePlaces165_ok : ∀ x ∈ hmTreePlaces165, HOk Try.prog x := hmemo_cons hTreePlaces164_ok hmTreePlaces164_ok
def hTreePlaces165 : HE := ⟨32, [(.agg [(eI 101),(eI 2),(.lit (.slice none 0 0))]),(eI 4),(eI 1),(eI 0)], [], [((.val eB0), [])]⟩
theorem hTreePlaces165_ok : HOk Try.prog hTreePlaces165 := hok_eq mmTreePlaces_ok hmTreePlaces165_ok folTreePlaces (lf := 100000) (k := 1000) (by kernel_rfl)
def hmTreePlaces166 : List HE := hTreePlaces165 :: hmTreePlaces165
theorem hmTreePlaces166_ok : ∀ x ∈ hmTreePlaces166, HOk Try.prog x := hmemo_cons hTreePlaces165_ok hmTreePlaces165_ok
def hTreePlaces166 : HE := ⟨32, [(.agg [(eI 100),(eI 0),(.sl 0 2 0 3 none 3)]),(eI 4),(eI 1),(.lit (.int .i64 (Int.negSucc 0)))], [btreePlaces13, btreePlaces10], [((.val eB0), [])]⟩
theorem hTreePlaces166_ok : HOk Try.prog hTreePlaces166 := hok_eq mmTreePlaces_ok hmTreePlaces166_ok folTreePlaces (lf := 100000) (k := 1000) (by kernel_rfl)
def hmTreePlaces167 : List HE := hTreePlaces166 :: hmTreePlaces166
theorem hmTreePlaces167_ok : ∀ x ∈ hmTreePlaces167, HOk Try.prog x := hmemo_cons hTreePlaces166_ok hmTreePlaces166_ok
def hTreePlaces167 : HE := ⟨32, [(.agg [(eI 100),(eI 0),(.sl 0 2 0 3 none 3)]),(eI 4),(eI 1),(eI 0)], [btreePlaces15, btreePlaces16, btreePlaces10], [((.val eB0), [])]⟩
theorem hTreePlaces167_ok : HOk Try.prog hTreePlaces167 := hok_eq mmTreePlaces_ok hmTreePlaces167_ok folTreePlaces (lf := 100000) (k := 1000) (by kernel_rfl)
def hmTreePlaces168 : List HE := hTreePlaces167 :: hmTreePlaces167
theorem hmTreePlaces168_ok : ∀ x ∈ hmTreePlaces168, HOk Try.prog x := hmemo_cons hTreePlaces167_ok hmTreePlaces167_ok
def hTreePlaces168 : HE := ⟨32, [(.agg [(eI 100),(eI 0),(.sl 0 2 0 3 none 3)]),(eI 4),(eI 1),(.lit (.int .i64 (Int.negSucc 0)))], [btreePlaces15, btreePlaces16, btreePlaces10], [((.val eB0), [])]⟩
theorem hTreePlaces168_ok : HOk Try.prog hTreePlaces168 := hok_eq mmTreePlaces_ok hmTreePlaces168_ok folTreePlaces (lf := 100000) (k := 1000) (by kernel_rfl)
def hmTreePlaces169 : List HE := hTreePlaces168 :: hmTreePlaces168
theorem hmTreePlaces169_ok : ∀ x ∈ hmTreePlaces169, HOk Try.prog x := hmemo_cons hTreePlaces168_ok hmTreePlaces168_ok
def hTreePlaces169 : HE := ⟨32, [(.agg [(eI 1),(.lit (.int .i64 (Int.negSucc 0))),(.lit (.slice none 0 0))]),(.lit (.int .i64 (Int.negSucc 0))),(eI 0),(eI 0)], [], [((.val eB0), [])]⟩
theorem hTreePlaces169_ok : HOk Try.prog hTreePlaces169 := hok_eq mmTreePlaces_ok hmTreePlaces169_ok folTreePlaces (lf := 100000) (k := 1000) (by kernel_rfl)
def hmTreePlaces170 : List HE := hTreePlaces169 :: hmTreePlaces169
theorem hmTreePlaces170_ok : ∀ x ∈ hmTreePlaces170, HOk Try.prog x := hmemo_cons hTreePlaces169_ok hmTreePlaces169_ok
def btreePlaces17 : Blk := ⟨[(eI 1),(eS [83]),(eI 1),(eI 1),(eI 3),(eS [58]),(eI 1),(eI 2),(eI 2),(eS [97]),(eI 1),(eI 4),(eI 1),(eS [83]),(eI 1),(eI 6),(eI 4),(eS [124]),(eI 1),(eI 8),(eI 2),(eS [98]),(eI 1),(eI 10),(eI 5),(eS []),(eI 1),(eI 11)],85,[(6,28),(5,24),(4,20),(3,16),(2,12),(1,8),(0,4)],7,0,false,6,none⟩
def hTreePlaces170 : HE := ⟨43, [(eS [83,58,32,97,32,83,32,124,32,98,10])], [], [((.val (.tup [(.sl 0 6 0 7 none 4),(eI 0),(eI 0)])), [btreePlaces17])]⟩
theorem hTreePlaces170_ok : HOk Try.prog hTreePlaces170 := hok_eq mmTreePlaces_ok hmTreePlaces170_ok folTreePlaces (lf := 100000) (k := 1000) (by kernel_rfl)
def hmTreePlaces171 : List HE := hTreePlaces170 :: hmTreePlaces170
theorem hmTreePlaces171_ok : ∀ x ∈ hmTreePlaces171, HOk Try.prog x := hmemo_cons hTreePlaces170_ok hmTreePlaces170_ok
def btreePlaces18 : Blk := ⟨[(eS [97]),(eS [98])],9,[(1,2),(0,1)],2,0,false,1,none⟩
def btreePlaces19 : Blk := ⟨[(eS [83])],9,[(0,1)],1,0,false,0,none⟩
def btreePlaces20 : Blk := ⟨[(eI 100),(.sl 3 1 0 2 none 1),(eI 100),(.sl 4 0 0 1 none 1)],57,[(1,4),(0,2)],2,0,false,1,none⟩
def btreePlaces21 : Blk := ⟨[(eI 1),(eI 100)],3,[(1,2),(0,1)],2,0,false,1,none⟩
def hTreePlaces171 : HE := ⟨21, [(eS [83,58,32,97,32,83,32,124,32,98,10])], [], [((.val (.tup [(.agg [(.sl 0 1 0 2 none 1),(.sl 1 0 0 1 none 1),(.sl 2 1 0 2 none 2)]),(eI 0),(eI 0),(eI 0)])), [btreePlaces18, btreePlaces19, btreePlaces20, btreePlaces21, btreePlaces6])]⟩
theorem hTreePlaces171_ok : HOk Try.prog hTreePlaces171 := hok_eq mmTreePlaces_ok hmTreePlaces171_ok folTreePlaces (lf := 100000) (k := 1000) (by kernel_rfl)
def hmTreePlaces172 : List HE := hTreePlaces171 :: hmTreePlaces171
theorem hmTreePlaces172_ok : ∀ x ∈ hmTreePlaces172, HOk Try.prog x := hmemo_cons hTreePlaces171_ok hmTreePlaces171_ok
def hTreePlaces172 : HE := ⟨67, [(eS [83,32,97,32,40,83,32,98,41,41,41]),(eS [32,40,41])], [], [((.val (eI 1)), [])]⟩
theorem hTreePlaces172_ok : HOk Try.prog hTreePlaces172 := hok_eq mmTreePlaces_ok hmTreePlaces172_ok folTreePlaces (lf := 100000) (k := 1000) (by kernel_rfl)
def hmTreePlaces173 : List HE := hTreePlaces172 :: hmTreePlaces172
theorem hmTreePlaces173_ok : ∀ x ∈ hmTreePlaces173, HOk Try.prog x := hmemo_cons hTreePlaces172_ok hmTreePlaces172_ok
def hTreePlaces173 : HE := ⟨67, [(eS [97,32,40,83,32,98,41,41,41]),(eS [32,40,41])], [], [((.val (eI 1)), [])]⟩
theorem hTreePlaces173_ok : HOk Try.prog hTreePlaces173 := hok_eq mmTreePlaces_ok hmTreePlaces173_ok folTreePlaces (lf := 100000) (k := 1000) (by kernel_rfl)
def hmTreePlaces174 : List HE := hTreePlaces173 :: hmTreePlaces173
theorem hmTreePlaces174_ok : ∀ x ∈ hmTreePlaces174, HOk Try.prog x := hmemo_cons hTreePlaces173_ok hmTreePlaces173_ok
def hTreePlaces174 : HE := ⟨67, [(eS [83,32,98,41,41,41]),(eS [32,40,41])], [], [((.val (eI 1)), [])]⟩
theorem hTreePlaces174_ok : HOk Try.prog hTreePlaces174 := hok_eq mmTreePlaces_ok hmTreePlaces174_ok folTreePlaces (lf := 100000) (k := 1000) (by kernel_rfl)
def hmTreePlaces175 : List HE := hTreePlaces174 :: hmTreePlaces174
theorem hmTreePlaces175_ok : ∀ x ∈ hmTreePlaces175, HOk Try.prog x := hmemo_cons hTreePlaces174_ok hmTreePlaces174_ok
def hTreePlaces175 : HE := ⟨72, [(eS [32,40,41]),(.lit (.int .i32 98))], [], [((.val (.lit (.int .i64 (Int.negSucc 0)))), [])]⟩
theorem hTreePlaces175_ok : HOk Try.prog hTreePlaces175 := hok_eq mmTreePlaces_ok hmTreePlaces175_ok folTreePlaces (lf := 100000) (k := 1000) (by kernel_rfl)
def hmTreePlaces176 : List HE := hTreePlaces175 :: hmTreePlaces175
theorem hmTreePlaces176_ok : ∀ x ∈ hmTreePlaces176, HOk Try.prog x := hmemo_cons hTreePlaces175_ok hmTreePlaces175_ok
def hTreePlaces176 : HE := ⟨67, [(eS [98,41,41,41]),(eS [32,40,41])], [], [((.val (eI 1)), [])]⟩
theorem hTreePlaces176_ok : HOk Try.prog hTreePlaces176 := hok_eq mmTreePlaces_ok hmTreePlaces176_ok folTreePlaces (lf := 100000) (k := 1000) (by kernel_rfl)
def hmTreePlaces177 : List HE := hTreePlaces176 :: hmTreePlaces176
theorem hmTreePlaces177_ok : ∀ x ∈ hmTreePlaces177, HOk Try.prog x := hmemo_cons hTreePlaces176_ok hmTreePlaces176_ok
def btreePlaces22 : Blk := ⟨[(eI 1),(.lit (.int .i64 (Int.negSucc 0))),(.lit (.slice none 0 0)),(eI 100),(eI 1),(.sl 6 0 0 1 none 3)],33,[(1,6),(0,3)],2,0,false,1,none⟩
def btreePlaces23 : Blk := ⟨[(eI 2),(.lit (.int .i64 (Int.negSucc 0))),(.lit (.slice none 0 0))],33,[(0,3)],1,0,false,0,none⟩
def hTreePlaces177 : HE := ⟨14, [(.agg [(.sl 0 1 0 2 none 1),(.sl 1 0 0 1 none 1),(.sl 2 1 0 2 none 2)]),(eS [40,83,32,97,32,40,83,32,98,41,41])], [btreePlaces18, btreePlaces19, btreePlaces20, btreePlaces21, btreePlaces6], [((.val (.tup [(.agg [(eI 100),(eI 0),(.sl 5 1 0 2 none 3)]),(eI 0)])), [btreePlaces22, btreePlaces23])]⟩
theorem hTreePlaces177_ok : HOk Try.prog hTreePlaces177 := hok_eq mmTreePlaces_ok hmTreePlaces177_ok folTreePlaces (lf := 100000) (k := 1000) (by kernel_rfl)
def hmTreePlaces178 : List HE := hTreePlaces177 :: hmTreePlaces177
theorem hmTreePlaces178_ok : ∀ x ∈ hmTreePlaces178, HOk Try.prog x := hmemo_cons hTreePlaces177_ok hmTreePlaces177_ok
def hTreePlaces178 : HE := ⟨22, [(.agg [(.sl 0 1 0 2 none 1),(.sl 1 0 0 1 none 1),(.sl 2 1 0 2 none 2)]),(.agg [(eI 1),(.lit (.int .i64 (Int.negSucc 0))),(.lit (.slice none 0 0))]),(eI 1)], [btreePlaces18, btreePlaces19, btreePlaces20, btreePlaces21, btreePlaces6], [((.val eB1), [])]⟩
theorem hTreePlaces178_ok : HOk Try.prog hTreePlaces178 := hok_eq mmTreePlaces_ok hmTreePlaces178_ok folTreePlaces (lf := 100000) (k := 1000) (by kernel_rfl)
def hmTreePlaces179 : List HE := hTreePlaces178 :: hmTreePlaces178
theorem hmTreePlaces179_ok : ∀ x ∈ hmTreePlaces179, HOk Try.prog x := hmemo_cons hTreePlaces178_ok hmTreePlaces178_ok
def hTreePlaces179 : HE := ⟨22, [(.agg [(.sl 0 1 0 2 none 1),(.sl 1 0 0 1 none 1),(.sl 2 1 0 2 none 2)]),(.agg [(eI 2),(.lit (.int .i64 (Int.negSucc 0))),(.lit (.slice none 0 0))]),(eI 2)], [btreePlaces18, btreePlaces19, btreePlaces20, btreePlaces21, btreePlaces6], [((.val eB1), [])]⟩
theorem hTreePlaces179_ok : HOk Try.prog hTreePlaces179 := hok_eq mmTreePlaces_ok hmTreePlaces179_ok folTreePlaces (lf := 100000) (k := 1000) (by kernel_rfl)
def hmTreePlaces180 : List HE := hTreePlaces179 :: hmTreePlaces179
theorem hmTreePlaces180_ok : ∀ x ∈ hmTreePlaces180, HOk Try.prog x := hmemo_cons hTreePlaces179_ok hmTreePlaces179_ok
def hTreePlaces180 : HE := ⟨22, [(.agg [(.sl 0 1 0 2 none 1),(.sl 1 0 0 1 none 1),(.sl 2 1 0 2 none 2)]),(.agg [(eI 100),(eI 1),(.sl 5 0 0 1 none 3)]),(eI 100)], [btreePlaces18, btreePlaces19, btreePlaces20, btreePlaces21, btreePlaces6, btreePlaces23], [((.val eB1), [])]⟩
theorem hTreePlaces180_ok : HOk Try.prog hTreePlaces180 := hok_eq mmTreePlaces_ok hmTreePlaces180_ok folTreePlaces (lf := 100000) (k := 1000) (by kernel_rfl)
def hmTreePlaces181 : List HE := hTreePlaces180 :: hmTreePlaces180
theorem hmTreePlaces181_ok : ∀ x ∈ hmTreePlaces181, HOk Try.prog x := hmemo_cons hTreePlaces180_ok hmTreePlaces180_ok
def hTreePlaces181 : HE := ⟨22, [(.agg [(.sl 0 1 0 2 none 1),(.sl 1 0 0 1 none 1),(.sl 2 1 0 2 none 2)]),(.agg [(eI 100),(eI 0),(.sl 5 1 0 2 none 3)]),(eI 100)], [btreePlaces18, btreePlaces19, btreePlaces20, btreePlaces21, btreePlaces6, btreePlaces22, btreePlaces23], [((.val eB1), [])]⟩
theorem hTreePlaces181_ok : HOk Try.prog hTreePlaces181 := hok_eq mmTreePlaces_ok hmTreePlaces181_ok folTreePlaces (lf := 100000) (k := 1000) (by kernel_rfl)
def hmTreePlaces182 : List HE := hTreePlaces181 :: hmTreePlaces181
theorem hmTreePlaces182_ok : ∀ x ∈ hmTreePlaces182, HOk Try.prog x := hmemo_cons hTreePlaces181_ok hmTreePlaces181_ok
def hTreePlaces182 : HE := ⟨23, [(.agg [(.sl 0 1 0 2 none 1),(.sl 1 0 0 1 none 1),(.sl 2 1 0 2 none 2)]),(.agg [(eI 100),(eI 0),(.sl 5 1 0 2 none 3)])], [btreePlaces18, btreePlaces19, btreePlaces20, btreePlaces21, btreePlaces6, btreePlaces22, btreePlaces23], [((.val (eS [40,83,32,97,32,40,83,32,98,41,41])), [])]⟩
theorem hTreePlaces182_ok : HOk Try.prog hTreePlaces182 := hok_eq mmTreePlaces_ok hmTreePlaces182_ok folTreePlaces (lf := 100000) (k := 1000) (by kernel_rfl)
def hmTreePlaces183 : List HE := hTreePlaces182 :: hmTreePlaces182
theorem hmTreePlaces183_ok : ∀ x ∈ hmTreePlaces183, HOk Try.prog x := hmemo_cons hTreePlaces182_ok hmTreePlaces182_ok
def hTreePlaces183 : HE := ⟨25, [(.agg [(eI 2),(.lit (.int .i64 (Int.negSucc 0))),(.lit (.slice none 0 0))])], [], [((.val (.sl 0 0 0 1 (some 1) 1)), [btreePlaces6])]⟩
theorem hTreePlaces183_ok : HOk Try.prog hTreePlaces183 := hok_eq mmTreePlaces_ok hmTreePlaces183_ok folTreePlaces (lf := 100000) (k := 1000) (by kernel_rfl)
def hmTreePlaces184 : List HE := hTreePlaces183 :: hmTreePlaces183
theorem hmTreePlaces184_ok : ∀ x ∈ hmTreePlaces184, HOk Try.prog x := hmemo_cons hTreePlaces183_ok hmTreePlaces183_ok
def hTreePlaces184 : HE := ⟨25, [(.agg [(eI 100),(eI 1),(.sl 0 0 0 1 none 3)])], [btreePlaces23], [((.val (.sl 1 0 0 1 none 1)), [btreePlaces6])]⟩
theorem hTreePlaces184_ok : HOk Try.prog hTreePlaces184 := hok_eq mmTreePlaces_ok hmTreePlaces184_ok folTreePlaces (lf := 100000) (k := 1000) (by kernel_rfl)
def hmTreePlaces185 : List HE := hTreePlaces184 :: hmTreePlaces184
theorem hmTreePlaces185_ok : ∀ x ∈ hmTreePlaces185, HOk Try.prog x := hmemo_cons hTreePlaces184_ok hmTreePlaces184_ok
def btreePlaces24 : Blk := ⟨[(eI 1),(.lit (.int .i64 (Int.negSucc 0))),(.lit (.slice none 0 0)),(eI 100),(eI 1),(.sl 1 0 0 1 none 3)],33,[(1,6),(0,3)],2,0,false,1,none⟩
def btreePlaces25 : Blk := ⟨[(eI 1),(eI 2)],3,[(1,2),(0,1)],2,0,false,1,none⟩
def hTreePlaces185 : HE := ⟨25, [(.agg [(eI 100),(eI 0),(.sl 0 1 0 2 none 3)])], [btreePlaces24, btreePlaces23], [((.val (.sl 2 1 0 2 none 1)), [btreePlaces25])]⟩
theorem hTreePlaces185_ok : HOk Try.prog hTreePlaces185 := hok_eq mmTreePlaces_ok hmTreePlaces185_ok folTreePlaces (lf := 100000) (k := 1000) (by kernel_rfl)
def hmTreePlaces186 : List HE := hTreePlaces185 :: hmTreePlaces185
theorem hmTreePlaces186_ok : ∀ x ∈ hmTreePlaces186, HOk Try.prog x := hmemo_cons hTreePlaces185_ok hmTreePlaces185_ok
def btreePlaces26 : Blk := ⟨[(eI 1),(eI 2)],3,[(0,2)],1,0,false,0,none⟩
def hTreePlaces186 : HE := ⟨24, [(.sl 0 1 0 2 none 1),(.sl 1 0 0 2 (some 2) 1)], [btreePlaces25, btreePlaces26], [((.val eB1), [])]⟩
theorem hTreePlaces186_ok : HOk Try.prog hTreePlaces186 := hok_eq mmTreePlaces_ok hmTreePlaces186_ok folTreePlaces (lf := 100000) (k := 1000) (by kernel_rfl)
def hmTreePlaces187 : List HE := hTreePlaces186 :: hmTreePlaces186
theorem hmTreePlaces187_ok : ∀ x ∈ hmTreePlaces187, HOk Try.prog x := hmemo_cons hTreePlaces186_ok hmTreePlaces186_ok
def hTreePlaces187 : HE := ⟨20, [], [], [((.val eB1), [])]⟩
theorem hTreePlaces187_ok : HOk Try.prog hTreePlaces187 := hok_eq mmTreePlaces_ok hmTreePlaces187_ok folTreePlaces (lf := 100000) (k := 1000) (by kernel_rfl)
def hmTreePlaces188 : List HE := hTreePlaces187 :: hmTreePlaces187
theorem hmTreePlaces188_ok : ∀ x ∈ hmTreePlaces188, HOk Try.prog x := hmemo_cons hTreePlaces187_ok hmTreePlaces187_ok
def hTreePlaces188 : HE := ⟨32, [(.agg [(eI 101),(eI 2),(.lit (.slice none 0 0))]),(eI 4),(eI 0),(eI 4)], [], [((.val eB0), [])]⟩
theorem hTreePlaces188_ok : HOk Try.prog hTreePlaces188 := hok_eq mmTreePlaces_ok hmTreePlaces188_ok folTreePlaces (lf := 100000) (k := 1000) (by kernel_rfl)
def hmTreePlaces189 : List HE := hTreePlaces188 :: hmTreePlaces188
theorem hmTreePlaces189_ok : ∀ x ∈ hmTreePlaces189, HOk Try.prog x := hmemo_cons hTreePlaces188_ok hmTreePlaces188_ok
def hTreePlaces189 : HE := ⟨32, [(.agg [(eI 1),(.lit (.int .i64 (Int.negSucc 0))),(.lit (.slice none 0 0))]),(eI 4),(eI 0),(eI 4)], [], [((.val eB0), [])]⟩
theorem hTreePlaces189_ok : HOk Try.prog hTreePlaces189 := hok_eq mmTreePlaces_ok hmTreePlaces189_ok folTreePlaces (lf := 100000) (k := 1000) (by kernel_rfl)
def hmTreePlaces190 : List HE := hTreePlaces189 :: hmTreePlaces189
theorem hmTreePlaces190_ok : ∀ x ∈ hmTreePlaces190, HOk Try.prog x := hmemo_cons hTreePlaces189_ok hmTreePlaces189_ok
def hTreePlaces190 : HE := ⟨32, [(.agg [(eI 3),(.lit (.int .i64 (Int.negSucc 0))),(.lit (.slice none 0 0))]),(eI 4),(eI 0),(eI 3)], [], [((.val eB0), [])]⟩
theorem hTreePlaces190_ok : HOk Try.prog hTreePlaces190 := hok_eq mmTreePlaces_ok hmTreePlaces190_ok folTreePlaces (lf := 100000) (k := 1000) (by kernel_rfl)
def hmTreePlaces191 : List HE := hTreePlaces190 :: hmTreePlaces190
theorem hmTreePlaces191_ok : ∀ x ∈ hmTreePlaces191, HOk Try.prog x := hmemo_cons hTreePlaces190_ok hmTreePlaces190_ok
def hTreePlaces191 : HE := ⟨32, [(.agg [(eI 101),(eI 3),(.sl 0 0 0 1 none 3)]),(eI 4),(eI 0),(eI 3)], [btreePlaces10], [((.val eB0), [])]⟩
theorem hTreePlaces191_ok : HOk Try.prog hTreePlaces191 := hok_eq mmTreePlaces_ok hmTreePlaces191_ok folTreePlaces (lf := 100000) (k := 1000) (by kernel_rfl)
def hmTreePlaces192 : List HE := hTreePlaces191 :: hmTreePlaces191
theorem hmTreePlaces192_ok : ∀ x ∈ hmTreePlaces192, HOk Try.prog x := hmemo_cons hTreePlaces191_ok hmTreePlaces191_ok
def hTreePlaces192 : HE := ⟨32, [(.agg [(eI 1),(.lit (.int .i64 (Int.negSucc 0))),(.lit (.slice none 0 0))]),(eI 4),(eI 0),(eI 2)], [], [((.val eB0), [])]⟩
theorem hTreePlaces192_ok : HOk Try.prog hTreePlaces192 := hok_eq mmTreePlaces_ok hmTreePlaces192_ok folTreePlaces (lf := 100000) (k := 1000) (by kernel_rfl)
def hmTreePlaces193 : List HE := hTreePlaces192 :: hmTreePlaces192
theorem hmTreePlaces193_ok : ∀ x ∈ hmTreePlaces193, HOk Try.prog x := hmemo_cons hTreePlaces192_ok hmTreePlaces192_ok
def hTreePlaces193 : HE := ⟨32, [(.agg [(eI 100),(.lit (.int .i64 (Int.negSucc 0))),(.lit (.slice none 0 0))]),(eI 4),(eI 0),(eI 1)], [], [((.val eB0), [])]⟩
theorem hTreePlaces193_ok : HOk Try.prog hTreePlaces193 := hok_eq mmTreePlaces_ok hmTreePlaces193_ok folTreePlaces (lf := 100000) (k := 1000) (by kernel_rfl)
def hmTreePlaces194 : List HE := hTreePlaces193 :: hmTreePlaces193
theorem hmTreePlaces194_ok : ∀ x ∈ hmTreePlaces194, HOk Try.prog x := hmemo_cons hTreePlaces193_ok hmTreePlaces193_ok
def hTreePlaces194 : HE := ⟨32, [(.agg [(eI 100),(eI 0),(.sl 0 2 0 3 none 3)]),(eI 4),(eI 0),(eI 3)], [btreePlaces13, btreePlaces10], [((.val eB0), [])]⟩
theorem hTreePlaces194_ok : HOk Try.prog hTreePlaces194 := hok_eq mmTreePlaces_ok hmTreePlaces194_ok folTreePlaces (lf := 100000) (k := 1000) (by kernel_rfl)
def hmTreePlaces195 : List HE := hTreePlaces194 :: hmTreePlaces194
theorem hmTreePlaces195_ok : ∀ x ∈ hmTreePlaces195, HOk Try.prog x := hmemo_cons hTreePlaces194_ok hmTreePlaces194_ok
def hTreePlaces195 : HE := ⟨32, [(.agg [(eI 100),(eI 0),(.sl 0 2 0 3 none 3)]),(eI 4),(eI 0),(eI 4)], [btreePlaces15, btreePlaces16, btreePlaces10], [((.val eB0), [])]⟩
theorem hTreePlaces195_ok : HOk Try.prog hTreePlaces195 := hok_eq mmTreePlaces_ok hmTreePlaces195_ok folTreePlaces (lf := 100000) (k := 1000) (by kernel_rfl)
def hmTreePlaces196 : List HE := hTreePlaces195 :: hmTreePlaces195
theorem hmTreePlaces196_ok : ∀ x ∈ hmTreePlaces196, HOk Try.prog x := hmemo_cons hTreePlaces195_ok hmTreePlaces195_ok
def hTreePlaces196 : HE := ⟨32, [(.agg [(eI 101),(eI 2),(.lit (.slice none 0 0))]),(eI 4),(eI 0),(eI 3)], [], [((.val eB0), [])]⟩
theorem hTreePlaces196_ok : HOk Try.prog hTreePlaces196 := hok_eq mmTreePlaces_ok hmTreePlaces196_ok folTreePlaces (lf := 100000) (k := 1000) (by kernel_rfl)
def hmTreePlaces197 : List HE := hTreePlaces196 :: hmTreePlaces196
theorem hmTreePlaces197_ok : ∀ x ∈ hmTreePlaces197, HOk Try.prog x := hmemo_cons hTreePlaces196_ok hmTreePlaces196_ok
def hTreePlaces197 : HE := ⟨32, [(.agg [(eI 1),(.lit (.int .i64 (Int.negSucc 0))),(.lit (.slice none 0 0))]),(eI 4),(eI 0),(eI 3)], [], [((.val eB0), [])]⟩
theorem hTreePlaces197_ok : HOk Try.prog hTreePlaces197 := hok_eq mmTreePlaces_ok hmTreePlaces197_ok folTreePlaces (lf := 100000) (k := 1000) (by kernel_rfl)
def hmTreePlaces198 : List HE := hTreePlaces197 :: hmTreePlaces197
theorem hmTreePlaces198_ok : ∀ x ∈ hmTreePlaces198, HOk Try.prog x := hmemo_cons hTreePlaces197_ok hmTreePlaces197_ok
def hTreePlaces198 : HE := ⟨32, [(.agg [(eI 3),(.lit (.int .i64 (Int.negSucc 0))),(.lit (.slice none 0 0))]),(eI 4),(eI 0),(eI 2)], [], [((.val eB0), [])]⟩
theorem hTreePlaces198_ok : HOk Try.prog hTreePlaces198 := hok_eq mmTreePlaces_ok hmTreePlaces198_ok folTreePlaces (lf := 100000) (k := 1000) (by kernel_rfl)
def hmTreePlaces199 : List HE := hTreePlaces198 :: hmTreePlaces198
theorem hmTreePlaces199_ok : ∀ x ∈ hmTreePlaces199, HOk Try.prog x := hmemo_cons hTreePlaces198_ok hmTreePlaces198_ok
def hTreePlaces199 : HE := ⟨32, [(.agg [(eI 101),(eI 3),(.sl 0 0 0 1 none 3)]),(eI 4),(eI 0),(eI 2)], [btreePlaces10], [((.val eB0), [])]⟩
theorem hTreePlaces199_ok : HOk Try.prog hTreePlaces199 := hok_eq mmTreePlaces_ok hmTreePlaces199_ok folTreePlaces (lf := 100000) (k := 1000) (by kernel_rfl)
def hmTreePlaces200 : List HE := hTreePlaces199 :: hmTreePlaces199
theorem hmTreePlaces200_ok : ∀ x ∈ hmTreePlaces200, HOk Try.prog x := hmemo_cons hTreePlaces199_ok hmTreePlaces199_ok
def hTreePlaces200 : HE := ⟨32, [(.agg [(eI 1),(.lit (.int .i64 (Int.negSucc 0))),(.lit (.slice none 0 0))]),(eI 4),(eI 0),(eI 1)], [], [((.val eB0), [])]⟩
theorem hTreePlaces200_ok : HOk Try.prog hTreePlaces200 := hok_eq mmTreePlaces_ok hmTreePlaces200_ok folTreePlaces (lf := 100000) (k := 1000) (by kernel_rfl)
def hmTreePlaces201 : List HE := hTreePlaces200 :: hmTreePlaces200
theorem hmTreePlaces201_ok : ∀ x ∈ hmTreePlaces201, HOk Try.prog x := hmemo_cons hTreePlaces200_ok hmTreePlaces200_ok
def hTreePlaces201 : HE := ⟨32, [(.agg [(eI 100),(.lit (.int .i64 (Int.negSucc 0))),(.lit (.slice none 0 0))]),(eI 4),(eI 0),(eI 0)], [], [((.val eB0), [])]⟩
theorem hTreePlaces201_ok : HOk Try.prog hTreePlaces201 := hok_eq mmTreePlaces_ok hmTreePlaces201_ok folTreePlaces (lf := 100000) (k := 1000) (by kernel_rfl)
def hmTreePlaces202 : List HE := hTreePlaces201 :: hmTreePlaces201
theorem hmTreePlaces202_ok : ∀ x ∈ hmTreePlaces202, HOk Try.prog x := hmemo_cons hTreePlaces201_ok hmTreePlaces201_ok
def hTreePlaces202 : HE := ⟨32, [(.agg [(eI 100),(eI 0),(.sl 0 2 0 3 none 3)]),(eI 4),(eI 0),(eI 2)], [btreePlaces13, btreePlaces10], [((.val eB0), [])]⟩
theorem hTreePlaces202_ok : HOk Try.prog hTreePlaces202 := hok_eq mmTreePlaces_ok hmTreePlaces202_ok folTreePlaces (lf := 100000) (k := 1000) (by kernel_rfl)
def hmTreePlaces203 : List HE := hTreePlaces202 :: hmTreePlaces202
theorem hmTreePlaces203_ok : ∀ x ∈ hmTreePlaces203, HOk Try.prog x := hmemo_cons hTreePlaces202_ok hmTreePlaces202_ok
def hTreePlaces203 : HE := ⟨32, [(.agg [(eI 100),(eI 0),(.sl 0 2 0 3 none 3)]),(eI 4),(eI 0),(eI 3)], [btreePlaces15, btreePlaces16, btreePlaces10], [((.val eB0), [])]⟩
theorem hTreePlaces203_ok : HOk Try.prog hTreePlaces203 := hok_eq mmTreePlaces_ok hmTreePlaces203_ok folTreePlaces (lf := 100000) (k := 1000) (by kernel_rfl)
def hmTreePlaces204 : List HE := hTreePlaces203 :: hmTreePlaces203
theorem hmTreePlaces204_ok : ∀ x ∈ hmTreePlaces204, HOk Try.prog x := hmemo_cons hTreePlaces203_ok hmTreePlaces203_ok
def hTreePlaces204 : HE := ⟨32, [(.agg [(eI 101),(eI 2),(.lit (.slice none 0 0))]),(eI 4),(eI 0),(eI 2)], [], [((.val eB0), [])]⟩
theorem hTreePlaces204_ok : HOk Try.prog hTreePlaces204 := hok_eq mmTreePlaces_ok hmTreePlaces204_ok folTreePlaces (lf := 100000) (k := 1000) (by kernel_rfl)
def hmTreePlaces205 : List HE := hTreePlaces204 :: hmTreePlaces204
theorem hmTreePlaces205_ok : ∀ x ∈ hmTreePlaces205, HOk Try.prog x := hmemo_cons hTreePlaces204_ok hmTreePlaces204_ok
def hTreePlaces205 : HE := ⟨32, [(.agg [(eI 3),(.lit (.int .i64 (Int.negSucc 0))),(.lit (.slice none 0 0))]),(eI 4),(eI 0),(eI 1)], [], [((.val eB0), [])]⟩
theorem hTreePlaces205_ok : HOk Try.prog hTreePlaces205 := hok_eq mmTreePlaces_ok hmTreePlaces205_ok folTreePlaces (lf := 100000) (k := 1000) (by kernel_rfl)
def hmTreePlaces206 : List HE := hTreePlaces205 :: hmTreePlaces205
theorem hmTreePlaces206_ok : ∀ x ∈ hmTreePlaces206, HOk Try.prog x := hmemo_cons hTreePlaces205_ok hmTreePlaces205_ok
def hTreePlaces206 : HE := ⟨32, [(.agg [(eI 101),(eI 3),(.sl 0 0 0 1 none 3)]),(eI 4),(eI 0),(eI 1)], [btreePlaces10], [((.val eB0), [])]⟩
theorem hTreePlaces206_ok : HOk Try.prog hTreePlaces206 := hok_eq mmTreePlaces_ok hmTreePlaces206_ok folTreePlaces (lf := 100000) (k := 1000) (by kernel_rfl)
def hmTreePlaces207 : List HE := hTreePlaces206 :: hmTreePlaces206
theorem hmTreePlaces207_ok : ∀ x ∈ hmTreePlaces207, HOk Try.prog x := hmemo_cons hTreePlaces206_ok hmTreePlaces206_ok
def hTreePlaces207 : HE := ⟨32, [(.agg [(eI 1),(.lit (.int .i64 (Int.negSucc 0))),(.lit (.slice none 0 0))]),(eI 4),(eI 0),(eI 0)], [], [((.val eB0), [])]⟩
theorem hTreePlaces207_ok : HOk Try.prog hTreePlaces207 := hok_eq mmTreePlaces_ok hmTreePlaces207_ok folTreePlaces (lf := 100000) (k := 1000) (by kernel_rfl)
def hmTreePlaces208 : List HE := hTreePlaces207 :: hmTreePlaces207
theorem hmTreePlaces208_ok : ∀ x ∈ hmTreePlaces208, HOk Try.prog x := hmemo_cons hTreePlaces207_ok hmTreePlaces207_ok
def hTreePlaces208 : HE := ⟨32, [(.agg [(eI 100),(.lit (.int .i64 (Int.negSucc 0))),(.lit (.slice none 0 0))]),(eI 4),(eI 0),(.lit (.int .i64 (Int.negSucc 0)))], [], [((.val eB0), [])]⟩
theorem hTreePlaces208_ok : HOk Try.prog hTreePlaces208 := hok_eq mmTreePlaces_ok hmTreePlaces208_ok folTreePlaces (lf := 100000) (k := 1000) (by kernel_rfl)
def hmTreePlaces209 : List HE := hTreePlaces208 :: hmTreePlaces208
theorem hmTreePlaces209_ok : ∀ x ∈ hmTreePlaces209, HOk Try.prog x := hmemo_cons hTreePlaces208_ok hmTreePlaces208_ok
def hTreePlaces209 : HE := ⟨32, [(.agg [(eI 100),(eI 0),(.sl 0 2 0 3 none 3)]),(eI 4),(eI 0),(eI 1)], [btreePlaces13, btreePlaces10], [((.val eB0), [])]⟩
theorem hTreePlaces209_ok : HOk Try.prog hTreePlaces209 := hok_eq mmTreePlaces_ok hmTreePlaces209_ok folTreePlaces (lf := 100000) (k := 1000) (by kernel_rfl)
def hmTreePlaces210 : List HE := hTreePlaces209 :: hmTreePlaces209
theorem hmTreePlaces210_ok : ∀ x ∈ hmTreePlaces210, HOk Try.prog x := hmemo_cons hTreePlaces209_ok hmTreePlaces209_ok
def hTreePlaces210 : HE := ⟨32, [(.agg [(eI 100),(eI 0),(.sl 0 2 0 3 none 3)]),(eI 4),(eI 0),(eI 2)], [btreePlaces15, btreePlaces16, btreePlaces10], [((.val eB0), [])]⟩
theorem hTreePlaces210_ok : HOk Try.prog hTreePlaces210 := hok_eq mmTreePlaces_ok hmTreePlaces210_ok folTreePlaces (lf := 100000) (k := 1000) (by kernel_rfl)
def hmTreePlaces211 : List HE := hTreePlaces210 :: hmTreePlaces210
theorem hmTreePlaces211_ok : ∀ x ∈ hmTreePlaces211, HOk Try.prog x := hmemo_cons hTreePlaces210_ok hmTreePlaces210_ok
def hTreePlaces211 : HE := ⟨32, [(.agg [(eI 101),(eI 2),(.lit (.slice none 0 0))]),(eI 4),(eI 0),(eI 1)], [], [((.val eB0), [])]⟩
theorem hTreePlaces211_ok : HOk Try.prog hTreePlaces211 := hok_eq mmTreePlaces_ok hmTreePlaces211_ok folTreePlaces (lf := 100000) (k := 1000) (by kernel_rfl)
def hmTreePlaces212 : List HE := hTreePlaces211 :: hmTreePlaces211
theorem hmTreePlaces212_ok : ∀ x ∈ hmTreePlaces212, HOk Try.prog x := hmemo_cons hTreePlaces211_ok hmTreePlaces211_ok
def hTreePlaces212 : HE := ⟨32, [(.agg [(eI 3),(.lit (.int .i64 (Int.negSucc 0))),(.lit (.slice none 0 0))]),(eI 4),(eI 0),(eI 0)], [], [((.val eB0), [])]⟩
theorem hTreePlaces212_ok : HOk Try.prog hTreePlaces212 := hok_eq mmTreePlaces_ok hmTreePlaces212_ok folTreePlaces (lf := 100000) (k := 1000) (by kernel_rfl)
def hmTreePlaces213 : List HE := hTreePlaces212 :: hmTreePlaces212
theorem hmTreePlaces213_ok : ∀ x ∈ hmTreePlaces213, HOk Try.prog x := hmemo_cons hTreePlaces212_ok hmTreePlaces212_ok
def hTreePlaces213 : HE := ⟨32, [(.agg [(eI 101),(eI 3),(.sl 0 0 0 1 none 3)]),(eI 4),(eI 0),(eI 0)], [btreePlaces10], [((.val eB0), [])]⟩
theorem hTreePlaces213_ok : HOk Try.prog hTreePlaces213 := hok_eq mmTreePlaces_ok hmTreePlaces213_ok folTreePlaces (lf := 100000) (k := 1000) (by kernel_rfl)
def hmTreePlaces214 : List HE := hTreePlaces213 :: hmTreePlaces213
theorem hmTreePlaces214_ok : ∀ x ∈ hmTreePlaces214, HOk Try.prog x := hmemo_cons hTreePlaces213_ok hmTreePlaces213_ok
def hTreePlaces214 : HE := ⟨32, [(.agg [(eI 1),(.lit (.int .i64 (Int.negSucc 0))),(.lit (.slice none 0 0))]),(eI 4),(eI 0),(.lit (.int .i64 (Int.negSucc 0)))], [], [((.val eB0), [])]⟩
theorem hTreePlaces214_ok : HOk Try.prog hTreePlaces214 := hok_eq mmTreePlaces_ok hmTreePlaces214_ok folTreePlaces (lf := 100000) (k := 1000) (by kernel_rfl)
def hmTreePlaces215 : List HE := hTreePlaces214 :: hmTreePlaces214
theorem hmTreePlaces215_ok : ∀ x ∈ hmTreePlaces215, HOk Try.prog x := hmemo_cons hTreePlaces214_ok hmTreePlaces214_ok
def hTreePlaces215 : HE := ⟨32, [(.agg [(eI 100),(.lit (.int .i64 (Int.negSucc 0))),(.lit (.slice none 0 0))]),(eI 4),(eI 0),(.lit (.int .i64 (Int.negSucc 1)))], [], [((.val eB0), [])]⟩
theorem hTreePlaces215_ok : HOk Try.prog hTreePlaces215 := hok_eq mmTreePlaces_ok hmTreePlaces215_ok folTreePlaces (lf := 100000) (k := 1000) (by kernel_rfl)
def hmTreePlaces216 : List HE := hTreePlaces215 :: hmTreePlaces215
theorem hmTreePlaces216_ok : ∀ x ∈ hmTreePlaces216, HOk Try.prog x := hmemo_cons hTreePlaces215_ok hmTreePlaces215_ok
def hTreePlaces216 : HE := ⟨32, [(.agg [(eI 100),(eI 0),(.sl 0 2 0 3 none 3)]),(eI 4),(eI 0),(eI 0)], [btreePlaces13, btreePlaces10], [((.val eB0), [])]⟩
theorem hTreePlaces216_ok : HOk Try.prog hTreePlaces216 := hok_eq mmTreePlaces_ok hmTreePlaces216_ok folTreePlaces (lf := 100000) (k := 1000) (by kernel_rfl)
def hmTreePlaces217 : List HE := hTreePlaces216 :: hmTreePlaces216
theorem hmTreePlaces217_ok : ∀ x ∈ hmTreePlaces217, HOk Try.prog x := hmemo_cons hTreePlaces216_ok hmTreePlaces216_ok
def hTreePlaces217 : HE := ⟨32, [(.agg [(eI 100),(eI 0),(.sl 0 2 0 3 none 3)]),(eI 4),(eI 0),(eI 1)], [btreePlaces15, btreePlaces16, btreePlaces10], [((.val eB0), [])]⟩
theorem hTreePlaces217_ok : HOk Try.prog hTreePlaces217 := hok_eq mmTreePlaces_ok hmTreePlaces217_ok folTreePlaces (lf := 100000) (k := 1000) (by kernel_rfl)
def hmTreePlaces218 : List HE := hTreePlaces217 :: hmTreePlaces217
theorem hmTreePlaces218_ok : ∀ x ∈ hmTreePlaces218, HOk Try.prog x := hmemo_cons hTreePlaces217_ok hmTreePlaces217_ok
def hTreePlaces218 : HE := ⟨32, [(.agg [(eI 101),(eI 2),(.lit (.slice none 0 0))]),(eI 4),(eI 0),(eI 0)], [], [((.val eB0), [])]⟩
theorem hTreePlaces218_ok : HOk Try.prog hTreePlaces218 := hok_eq mmTreePlaces_ok hmTreePlaces218_ok folTreePlaces (lf := 100000) (k := 1000) (by kernel_rfl)
def hmTreePlaces219 : List HE := hTreePlaces218 :: hmTreePlaces218
theorem hmTreePlaces219_ok : ∀ x ∈ hmTreePlaces219, HOk Try.prog x := hmemo_cons hTreePlaces218_ok hmTreePlaces218_ok
def hTreePlaces219 : HE := ⟨32, [(.agg [(eI 100),(eI 0),(.sl 0 2 0 3 none 3)]),(eI 4),(eI 0),(.lit (.int .i64 (Int.negSucc 0)))], [btreePlaces13, btreePlaces10], [((.val eB0), [])]⟩
theorem hTreePlaces219_ok : HOk Try.prog hTreePlaces219 := hok_eq mmTreePlaces_ok hmTreePlaces219_ok folTreePlaces (lf := 100000) (k := 1000) (by kernel_rfl)
def hmTreePlaces220 : List HE := hTreePlaces219 :: hmTreePlaces219
theorem hmTreePlaces220_ok : ∀ x ∈ hmTreePlaces220, HOk Try.prog x := hmemo_cons hTreePlaces219_ok hmTreePlaces219_ok
def hTreePlaces220 : HE := ⟨32, [(.agg [(eI 100),(eI 0),(.sl 0 2 0 3 none 3)]),(eI 4),(eI 0),(eI 0)], [btreePlaces15, btreePlaces16, btreePlaces10], [((.val eB0), [])]⟩
theorem hTreePlaces220_ok : HOk Try.prog hTreePlaces220 := hok_eq mmTreePlaces_ok hmTreePlaces220_ok folTreePlaces (lf := 100000) (k := 1000) (by kernel_rfl)
def hmTreePlaces221 : List HE := hTreePlaces220 :: hmTreePlaces220
theorem hmTreePlaces221_ok : ∀ x ∈ hmTreePlaces221, HOk Try.prog x := hmemo_cons hTreePlaces220_ok hmTreePlaces220_ok
def hTreePlaces221 : HE := ⟨32, [(.agg [(eI 100),(eI 0),(.sl 0 2 0 3 none 3)]),(eI 4),(eI 0),(.lit (.int .i64 (Int.negSucc 0)))], [btreePlaces15, btreePlaces16, btreePlaces10], [((.val eB0), [])]⟩
theorem hTreePlaces221_ok : HOk Try.prog hTreePlaces221 := hok_eq mmTreePlaces_ok hmTreePlaces221_ok folTreePlaces (lf := 100000) (k := 1000) (by kernel_rfl)
def hmTreePlaces222 : List HE := hTreePlaces221 :: hmTreePlaces221
theorem hmTreePlaces222_ok : ∀ x ∈ hmTreePlaces222, HOk Try.prog x := hmemo_cons hTreePlaces221_ok hmTreePlaces221_ok
def hTreePlaces222 : HE := ⟨32, [(.agg [(eI 101),(eI 2),(.lit (.slice none 0 0))]),(eI 4),(.lit (.int .i64 (Int.negSucc 0))),(eI 4)], [], [((.val eB0), [])]⟩
theorem hTreePlaces222_ok : HOk Try.prog hTreePlaces222 := hok_eq mmTreePlaces_ok hmTreePlaces222_ok folTreePlaces (lf := 100000) (k := 1000) (by kernel_rfl)
def hmTreePlaces223 : List HE := hTreePlaces222 :: hmTreePlaces222
theorem hmTreePlaces223_ok : ∀ x ∈ hmTreePlaces223, HOk Try.prog x := hmemo_cons hTreePlaces222_ok hmTreePlaces222_ok
def hTreePlaces223 : HE := ⟨32, [(.agg [(eI 1),(.lit (.int .i64 (Int.negSucc 0))),(.lit (.slice none 0 0))]),(eI 4),(.lit (.int .i64 (Int.negSucc 0))),(eI 4)], [], [((.val eB0), [])]⟩
theorem hTreePlaces223_ok : HOk Try.prog hTreePlaces223 := hok_eq mmTreePlaces_ok hmTreePlaces223_ok folTreePlaces (lf := 100000) (k := 1000) (by kernel_rfl)
def hmTreePlaces224 : List HE := hTreePlaces223 :: hmTreePlaces223
theorem hmTreePlaces224_ok : ∀ x ∈ hmTreePlaces224, HOk Try.prog x := hmemo_cons hTreePlaces223_ok hmTreePlaces223_ok
def hTreePlaces224 : HE := ⟨32, [(.agg [(eI 3),(.lit (.int .i64 (Int.negSucc 0))),(.lit (.slice none 0 0))]),(eI 4),(.lit (.int .i64 (Int.negSucc 0))),(eI 3)], [], [((.val eB0), [])]⟩
theorem hTreePlaces224_ok : HOk Try.prog hTreePlaces224 := hok_eq mmTreePlaces_ok hmTreePlaces224_ok folTreePlaces (lf := 100000) (k := 1000) (by kernel_rfl)
def hmTreePlaces225 : List HE := hTreePlaces224 :: hmTreePlaces224
theorem hmTreePlaces225_ok : ∀ x ∈ hmTreePlaces225, HOk Try.prog x := hmemo_cons hTreePlaces224_ok hmTreePlaces224_ok
def hTreePlaces225 : HE := ⟨32, [(.agg [(eI 101),(eI 3),(.sl 0 0 0 1 none 3)]),(eI 4),(.lit (.int .i64 (Int.negSucc 0))),(eI 3)], [btreePlaces10], [((.val eB0), [])]⟩
theorem hTreePlaces225_ok : HOk Try.prog hTreePlaces225 := hok_eq mmTreePlaces_ok hmTreePlaces225_ok folTreePlaces (lf := 100000) (k := 1000) (by kernel_rfl)
def hmTreePlaces226 : List HE := hTreePlaces225 :: hmTreePlaces225
theorem hmTreePlaces226_ok : ∀ x ∈ hmTreePlaces226, HOk Try.prog x := hmemo_cons hTreePlaces225_ok hmTreePlaces225_ok
def hTreePlaces226 : HE := ⟨32, [(.agg [(eI 1),(.lit (.int .i64 (Int.negSucc 0))),(.lit (.slice none 0 0))]),(eI 4),(.lit (.int .i64 (Int.negSucc 0))),(eI 2)], [], [((.val eB0), [])]⟩
theorem hTreePlaces226_ok : HOk Try.prog hTreePlaces226 := hok_eq mmTreePlaces_ok hmTreePlaces226_ok folTreePlaces (lf := 100000) (k := 1000) (by kernel_rfl)
def hmTreePlaces227 : List HE := hTreePlaces226 :: hmTreePlaces226
theorem hmTreePlaces227_ok : ∀ x ∈ hmTreePlaces227, HOk Try.prog x := hmemo_cons hTreePlaces226_ok hmTreePlaces226_ok
def hTreePlaces227 : HE := ⟨32, [(.agg [(eI 100),(.lit (.int .i64 (Int.negSucc 0))),(.lit (.slice none 0 0))]),(eI 4),(.lit (.int .i64 (Int.negSucc 0))),(eI 1)], [], [((.val eB0), [])]⟩
theorem hTreePlaces227_ok : HOk Try.prog hTreePlaces227 := hok_eq mmTreePlaces_ok hmTreePlaces227_ok folTreePlaces (lf := 100000) (k := 1000) (by kernel_rfl)
def hmTreePlaces228 : List HE := hTreePlaces227 :: hmTreePlaces227
theorem hmTreePlaces228_ok : ∀ x ∈ hmTreePlaces228, HOk Try.prog x := hmemo_cons hTreePlaces227_ok hmTreePlaces227_ok
def hTreePlaces228 : HE := ⟨32, [(.agg [(eI 100),(eI 0),(.sl 0 2 0 3 none 3)]),(eI 4),(.lit (.int .i64 (Int.negSucc 0))),(eI 3)], [btreePlaces13, btreePlaces10], [((.val eB0), [])]⟩
theorem hTreePlaces228_ok : HOk Try.prog hTreePlaces228 := hok_eq mmTreePlaces_ok hmTreePlaces228_ok folTreePlaces (lf := 100000) (k := 1000) (by kernel_rfl)
def hmTreePlaces229 : List HE := hTreePlaces228 :: hmTreePlaces228
theorem hmTreePlaces229_ok : ∀ x ∈ hmTreePlaces229, HOk Try.prog x := hmemo_cons hTreePlaces228_ok hmTreePlaces228_ok
def hTreePlaces229 : HE := ⟨32, [(.agg [(eI 100),(eI 0),(.sl 0 2 0 3 none 3)]),(eI 4),(.lit (.int .i64 (Int.negSucc 0))),(eI 4)], [btreePlaces15, btreePlaces16, btreePlaces10], [((.val eB0), [])]⟩
theorem hTreePlaces229_ok : HOk Try.prog hTreePlaces229 := hok_eq mmTreePlaces_ok hmTreePlaces229_ok folTreePlaces (lf := 100000) (k := 1000) (by kernel_rfl)
def hmTreePlaces230 : List HE := hTreePlaces229 :: hmTreePlaces229
theorem hmTreePlaces230_ok : ∀ x ∈ hmTreePlaces230, HOk Try.prog x := hmemo_cons hTreePlaces229_ok hmTreePlaces229_ok
def hTreePlaces230 : HE := ⟨32, [(.agg [(eI 101),(eI 2),(.lit (.slice none 0 0))]),(eI 4),(.lit (.int .i64 (Int.negSucc 0))),(eI 3)], [], [((.val eB0), [])]⟩
theorem hTreePlaces230_ok : HOk Try.prog hTreePlaces230 := hok_eq mmTreePlaces_ok hmTreePlaces230_ok folTreePlaces (lf := 100000) (k := 1000) (by kernel_rfl)
def hmTreePlaces231 : List HE := hTreePlaces230 :: hmTreePlaces230
theorem hmTreePlaces231_ok : ∀ x ∈ hmTreePlaces231, HOk Try.prog x := hmemo_cons hTreePlaces230_ok hmTreePlaces230_ok
def hTreePlaces231 : HE := ⟨32, [(.agg [(eI 1),(.lit (.int .i64 (Int.negSucc 0))),(.lit (.slice none 0 0))]),(eI 4),(.lit (.int .i64 (Int.negSucc 0))),(eI 3)], [], [((.val eB0), [])]⟩
theorem hTreePlaces231_ok : HOk Try.prog hTreePlaces231 := hok_eq mmTreePlaces_ok hmTreePlaces231_ok folTreePlaces (lf := 100000) (k := 1000) (by kernel_rfl)
def hmTreePlaces232 : List HE := hTreePlaces231 :: hmTreePlaces231
theorem hmTreePlaces232_ok : ∀ x ∈ hmTreePlaces232, HOk Try.prog x := hmemo_cons hTreePlaces231_ok hmTreePlaces231_ok
def hTreePlaces232 : HE := ⟨32, [(.agg [(eI 3),(.lit (.int .i64 (Int.negSucc 0))),(.lit (.slice none 0 0))]),(eI 4),(.lit (.int .i64 (Int.negSucc 0))),(eI 2)], [], [((.val eB0), [])]⟩
theorem hTreePlaces232_ok : HOk Try.prog hTreePlaces232 := hok_eq mmTreePlaces_ok hmTreePlaces232_ok folTreePlaces (lf := 100000) (k := 1000) (by kernel_rfl)
def hmTreePlaces233 : List HE := hTreePlaces232 :: hmTreePlaces232
theorem hmTreePlaces233_ok : ∀ x ∈ hmTreePlaces233, HOk Try.prog x := hmemo_cons hTreePlaces232_ok hmTreePlaces232_ok
def hTreePlaces233 : HE := ⟨32, [(.agg [(eI 101),(eI 3),(.sl 0 0 0 1 none 3)]),(eI 4),(.lit (.int .i64 (Int.negSucc 0))),(eI 2)], [btreePlaces10], [((.val eB0), [])]⟩
theorem hTreePlaces233_ok : HOk Try.prog hTreePlaces233 := hok_eq mmTreePlaces_ok hmTreePlaces233_ok folTreePlaces (lf := 100000) (k := 1000) (by kernel_rfl)
def hmTreePlaces234 : List HE := hTreePlaces233 :: hmTreePlaces233
theorem hmTreePlaces234_ok : ∀ x ∈ hmTreePlaces234, HOk Try.prog x := hmemo_cons hTreePlaces233_ok hmTreePlaces233_ok
def hTreePlaces234 : HE := ⟨32, [(.agg [(eI 1),(.lit (.int .i64 (Int.negSucc 0))),(.lit (.slice none 0 0))]),(eI 4),(.lit (.int .i64 (Int.negSucc 0))),(eI 1)], [], [((.val eB0), [])]⟩
theorem hTreePlaces234_ok : HOk Try.prog hTreePlaces234 := hok_eq mmTreePlaces_ok hmTreePlaces234_ok folTreePlaces (lf := 100000) (k := 1000) (by kernel_rfl)
def hmTreePlaces235 : List HE := hTreePlaces234 :: hmTreePlaces234
theorem hmTreePlaces235_ok : ∀ x ∈ hmTreePlaces235, HOk Try.prog x := hmemo_cons hTreePlaces234_ok hmTreePlaces234_ok
def hTreePlaces235 : HE := ⟨32, [(.agg [(eI 100),(.lit (.int .i64 (Int.negSucc 0))),(.lit (.slice none 0 0))]),(eI 4),(.lit (.int .i64 (Int.negSucc 0))),(eI 0)], [], [((.val eB0), [])]⟩
theorem hTreePlaces235_ok : HOk Try.prog hTreePlaces235 := hok_eq mmTreePlaces_ok hmTreePlaces235_ok folTreePlaces (lf := 100000) (k := 1000) (by kernel_rfl)
def hmTreePlaces236 : List HE := hTreePlaces235 :: hmTreePlaces235
theorem hmTreePlaces236_ok : ∀ x ∈ hmTreePlaces236, HOk Try.prog x := hmemo_cons hTreePlaces235_ok hmTreePlaces235_ok
def hTreePlaces236 : HE := ⟨32, [(.agg [(eI 100),(eI 0),(.sl 0 2 0 3 none 3)]),(eI 4),(.lit (.int .i64 (Int.negSucc 0))),(eI 2)], [btreePlaces13, btreePlaces10], [((.val eB0), [])]⟩
theorem hTreePlaces236_ok : HOk Try.prog hTreePlaces236 := hok_eq mmTreePlaces_ok hmTreePlaces236_ok folTreePlaces (lf := 100000) (k := 1000) (by kernel_rfl)
def hmTreePlaces237 : List HE := hTreePlaces236 :: hmTreePlaces236
theorem hmTreePlaces237_ok : ∀ x ∈ hmTreePlaces237, HOk Try.prog x := hmemo_cons hTreePlaces236_ok hmTreePlaces236_ok
def hTreePlaces237 : HE := ⟨32, [(.agg [(eI 100),(eI 0),(.sl 0 2 0 3 none 3)]),(eI 4),(.lit (.int .i64 (Int.negSucc 0))),(eI 3)], [btreePlaces15, btreePlaces16, btreePlaces10], [((.val eB0), [])]⟩
theorem hTreePlaces237_ok : HOk Try.prog hTreePlaces237 := hok_eq mmTreePlaces_ok hmTreePlaces237_ok folTreePlaces (lf := 100000) (k := 1000) (by kernel_rfl)
def hmTreePlaces238 : List HE := hTreePlaces237 :: hmTreePlaces237
theorem hmTreePlaces238_ok : ∀ x ∈ hmTreePlaces238, HOk Try.prog x := hmemo_cons hTreePlaces237_ok hmTreePlaces237_ok
def hTreePlaces238 : HE := ⟨32, [(.agg [(eI 101),(eI 2),(.lit (.slice none 0 0))]),(eI 4),(.lit (.int .i64 (Int.negSucc 0))),(eI 2)], [], [((.val eB0), [])]⟩
theorem hTreePlaces238_ok : HOk Try.prog hTreePlaces238 := hok_eq mmTreePlaces_ok hmTreePlaces238_ok folTreePlaces (lf := 100000) (k := 1000) (by kernel_rfl)
def hmTreePlaces239 : List HE := hTreePlaces238 :: hmTreePlaces238
theorem hmTreePlaces239_ok : ∀ x ∈ hmTreePlaces239, HOk Try.prog x := hmemo_cons hTreePlaces238_ok hmTreePlaces238_ok
def hTreePlaces239 : HE := ⟨32, [(.agg [(eI 3),(.lit (.int .i64 (Int.negSucc 0))),(.lit (.slice none 0 0))]),(eI 4),(.lit (.int .i64 (Int.negSucc 0))),(eI 1)], [], [((.val eB0), [])]⟩
theorem hTreePlaces239_ok : HOk Try.prog hTreePlaces239 := hok_eq mmTreePlaces_ok hmTreePlaces239_ok folTreePlaces (lf := 100000) (k := 1000) (by kernel_rfl)
def hmTreePlaces240 : List HE := hTreePlaces239 :: hmTreePlaces239
theorem hmTreePlaces240_ok : ∀ x ∈ hmTreePlaces240, HOk Try.prog x := hmemo_cons hTreePlaces239_ok hmTreePlaces239_ok
def hTreePlaces240 : HE := ⟨32, [(.agg [(eI 101),(eI 3),(.sl 0 0 0 1 none 3)]),(eI 4),(.lit (.int .i64 (Int.negSucc 0))),(eI 1)], [btreePlaces10], [((.val eB0), [])]⟩
theorem hTreePlaces240_ok : HOk Try.prog hTreePlaces240 := hok_eq mmTreePlaces_ok hmTreePlaces240_ok folTreePlaces (lf := 100000) (k := 1000) (by kernel_rfl)
def hmTreePlaces241 : List HE := hTreePlaces240 :: hmTreePlaces240
theorem hmTreePlaces241_ok : ∀ x ∈ hmTreePlaces241, HOk Try.prog x := hmemo_cons hTreePlaces240_ok hmTreePlaces240_ok
def hTreePlaces241 : HE := ⟨32, [(.agg [(eI 1),(.lit (.int .i64 (Int.negSucc 0))),(.lit (.slice none 0 0))]),(eI 4),(.lit (.int .i64 (Int.negSucc 0))),(eI 0)], [], [((.val eB0), [])]⟩
theorem hTreePlaces241_ok : HOk Try.prog hTreePlaces241 := hok_eq mmTreePlaces_ok hmTreePlaces241_ok folTreePlaces (lf := 100000) (k := 1000) (by kernel_rfl)
def hmTreePlaces242 : List HE := hTreePlaces241 :: hmTreePlaces241
theorem hmTreePlaces242_ok : ∀ x ∈ hmTreePlaces242, HOk Try.prog x := hmemo_cons hTreePlaces241_ok hmTreePlaces241_ok
def hTreePlaces242 : HE := ⟨32, [(.agg [(eI 100),(.lit (.int .i64 (Int.negSucc 0))),(.lit (.slice none 0 0))]),(eI 4),(.lit (.int .i64 (Int.negSucc 0))),(.lit (.int .i64 (Int.negSucc 0)))], [], [((.val eB0), [])]⟩
theorem hTreePlaces242_ok : HOk Try.prog hTreePlaces242 := hok_eq mmTreePlaces_ok hmTreePlaces242_ok folTreePlaces (lf := 100000) (k := 1000) (by kernel_rfl)
def hmTreePlaces243 : List HE := hTreePlaces242 :: hmTreePlaces242
theorem hmTreePlaces243_ok : ∀ x ∈ hmTreePlaces243, HOk Try.prog x := hmemo_cons hTreePlaces242_ok hmTreePlaces242_ok
def hTreePlaces243 : HE := ⟨32, [(.agg [(eI 100),(eI 0),(.sl 0 2 0 3 none 3)]),(eI 4),(.lit (.int .i64 (Int.negSucc 0))),(eI 1)], [btreePlaces13, btreePlaces10], [((.val eB0), [])]⟩
theorem hTreePlaces243_ok : HOk Try.prog hTreePlaces243 := hok_eq mmTreePlaces_ok hmTreePlaces243_ok folTreePlaces (lf := 100000) (k := 1000) (by kernel_rfl)
def hmTreePlaces244 : List HE := hTreePlaces243 :: hmTreePlaces243
theorem hmTreePlaces244_ok : ∀ x ∈ hmTreePlaces244, HOk Try.prog x := hmemo_cons hTreePlaces243_ok hmTreePlaces243_ok
def hTreePlaces244 : HE := ⟨32, [(.agg [(eI 100),(eI 0),(.sl 0 2 0 3 none 3)]),(eI 4),(.lit (.int .i64 (Int.negSucc 0))),(eI 2)], [btreePlaces15, btreePlaces16, btreePlaces10], [((.val eB0), [])]⟩
theorem hTreePlaces244_ok : HOk Try.prog hTreePlaces244 := hok_eq mmTreePlaces_ok hmTreePlaces244_ok folTreePlaces (lf := 100000) (k := 1000) (by kernel_rfl)
def hmTreePlaces245 : List HE := hTreePlaces244 :: hmTreePlaces244
theorem hmTreePlaces245_ok : ∀ x ∈ hmTreePlaces245, HOk Try.prog x := hmemo_cons hTreePlaces244_ok hmTreePlaces244_ok
def hTreePlaces245 : HE := ⟨32, [(.agg [(eI 101),(eI 2),(.lit (.slice none 0 0))]),(eI 4),(.lit (.int .i64 (Int.negSucc 0))),(eI 1)], [], [((.val eB0), [])]⟩
theorem hTreePlaces245_ok : HOk Try.prog hTreePlaces245 := hok_eq mmTreePlaces_ok hmTreePlaces245_ok folTreePlaces (lf := 100000) (k := 1000) (by kernel_rfl)
def hmTreePlaces246 : List HE := hTreePlaces245 :: hmTreePlaces245
theorem hmTreePlaces246_ok : ∀ x ∈ hmTreePlaces246, HOk Try.prog x := hmemo_cons hTreePlaces245_ok hmTreePlaces245_ok
def hTreePlaces246 : HE := ⟨32, [(.agg [(eI 3),(.lit (.int .i64 (Int.negSucc 0))),(.lit (.slice none 0 0))]),(eI 4),(.lit (.int .i64 (Int.negSucc 0))),(eI 0)], [], [((.val eB0), [])]⟩
theorem hTreePlaces246_ok : HOk Try.prog hTreePlaces246 := hok_eq mmTreePlaces_ok hmTreePlaces246_ok folTreePlaces (lf := 100000) (k := 1000) (by kernel_rfl)
def hmTreePlaces247 : List HE := hTreePlaces246 :: hmTreePlaces246
theorem hmTreePlaces247_ok : ∀ x ∈ hmTreePlaces247, HOk Try.prog x := hmemo_cons hTreePlaces246_ok hmTreePlaces246_ok
def hTreePlaces247 : HE := ⟨32, [(.agg [(eI 101),(eI 3),(.sl 0 0 0 1 none 3)]),(eI 4),(.lit (.int .i64 (Int.negSucc 0))),(eI 0)], [btreePlaces10], [((.val eB0), [])]⟩
theorem hTreePlaces247_ok : HOk Try.prog hTreePlaces247 := hok_eq mmTreePlaces_ok hmTreePlaces247_ok folTreePlaces (lf := 100000) (k := 1000) (by kernel_rfl)
def hmTreePlaces248 : List HE := hTreePlaces247 :: hmTreePlaces247
theorem hmTreePlaces248_ok : ∀ x ∈ hmTreePlaces248, HOk Try.prog x := hmemo_cons hTreePlaces247_ok hmTreePlaces247_ok
def hTreePlaces248 : HE := ⟨32, [(.agg [(eI 1),(.lit (.int .i64 (Int.negSucc 0))),(.lit (.slice none 0 0))]),(eI 4),(.lit (.int .i64 (Int.negSucc 0))),(.lit (.int .i64 (Int.negSucc 0)))], [], [((.val eB0), [])]⟩
theorem hTreePlaces248_ok : HOk Try.prog hTreePlaces248 := hok_eq mmTreePlaces_ok hmTreePlaces248_ok folTreePlaces (lf := 100000) (k := 1000) (by kernel_rfl)
def hmTreePlaces249 : List HE := hTreePlaces248 :: hmTreePlaces248
theorem hmTreePlaces249_ok : ∀ x ∈ hmTreePlaces249, HOk Try.prog x := hmemo_cons hTreePlaces248_ok hmTreePlaces248_ok
def hTreePlaces249 : HE := ⟨32, [(.agg [(eI 100),(.lit (.int .i64 (Int.negSucc 0))),(.lit (.slice none 0 0))]),(eI 4),(.lit (.int .i64 (Int.negSucc 0))),(.lit (.int .i64 (Int.negSucc 1)))], [], [((.val eB0), [])]⟩
theorem hTreePlaces249_ok : HOk Try.prog hTreePlaces249 := hok_eq mmTreePlaces_ok hmTreePlaces249_ok folTreePlaces (lf := 100000) (k := 1000) (by kernel_rfl)
def hmTreePlaces250 : List HE := hTreePlaces249 :: hmTreePlaces249
theorem hmTreePlaces250_ok : ∀ x ∈ hmTreePlaces250, HOk Try.prog x := hmemo_cons hTreePlaces249_ok hmTreePlaces249_ok
def hTreePlaces250 : HE := ⟨32, [(.agg [(eI 100),(eI 0),(.sl 0 2 0 3 none 3)]),(eI 4),(.lit (.int .i64 (Int.negSucc 0))),(eI 0)], [btreePlaces13, btreePlaces10], [((.val eB0), [])]⟩
theorem hTreePlaces250_ok : HOk Try.prog hTreePlaces250 := hok_eq mmTreePlaces_ok hmTreePlaces250_ok folTreePlaces (lf := 100000) (k := 1000) (by kernel_rfl)
def hmTreePlaces251 : List HE := hTreePlaces250 :: hmTreePlaces250
theorem hmTreePlaces251_ok : ∀ x ∈ hmTreePlaces251, HOk Try.prog x := hmemo_cons hTreePlaces250_ok hmTreePlaces250_ok
def hTreePlaces251 : HE := ⟨32, [(.agg [(eI 100),(eI 0),(.sl 0 2 0 3 none 3)]),(eI 4),(.lit (.int .i64 (Int.negSucc 0))),(eI 1)], [btreePlaces15, btreePlaces16, btreePlaces10], [((.val eB0), [])]⟩
theorem hTreePlaces251_ok : HOk Try.prog hTreePlaces251 := hok_eq mmTreePlaces_ok hmTreePlaces251_ok folTreePlaces (lf := 100000) (k := 1000) (by kernel_rfl)
def hmTreePlaces252 : List HE := hTreePlaces251 :: hmTreePlaces251
theorem hmTreePlaces252_ok : ∀ x ∈ hmTreePlaces252, HOk Try.prog x := hmemo_cons hTreePlaces251_ok hmTreePlaces251_ok
def hTreePlaces252 : HE := ⟨32, [(.agg [(eI 101),(eI 2),(.lit (.slice none 0 0))]),(eI 4),(.lit (.int .i64 (Int.negSucc 0))),(eI 0)], [], [((.val eB0), [])]⟩
theorem hTreePlaces252_ok : HOk Try.prog hTreePlaces252 := hok_eq mmTreePlaces_ok hmTreePlaces252_ok folTreePlaces (lf := 100000) (k := 1000) (by kernel_rfl)
def hmTreePlaces253 : List HE := hTreePlaces252 :: hmTreePlaces252
theorem hmTreePlaces253_ok : ∀ x ∈ hmTreePlaces253, HOk Try.prog x := hmemo_cons hTreePlaces252_ok hmTreePlaces252_ok
def hTreePlaces253 : HE := ⟨32, [(.agg [(eI 100),(eI 0),(.sl 0 2 0 3 none 3)]),(eI 4),(.lit (.int .i64 (Int.negSucc 0))),(.lit (.int .i64 (Int.negSucc 0)))], [btreePlaces13, btreePlaces10], [((.val eB0), [])]⟩
theorem hTreePlaces253_ok : HOk Try.prog hTreePlaces253 := hok_eq mmTreePlaces_ok hmTreePlaces253_ok folTreePlaces (lf := 100000) (k := 1000) (by kernel_rfl)
def hmTreePlaces254 : List HE := hTreePlaces253 :: hmTreePlaces253
theorem hmTreePlaces254_ok : ∀ x ∈ hmTreePlaces254, HOk Try.prog x := hmemo_cons hTreePlaces253_ok hmTreePlaces253_ok
def hTreePlaces254 : HE := ⟨32, [(.agg [(eI 100),(eI 0),(.sl 0 2 0 3 none 3)]),(eI 4),(.lit (.int .i64 (Int.negSucc 0))),(eI 0)], [btreePlaces15, btreePlaces16, btreePlaces10], [((.val eB0), [])]⟩
theorem hTreePlaces254_ok : HOk Try.prog hTreePlaces254 := hok_eq mmTreePlaces_ok hmTreePlaces254_ok folTreePlaces (lf := 100000) (k := 1000) (by kernel_rfl)
def hmTreePlaces255 : List HE := hTreePlaces254 :: hmTreePlaces254
theorem hmTreePlaces255_ok : ∀ x ∈ hmTreePlaces255, HOk Try.prog x := hmemo_cons hTreePlaces254_ok hmTreePlaces254_ok
def hTreePlaces255 : HE := ⟨32, [(.agg [(eI 100),(eI 0),(.sl 0 2 0 3 none 3)]),(eI 4),(.lit (.int .i64 (Int.negSucc 0))),(.lit (.int .i64 (Int.negSucc 0)))], [btreePlaces15, btreePlaces16, btreePlaces10], [((.val eB0), [])]⟩
theorem hTreePlaces255_ok : HOk Try.prog hTreePlaces255 := hok_eq mmTreePlaces_ok hmTreePlaces255_ok folTreePlaces (lf := 100000) (k := 1000) (by kernel_rfl)
def hmTreePlaces256 : List HE := hTreePlaces255 :: hmTreePlaces255
theorem hmTreePlaces256_ok : ∀ x ∈ hmTreePlaces256, HOk Try.prog x := hmemo_cons hTreePlaces255_ok hmTreePlaces255_ok
def hTreePlaces256 : HE := ⟨32, [(.agg [(eI 101),(eI 2),(.lit (.slice none 0 0))]),(eI 3),(eI 4),(eI 4)], [], [((.val eB0), [])]⟩
theorem hTreePlaces256_ok : HOk Try.prog hTreePlaces256 := hok_eq mmTreePlaces_ok hmTreePlaces256_ok folTreePlaces (lf := 100000) (k := 1000) (by kernel_rfl)
def hmTreePlaces257 : List HE := hTreePlaces256 :: hmTreePlaces256
theorem hmTreePlaces257_ok : ∀ x ∈ hmTreePlaces257, HOk Try.prog x := hmemo_cons hTreePlaces256_ok hmTreePlaces256_ok
def hTreePlaces257 : HE := ⟨32, [(.agg [(eI 1),(.lit (.int .i64 (Int.negSucc 0))),(.lit (.slice none 0 0))]),(eI 3),(eI 4),(eI 4)], [], [((.val eB0), [])]⟩
theorem hTreePlaces257_ok : HOk Try.prog hTreePlaces257 := hok_eq mmTreePlaces_ok hmTreePlaces257_ok folTreePlaces (lf := 100000) (k := 1000) (by kernel_rfl)
def hmTreePlaces258 : List HE := hTreePlaces257 :: hmTreePlaces257
theorem hmTreePlaces258_ok : ∀ x ∈ hmTreePlaces258, HOk Try.prog x := hmemo_cons hTreePlaces257_ok hmTreePlaces257_ok
def hTreePlaces258 : HE := ⟨32, [(.agg [(eI 3),(.lit (.int .i64 (Int.negSucc 0))),(.lit (.slice none 0 0))]),(eI 3),(eI 4),(eI 3)], [], [((.val eB0), [])]⟩
theorem hTreePlaces258_ok : HOk Try.prog hTreePlaces258 := hok_eq mmTreePlaces_ok hmTreePlaces258_ok folTreePlaces (lf := 100000) (k := 1000) (by kernel_rfl)
def hmTreePlaces259 : List HE := hTreePlaces258 :: hmTreePlaces258
theorem hmTreePlaces259_ok : ∀ x ∈ hmTreePlaces259, HOk Try.prog x := hmemo_cons hTreePlaces258_ok hmTreePlaces258_ok
def hTreePlaces259 : HE := ⟨32, [(.agg [(eI 101),(eI 3),(.sl 0 0 0 1 none 3)]),(eI 3),(eI 4),(eI 3)], [btreePlaces10], [((.val eB0), [])]⟩
theorem hTreePlaces259_ok : HOk Try.prog hTreePlaces259 := hok_eq mmTreePlaces_ok hmTreePlaces259_ok folTreePlaces (lf := 100000) (k := 1000) (by kernel_rfl)
def hmTreePlaces260 : List HE := hTreePlaces259 :: hmTreePlaces259
theorem hmTreePlaces260_ok : ∀ x ∈ hmTreePlaces260, HOk Try.prog x := hmemo_cons hTreePlaces259_ok hmTreePlaces259_ok
def hTreePlaces260 : HE := ⟨32, [(.agg [(eI 1),(.lit (.int .i64 (Int.negSucc 0))),(.lit (.slice none 0 0))]),(eI 3),(eI 4),(eI 2)], [], [((.val eB0), [])]⟩
theorem hTreePlaces260_ok : HOk Try.prog hTreePlaces260 := hok_eq mmTreePlaces_ok hmTreePlaces260_ok folTreePlaces (lf := 100000) (k := 1000) (by kernel_rfl)
def hmTreePlaces261 : List HE := hTreePlaces260 :: hmTreePlaces260
theorem hmTreePlaces261_ok : ∀ x ∈ hmTreePlaces261, HOk Try.prog x := hmemo_cons hTreePlaces260_ok hmTreePlaces260_ok
def hTreePlaces261 : HE := ⟨32, [(.agg [(eI 100),(.lit (.int .i64 (Int.negSucc 0))),(.lit (.slice none 0 0))]),(eI 3),(eI 4),(eI 1)], [], [((.val eB0), [])]⟩
theorem hTreePlaces261_ok : HOk Try.prog hTreePlaces261 := hok_eq mmTreePlaces_ok hmTreePlaces261_ok folTreePlaces (lf := 100000) (k := 1000) (by kernel_rfl)
def hmTreePlaces262 : List HE := hTreePlaces261 :: hmTreePlaces261
theorem hmTreePlaces262_ok : ∀ x ∈ hmTreePlaces262, HOk Try.prog x := hmemo_cons hTreePlaces261_ok hmTreePlaces261_ok
def hTreePlaces262 : HE := ⟨32, [(.agg [(eI 100),(eI 0),(.sl 0 2 0 3 none 3)]),(eI 3),(eI 4),(eI 3)], [btreePlaces13, btreePlaces10], [((.val eB0), [])]⟩
theorem hTreePlaces262_ok : HOk Try.prog hTreePlaces262 := hok_eq mmTreePlaces_ok hmTreePlaces262_ok folTreePlaces (lf := 100000) (k := 1000) (by kernel_rfl)
def hmTreePlaces263 : List HE := hTreePlaces262 :: hmTreePlaces262
theorem hmTreePlaces263_ok : ∀ x ∈ hmTreePlaces263, HOk Try.prog x := hmemo_cons hTreePlaces262_ok hmTreePlaces262_ok
def hTreePlaces263 : HE := ⟨32, [(.agg [(eI 100),(eI 0),(.sl 0 2 0 3 none 3)]),(eI 3),(eI 4),(eI 4)], [btreePlaces15, btreePlaces16, btreePlaces10], [((.val eB0), [])]⟩
theorem hTreePlaces263_ok : HOk Try.prog hTreePlaces263 := hok_eq mmTreePlaces_ok hmTreePlaces263_ok folTreePlaces (lf := 100000) (k := 1000) (by kernel_rfl)
def hmTreePlaces264 : List HE := hTreePlaces263 :: hmTreePlaces263
theorem hmTreePlaces264_ok : ∀ x ∈ hmTreePlaces264, HOk Try.prog x := hmemo_cons hTreePlaces263_ok hmTreePlaces263_ok
def hTreePlaces264 : HE := ⟨32, [(.agg [(eI 101),(eI 2),(.lit (.slice none 0 0))]),(eI 3),(eI 4),(eI 3)], [], [((.val eB0), [])]⟩
theorem hTreePlaces264_ok : HOk Try.prog hTreePlaces264 := hok_eq mmTreePlaces_ok hmTreePlaces264_ok folTreePlaces (lf := 100000) (k := 1000) (by kernel_rfl)
def hmTreePlaces265 : List HE := hTreePlaces264 :: hmTreePlaces264
theorem hmTreePlaces265_ok : ∀ x ∈ hmTreePlaces265, HOk Try.prog x := hmemo_cons hTreePlaces264_ok hmTreePlaces264_ok
def hTreePlaces265 : HE := ⟨32, [(.agg [(eI 1),(.lit (.int .i64 (Int.negSucc 0))),(.lit (.slice none 0 0))]),(eI 3),(eI 4),(eI 3)], [], [((.val eB0), [])]⟩
theorem hTreePlaces265_ok : HOk Try.prog hTreePlaces265 := hok_eq mmTreePlaces_ok hmTreePlaces265_ok folTreePlaces (lf := 100000) (k := 1000) (by kernel_rfl)
def hmTreePlaces266 : List HE := hTreePlaces265 :: hmTreePlaces265
theorem hmTreePlaces266_ok : ∀ x ∈ hmTreePlaces266, HOk Try.prog x := hmemo_cons hTreePlaces265_ok hmTreePlaces265_ok
def hTreePlaces266 : HE := ⟨32, [(.agg [(eI 3),(.lit (.int .i64 (Int.negSucc 0))),(.lit (.slice none 0 0))]),(eI 3),(eI 4),(eI 2)], [], [((.val eB0), [])]⟩
theorem hTreePlaces266_ok : HOk Try.prog hTreePlaces266 := hok_eq mmTreePlaces_ok hmTreePlaces266_ok folTreePlaces (lf := 100000) (k := 1000) (by kernel_rfl)
def hmTreePlaces267 : List HE := hTreePlaces266 :: hmTreePlaces266
theorem hmTreePlaces267_ok : ∀ x ∈ hmTreePlaces267, HOk Try.prog x := hmemo_cons hTreePlaces266_ok hmTreePlaces266_ok
def hTreePlaces267 : HE := ⟨32, [(.agg [(eI 101),(eI 3),(.sl 0 0 0 1 none 3)]),(eI 3),(eI 4),(eI 2)], [btreePlaces10], [((.val eB0), [])]⟩
theorem hTreePlaces267_ok : HOk Try.prog hTreePlaces267 := hok_eq mmTreePlaces_ok hmTreePlaces267_ok folTreePlaces (lf := 100000) (k := 1000) (by kernel_rfl)
def hmTreePlaces268 : List HE := hTreePlaces267 :: hmTreePlaces267
theorem hmTreePlaces268_ok : ∀ x ∈ hmTreePlaces268, HOk Try.prog x := hmemo_cons hTreePlaces267_ok hmTreePlaces267_ok
def hTreePlaces268 : HE := ⟨32, [(.agg [(eI 1),(.lit (.int .i64 (Int.negSucc 0))),(.lit (.slice none 0 0))]),(eI 3),(eI 4),(eI 1)], [], [((.val eB0), [])]⟩
theorem hTreePlaces268_ok : HOk Try.prog hTreePlaces268 := hok_eq mmTreePlaces_ok hmTreePlaces268_ok folTreePlaces (lf := 100000) (k := 1000) (by kernel_rfl)
def hmTreePlaces269 : List HE := hTreePlaces268 :: hmTreePlaces268
theorem hmTreePlaces269_ok : ∀ x ∈ hmTreePlaces269, HOk Try.prog x := hmemo_cons hTreePlaces268_ok hmTreePlaces268_ok
def hTreePlaces269 : HE := ⟨32, [(.agg [(eI 100),(.lit (.int .i64 (Int.negSucc 0))),(.lit (.slice none 0 0))]),(eI 3),(eI 4),(eI 0)], [], [((.val eB0), [])]⟩
theorem hTreePlaces269_ok : HOk Try.prog hTreePlaces269 := hok_eq mmTreePlaces_ok hmTreePlaces269_ok folTreePlaces (lf := 100000) (k := 1000) (by kernel_rfl)
def hmTreePlaces270 : List HE := hTreePlaces269 :: hmTreePlaces269
theorem hmTreePlaces270_ok : ∀ x ∈ hmTreePlaces270, HOk Try.prog x := hmemo_cons hTreePlaces269_ok hmTreePlaces269_ok
def hTreePlaces270 : HE := ⟨32, [(.agg [(eI 100),(eI 0),(.sl 0 2 0 3 none 3)]),(eI 3),(eI 4),(eI 2)], [btreePlaces13, btreePlaces10], [((.val eB0), [])]⟩
theorem hTreePlaces270_ok : HOk Try.prog hTreePlaces270 := hok_eq mmTreePlaces_ok hmTreePlaces270_ok folTreePlaces (lf := 100000) (k := 1000) (by kernel_rfl)
def hmTreePlaces271 : List HE := hTreePlaces270 :: hmTreePlaces270
theorem hmTreePlaces271_ok : ∀ x ∈ hmTreePlaces271, HOk Try.prog x := hmemo_cons hTreePlaces270_ok hmTreePlaces270_ok
def hTreePlaces271 : HE := ⟨32, [(.agg [(eI 100),(eI 0),(.sl 0 2 0 3 none 3)]),(eI 3),(eI 4),(eI 3)], [btreePlaces15, btreePlaces16, btreePlaces10], [((.val eB0), [])]⟩
theorem hTreePlaces271_ok : HOk Try.prog hTreePlaces271 := hok_eq mmTreePlaces_ok hmTreePlaces271_ok folTreePlaces (lf := 100000) (k := 1000) (by kernel_rfl)
def hmTreePlaces272 : List HE := hTreePlaces271 :: hmTreePlaces271
theorem hmTreePlaces272_ok : ∀ x ∈ hmTreePlaces272, HOk Try.prog x := hmemo_cons hTreePlaces271_ok hmTreePlaces271_ok
def hTreePlaces272 : HE := ⟨32, [(.agg [(eI 101),(eI 2),(.lit (.slice none 0 0))]),(eI 3),(eI 4),(eI 2)], [], [((.val eB0), [])]⟩
theorem hTreePlaces272_ok : HOk Try.prog hTreePlaces272 := hok_eq mmTreePlaces_ok hmTreePlaces272_ok folTreePlaces (lf := 100000) (k := 1000) (by kernel_rfl)
def hmTreePlaces273 : List HE := hTreePlaces272 :: hmTreePlaces272
theorem hmTreePlaces273_ok : ∀ x ∈ hmTreePlaces273, HOk Try.prog x := hmemo_cons hTreePlaces272_ok hmTreePlaces272_ok
def hTreePlaces273 : HE := ⟨32, [(.agg [(eI 3),(.lit (.int .i64 (Int.negSucc 0))),(.lit (.slice none 0 0))]),(eI 3),(eI 4),(eI 1)], [], [((.val eB0), [])]⟩
theorem hTreePlaces273_ok : HOk Try.prog hTreePlaces273 := hok_eq mmTreePlaces_ok hmTreePlaces273_ok folTreePlaces (lf := 100000) (k := 1000) (by kernel_rfl)
def hmTreePlaces274 : List HE := hTreePlaces273 :: hmTreePlaces273
theorem hmTreePlaces274_ok : ∀ x ∈ hmTreePlaces274, HOk Try.prog x := hmemo_cons hTreePlaces273_ok hmTreePlaces273_ok
def hTreePlaces274 : HE := ⟨32, [(.agg [(eI 101),(eI 3),(.sl 0 0 0 1 none 3)]),(eI 3),(eI 4),(eI 1)], [btreePlaces10], [((.val eB0), [])]⟩
theorem hTreePlaces274_ok : HOk Try.prog hTreePlaces274 := hok_eq mmTreePlaces_ok hmTreePlaces274_ok folTreePlaces (lf := 100000) (k := 1000) (by kernel_rfl)
def hmTreePlaces275 : List HE := hTreePlaces274 :: hmTreePlaces274
theorem hmTreePlaces275_ok : ∀ x ∈ hmTreePlaces275, HOk Try.prog x := hmemo_cons hTreePlaces274_ok hmTreePlaces274_ok
def hTreePlaces275 : HE := ⟨32, [(.agg [(eI 1),(.lit (.int .i64 (Int.negSucc 0))),(.lit (.slice none 0 0))]),(eI 3),(eI 4),(eI 0)], [], [((.val eB0), [])]⟩
theorem hTreePlaces275_ok : HOk Try.prog hTreePlaces275 := hok_eq mmTreePlaces_ok hmTreePlaces275_ok folTreePlaces (lf := 100000) (k := 1000) (by kernel_rfl)
def hmTreePlaces276 : List HE := hTreePlaces275 :: hmTreePlaces275
theorem hmTreePlaces276_ok : ∀ x ∈ hmTreePlaces276, HOk Try.prog x := hmemo_cons hTreePlaces275_ok hmTreePlaces275_ok
def hTreePlaces276 : HE := ⟨32, [(.agg [(eI 100),(.lit (.int .i64 (Int.negSucc 0))),(.lit (.slice none 0 0))]),(eI 3),(eI 4),(.lit (.int .i64 (Int.negSucc 0)))], [], [((.val eB0), [])]⟩
theorem hTreePlaces276_ok : HOk Try.prog hTreePlaces276 := hok_eq mmTreePlaces_ok hmTreePlaces276_ok folTreePlaces (lf := 100000) (k := 1000) (by kernel_rfl)
def hmTreePlaces277 : List HE := hTreePlaces276 :: hmTreePlaces276
theorem hmTreePlaces277_ok : ∀ x ∈ hmTreePlaces277, HOk Try.prog x := hmemo_cons hTreePlaces276_ok hmTreePlaces276_ok
def hTreePlaces277 : HE := ⟨32, [(.agg [(eI 100),(eI 0),(.sl 0 2 0 3 none 3)]),(eI 3),(eI 4),(eI 1)], [btreePlaces13, btreePlaces10], [((.val eB0), [])]⟩
theorem hTreePlaces277_ok : HOk Try.prog hTreePlaces277 := hok_eq mmTreePlaces_ok hmTreePlaces277_ok folTreePlaces (lf := 100000) (k := 1000) (by kernel_rfl)
def hmTreePlaces278 : List HE := hTreePlaces277 :: hmTreePlaces277
theorem hmTreePlaces278_ok : ∀ x ∈ hmTreePlaces278, HOk Try.prog x := hmemo_cons hTreePlaces277_ok hmTreePlaces277_ok
def hTreePlaces278 : HE := ⟨32, [(.agg [(eI 100),(eI 0),(.sl 0 2 0 3 none 3)]),(eI 3),(eI 4),(eI 2)], [btreePlaces15, btreePlaces16, btreePlaces10], [((.val eB0), [])]⟩
theorem hTreePlaces278_ok : HOk Try.prog hTreePlaces278 := hok_eq mmTreePlaces_ok hmTreePlaces278_ok folTreePlaces (lf := 100000) (k := 1000) (by kernel_rfl)
def hmTreePlaces279 : List HE := hTreePlaces278 :: hmTreePlaces278
theorem hmTreePlaces279_ok : ∀ x ∈ hmTreePlaces279, HOk Try.prog x := hmemo_cons hTreePlaces278_ok hmTreePlaces278_ok
def hTreePlaces279 : HE := ⟨32, [(.agg [(eI 101),(eI 2),(.lit (.slice none 0 0))]),(eI 3),(eI 4),(eI 1)], [], [((.val eB0), [])]⟩
theorem hTreePlaces279_ok : HOk Try.prog hTreePlaces279 := hok_eq mmTreePlaces_ok hmTreePlaces279_ok folTreePlaces (lf := 100000) (k := 1000) (by kernel_rfl)
def hmTreePlaces280 : List HE := hTreePlaces279 :: hmTreePlaces279
theorem hmTreePlaces280_ok : ∀ x ∈ hmTreePlaces280, HOk Try.prog x := hmemo_cons hTreePlaces279_ok hmTreePlaces279_ok
def hTreePlaces280 : HE := ⟨32, [(.agg [(eI 3),(.lit (.int .i64 (Int.negSucc 0))),(.lit (.slice none 0 0))]),(eI 3),(eI 4),(eI 0)], [], [((.val eB0), [])]⟩
theorem hTreePlaces280_ok : HOk Try.prog hTreePlaces280 := hok_eq mmTreePlaces_ok hmTreePlaces280_ok folTreePlaces (lf := 100000) (k := 1000) (by kernel_rfl)
def hmTreePlaces281 : List HE := hTreePlaces280 :: hmTreePlaces280
theorem hmTreePlaces281_ok : ∀ x ∈ hmTreePlaces281, HOk Try.prog x := hmemo_cons hTreePlaces280_ok hmTreePlaces280_ok
def hTreePlaces281 : HE := ⟨32, [(.agg [(eI 101),(eI 3),(.sl 0 0 0 1 none 3)]),(eI 3),(eI 4),(eI 0)], [btreePlaces10], [((.val eB0), [])]⟩
theorem hTreePlaces281_ok : HOk Try.prog hTreePlaces281 := hok_eq mmTreePlaces_ok hmTreePlaces281_ok folTreePlaces (lf := 100000) (k := 1000) (by kernel_rfl)
def hmTreePlaces282 : List HE := hTreePlaces281 :: hmTreePlaces281
theorem hmTreePlaces282_ok : ∀ x ∈ hmTreePlaces282, HOk Try.prog x := hmemo_cons hTreePlaces281_ok hmTreePlaces281_ok
def hTreePlaces282 : HE := ⟨32, [(.agg [(eI 1),(.lit (.int .i64 (Int.negSucc 0))),(.lit (.slice none 0 0))]),(eI 3),(eI 4),(.lit (.int .i64 (Int.negSucc 0)))], [], [((.val eB0), [])]⟩
theorem hTreePlaces282_ok : HOk Try.prog hTreePlaces282 := hok_eq mmTreePlaces_ok hmTreePlaces282_ok folTreePlaces (lf := 100000) (k := 1000) (by kernel_rfl)
def hmTreePlaces283 : List HE := hTreePlaces282 :: hmTreePlaces282
theorem hmTreePlaces283_ok : ∀ x ∈ hmTreePlaces283, HOk Try.prog x := hmemo_cons hTreePlaces282_ok hmTreePlaces282_ok
def hTreePlaces283 : HE := ⟨32, [(.agg [(eI 100),(.lit (.int .i64 (Int.negSucc 0))),(.lit (.slice none 0 0))]),(eI 3),(eI 4),(.lit (.int .i64 (Int.negSucc 1)))], [], [((.val eB0), [])]⟩
theorem hTreePlaces283_ok : HOk Try.prog hTreePlaces283 := hok_eq mmTreePlaces_ok hmTreePlaces283_ok folTreePlaces (lf := 100000) (k := 1000) (by kernel_rfl)
def hmTreePlaces284 : List HE := hTreePlaces283 :: hmTreePlaces283
theorem hmTreePlaces284_ok : ∀ x ∈ hmTreePlaces284, HOk Try.prog x := hmemo_cons hTreePlaces283_ok hmTreePlaces283_ok
def hTreePlaces284 : HE := ⟨32, [(.agg [(eI 100),(eI 0),(.sl 0 2 0 3 none 3)]),(eI 3),(eI 4),(eI 0)], [btreePlaces13, btreePlaces10], [((.val eB0), [])]⟩
theorem hTreePlaces284_ok : HOk Try.prog hTreePlaces284 := hok_eq mmTreePlaces_ok hmTreePlaces284_ok folTreePlaces (lf := 100000) (k := 1000) (by kernel_rfl)
def hmTreePlaces285 : List HE := hTreePlaces284 :: hmTreePlaces284
theorem hmTreePlaces285_ok : ∀ x ∈ hmTreePlaces285, HOk Try.prog x := hmemo_cons hTreePlaces284_ok hmTreePlaces284_ok
def hTreePlaces285 : HE := ⟨32, [(.agg [(eI 100),(eI 0),(.sl 0 2 0 3 none 3)]),(eI 3),(eI 4),(eI 1)], [btreePlaces15, btreePlaces16, btreePlaces10], [((.val eB0), [])]⟩
theorem hTreePlaces285_ok : HOk Try.prog hTreePlaces285 := hok_eq mmTreePlaces_ok hmTreePlaces285_ok folTreePlaces (lf := 100000) (k := 1000) (by kernel_rfl)
def hmTreePlaces286 : List HE := hTreePlaces285 :: hmTreePlaces285
theorem hmTreePlaces286_ok : ∀ x ∈ hmTreePlaces286, HOk Try.prog x := hmemo_cons hTreePlaces285_ok hmTreePlaces285_ok
def hTreePlaces286 : HE := ⟨32, [(.agg [(eI 101),(eI 2),(.lit (.slice none 0 0))]),(eI 3),(eI 4),(eI 0)], [], [((.val eB0), [])]⟩
theorem hTreePlaces286_ok : HOk Try.prog hTreePlaces286 := hok_eq mmTreePlaces_ok hmTreePlaces286_ok folTreePlaces (lf := 100000) (k := 1000) (by kernel_rfl)
def hmTreePlaces287 : List HE := hTreePlaces286 :: hmTreePlaces286
theorem hmTreePlaces287_ok : ∀ x ∈ hmTreePlaces287, HOk Try.prog x := hmemo_cons hTreePlaces286_ok hmTreePlaces286_ok
def hTreePlaces287 : HE := ⟨32, [(.agg [(eI 100),(eI 0),(.sl 0 2 0 3 none 3)]),(eI 3),(eI 4),(.lit (.int .i64 (Int.negSucc 0)))], [btreePlaces13, btreePlaces10], [((.val eB0), [])]⟩
theorem hTreePlaces287_ok : HOk Try.prog hTreePlaces287 := hok_eq mmTreePlaces_ok hmTreePlaces287_ok folTreePlaces (lf := 100000) (k := 1000) (by kernel_rfl)
def hmTreePlaces288 : List HE := hTreePlaces287 :: hmTreePlaces287
theorem hmTreePlaces288_ok : ∀ x ∈ hmTreePlaces288, HOk Try.prog x := hmemo_cons hTreePlaces287_ok hmTreePlaces287_ok
def hTreePlaces288 : HE := ⟨32, [(.agg [(eI 100),(eI 0),(.sl 0 2 0 3 none 3)]),(eI 3),(eI 4),(eI 0)], [btreePlaces15, btreePlaces16, btreePlaces10], [((.val eB0), [])]⟩
theorem hTreePlaces288_ok : HOk Try.prog hTreePlaces288 := hok_eq mmTreePlaces_ok hmTreePlaces288_ok folTreePlaces (lf := 100000) (k := 1000) (by kernel_rfl)
def hmTreePlaces289 : List HE := hTreePlaces288 :: hmTreePlaces288
theorem hmTreePlaces289_ok : ∀ x ∈ hmTreePlaces289, HOk Try.prog x := hmemo_cons hTreePlaces288_ok hmTreePlaces288_ok
def hTreePlaces289 : HE := ⟨32, [(.agg [(eI 100),(eI 0),(.sl 0 2 0 3 none 3)]),(eI 3),(eI 4),(.lit (.int .i64 (Int.negSucc 0)))], [btreePlaces15, btreePlaces16, btreePlaces10], [((.val eB0), [])]⟩
theorem hTreePlaces289_ok : HOk Try.prog hTreePlaces289 := hok_eq mmTreePlaces_ok hmTreePlaces289_ok folTreePlaces (lf := 100000) (k := 1000) (by kernel_rfl)
def hmTreePlaces290 : List HE := hTreePlaces289 :: hmTreePlaces289
theorem hmTreePlaces290_ok : ∀ x ∈ hmTreePlaces290, HOk Try.prog x := hmemo_cons hTreePlaces289_ok hmTreePlaces289_ok
def hTreePlaces290 : HE := ⟨32, [(.agg [(eI 101),(eI 2),(.lit (.slice none 0 0))]),(eI 3),(eI 3),(eI 4)], [], [((.val eB0), [])]⟩
theorem hTreePlaces290_ok : HOk Try.prog hTreePlaces290 := hok_eq mmTreePlaces_ok hmTreePlaces290_ok folTreePlaces (lf := 100000) (k := 1000) (by kernel_rfl)
def hmTreePlaces291 : List HE := hTreePlaces290 :: hmTreePlaces290
theorem hmTreePlaces291_ok : ∀ x ∈ hmTreePlaces291, HOk Try.prog x := hmemo_cons hTreePlaces290_ok hmTreePlaces290_ok
def hTreePlaces291 : HE := ⟨32, [(.agg [(eI 1),(.lit (.int .i64 (Int.negSucc 0))),(.lit (.slice none 0 0))]),(eI 3),(eI 3),(eI 4)], [], [((.val eB0), [])]⟩
theorem hTreePlaces291_ok : HOk Try.prog hTreePlaces291 := hok_eq mmTreePlaces_ok hmTreePlaces291_ok folTreePlaces (lf := 100000) (k := 1000) (by kernel_rfl)
def hmTreePlaces292 : List HE := hTreePlaces291 :: hmTreePlaces291
theorem hmTreePlaces292_ok : ∀ x ∈ hmTreePlaces292, HOk Try.prog x := hmemo_cons hTreePlaces291_ok hmTreePlaces291_ok
def hTreePlaces292 : HE := ⟨32, [(.agg [(eI 3),(.lit (.int .i64 (Int.negSucc 0))),(.lit (.slice none 0 0))]),(eI 3),(eI 3),(eI 3)], [], [((.val eB0), [])]⟩
theorem hTreePlaces292_ok : HOk Try.prog hTreePlaces292 := hok_eq mmTreePlaces_ok hmTreePlaces292_ok folTreePlaces (lf := 100000) (k := 1000) (by kernel_rfl)
def hmTreePlaces293 : List HE := hTreePlaces292 :: hmTreePlaces292
theorem hmTreePlaces293_ok : ∀ x ∈ hmTreePlaces293, HOk Try.prog x := hmemo_cons hTreePlaces292_ok hmTreePlaces292_ok
def hTreePlaces293 : HE := ⟨32, [(.agg [(eI 101),(eI 3),(.sl 0 0 0 1 none 3)]),(eI 3),(eI 3),(eI 3)], [btreePlaces10], [((.val eB0), [])]⟩
theorem hTreePlaces293_ok : HOk Try.prog hTreePlaces293 := hok_eq mmTreePlaces_ok hmTreePlaces293_ok folTreePlaces (lf := 100000) (k := 1000) (by kernel_rfl)
def hmTreePlaces294 : List HE := hTreePlaces293 :: hmTreePlaces293
theorem hmTreePlaces294_ok : ∀ x ∈ hmTreePlaces294, HOk Try.prog x := hmemo_cons hTreePlaces293_ok hmTreePlaces293_ok
def hTreePlaces294 : HE := ⟨32, [(.agg [(eI 1),(.lit (.int .i64 (Int.negSucc 0))),(.lit (.slice none 0 0))]),(eI 3),(eI 3),(eI 2)], [], [((.val eB0), [])]⟩
theorem hTreePlaces294_ok : HOk Try.prog hTreePlaces294 := hok_eq mmTreePlaces_ok hmTreePlaces294_ok folTreePlaces (lf := 100000) (k := 1000) (by kernel_rfl)
def hmTreePlaces295 : List HE := hTreePlaces294 :: hmTreePlaces294
theorem hmTreePlaces295_ok : ∀ x ∈ hmTreePlaces295, HOk Try.prog x := hmemo_cons hTreePlaces294_ok hmTreePlaces294_ok
def hTreePlaces295 : HE := ⟨32, [(.agg [(eI 100),(.lit (.int .i64 (Int.negSucc 0))),(.lit (.slice none 0 0))]),(eI 3),(eI 3),(eI 1)], [], [((.val eB0), [])]⟩
theorem hTreePlaces295_ok : HOk Try.prog hTreePlaces295 := hok_eq mmTreePlaces_ok hmTreePlaces295_ok folTreePlaces (lf := 100000) (k := 1000) (by kernel_rfl)
def hmTreePlaces296 : List HE := hTreePlaces295 :: hmTreePlaces295
theorem hmTreePlaces296_ok : ∀ x ∈ hmTreePlaces296, HOk Try.prog x := hmemo_cons hTreePlaces295_ok hmTreePlaces295_ok
def hTreePlaces296 : HE := ⟨32, [(.agg [(eI 100),(eI 0),(.sl 0 2 0 3 none 3)]),(eI 3),(eI 3),(eI 3)], [btreePlaces13, btreePlaces10], [((.val eB0), [])]⟩
theorem hTreePlaces296_ok : HOk Try.prog hTreePlaces296 := hok_eq mmTreePlaces_ok hmTreePlaces296_ok folTreePlaces (lf := 100000) (k := 1000) (by kernel_rfl)
def hmTreePlaces297 : List HE := hTreePlaces296 :: hmTreePlaces296
theorem hmTreePlaces297_ok : ∀ x ∈ hmTreePlaces297, HOk Try.prog x := hmemo_cons hTreePlaces296_ok hmTreePlaces296_ok
def hTreePlaces297 : HE := ⟨32, [(.agg [(eI 100),(eI 0),(.sl 0 2 0 3 none 3)]),(eI 3),(eI 3),(eI 4)], [btreePlaces15, btreePlaces16, btreePlaces10], [((.val eB0), [])]⟩
theorem hTreePlaces297_ok : HOk Try.prog hTreePlaces297 := hok_eq mmTreePlaces_ok hmTreePlaces297_ok folTreePlaces (lf := 100000) (k := 1000) (by kernel_rfl)
def hmTreePlaces298 : List HE := hTreePlaces297 :: hmTreePlaces297
theorem hmTreePlaces298_ok : ∀ x ∈ hmTreePlaces298, HOk Try.prog x := hmemo_cons hTreePlaces297_ok hmTreePlaces297_ok
def hTreePlaces298 : HE := ⟨32, [(.agg [(eI 101),(eI 2),(.lit (.slice none 0 0))]),(eI 3),(eI 3),(eI 3)], [], [((.val eB0), [])]⟩
theorem hTreePlaces298_ok : HOk Try.prog hTreePlaces298 := hok_eq mmTreePlaces_ok hmTreePlaces298_ok folTreePlaces (lf := 100000) (k := 1000) (by kernel_rfl)
def hmTreePlaces299 : List HE := hTreePlaces298 :: hmTreePlaces298
theorem hmTreePlaces299_ok : ∀ x ∈ hmTreePlaces299, HOk Try.prog x := hmemo_cons hTreePlaces298_ok hmTreePlaces298_ok
def hTreePlaces299 : HE := ⟨32, [(.agg [(eI 1),(.lit (.int .i64 (Int.negSucc 0))),(.lit (.slice none 0 0))]),(eI 3),(eI 3),(eI 3)], [], [((.val eB0), [])]⟩
theorem hTreePlaces299_ok : HOk Try.prog hTreePlaces299 := hok_eq mmTreePlaces_ok hmTreePlaces299_ok folTreePlaces (lf := 100000) (k := 1000) (by kernel_rfl)
def hmTreePlaces300 : List HE := hTreePlaces299 :: hmTreePlaces299
theorem hmTreePlaces300_ok : ∀ x ∈ hmTreePlaces300, HOk Try.prog x := hmemo_cons hTreePlaces299_ok hmTreePlaces299_ok
def hTreePlaces300 : HE := ⟨32, [(.agg [(eI 3),(.lit (.int .i64 (Int.negSucc 0))),(.lit (.slice none 0 0))]),(eI 3),(eI 3),(eI 2)], [], [((.val eB0), [])]⟩
theorem hTreePlaces300_ok : HOk Try.prog hTreePlaces300 := hok_eq mmTreePlaces_ok hmTreePlaces300_ok folTreePlaces (lf := 100000) (k := 1000) (by kernel_rfl)
def hmTreePlaces301 : List HE := hTreePlaces300 :: hmTreePlaces300
theorem hmTreePlaces301_ok : ∀ x ∈ hmTreePlaces301, HOk Try.prog x := hmemo_cons hTreePlaces300_ok hmTreePlaces300_ok
def hTreePlaces301 : HE := ⟨32, [(.agg [(eI 101),(eI 3),(.sl 0 0 0 1 none 3)]),(eI 3),(eI 3),(eI 2)], [btreePlaces10], [((.val eB0), [])]⟩
theorem hTreePlaces301_ok : HOk Try.prog hTreePlaces301 := hok_eq mmTreePlaces_ok hmTreePlaces301_ok folTreePlaces (lf := 100000) (k := 1000) (by kernel_rfl)
def hmTreePlaces302 : List HE := hTreePlaces301 :: hmTreePlaces301
theorem hmTreePlaces302_ok : ∀ x ∈ hmTreePlaces302, HOk Try.prog x := hmemo_cons hTreePlaces301_ok hmTreePlaces301_ok
def hTreePlaces302 : HE := ⟨32, [(.agg [(eI 1),(.lit (.int .i64 (Int.negSucc 0))),(.lit (.slice none 0 0))]),(eI 3),(eI 3),(eI 1)], [], [((.val eB0), [])]⟩
theorem hTreePlaces302_ok : HOk Try.prog hTreePlaces302 := hok_eq mmTreePlaces_ok hmTreePlaces302_ok folTreePlaces (lf := 100000) (k := 1000) (by kernel_rfl)
def hmTreePlaces303 : List HE := hTreePlaces302 :: hmTreePlaces302
theorem hmTreePlaces303_ok : ∀ x ∈ hmTreePlaces303, HOk Try.prog x := hmemo_cons hTreePlaces302_ok hmTreePlaces302_ok
def hTreePlaces303 : HE := ⟨32, [(.agg [(eI 100),(.lit (.int .i64 (Int.negSucc 0))),(.lit (.slice none 0 0))]),(eI 3),(eI 3),(eI 0)], [], [((.val eB0), [])]⟩
theorem hTreePlaces303_ok : HOk Try.prog hTreePlaces303 := hok_eq mmTreePlaces_ok hmTreePlaces303_ok folTreePlaces (lf := 100000) (k := 1000) (by kernel_rfl)
def hmTreePlaces304 : List HE := hTreePlaces303 :: hmTreePlaces303
theorem hmTreePlaces304_ok : ∀ x ∈ hmTreePlaces304, HOk Try.prog x := hmemo_cons hTreePlaces303_ok hmTreePlaces303_ok
def hTreePlaces304 : HE := ⟨32, [(.agg [(eI 100),(eI 0),(.sl 0 2 0 3 none 3)]),(eI 3),(eI 3),(eI 2)], [btreePlaces13, btreePlaces10], [((.val eB0), [])]⟩
theorem hTreePlaces304_ok : HOk Try.prog hTreePlaces304 := hok_eq mmTreePlaces_ok hmTreePlaces304_ok folTreePlaces (lf := 100000) (k := 1000) (by kernel_rfl)
def hmTreePlaces305 : List HE := hTreePlaces304 :: hmTreePlaces304
theorem hmTreePlaces305_ok : ∀ x ∈ hmTreePlaces305, HOk Try.prog x := hmemo_cons hTreePlaces304_ok hmTreePlaces304_ok
def hTreePlaces305 : HE := ⟨32, [(.agg [(eI 100),(eI 0),(.sl 0 2 0 3 none 3)]),(eI 3),(eI 3),(eI 3)], [btreePlaces15, btreePlaces16, btreePlaces10], [((.val eB0), [])]⟩
theorem hTreePlaces305_ok : HOk Try.prog hTreePlaces305 := hok_eq mmTreePlaces_ok hmTreePlaces305_ok folTreePlaces (lf := 100000) (k := 1000) (by kernel_rfl)
def hmTreePlaces306 : List HE := hTreePlaces305 :: hmTreePlaces305
theorem hmTreePlaces306_ok : ∀ x ∈ hmTreePlaces306, HOk Try.prog x := hmemo_cons hTreePlaces305_ok hmTreePlaces305_ok
def hTreePlaces306 : HE := ⟨32, [(.agg [(eI 101),(eI 2),(.lit (.slice none 0 0))]),(eI 3),(eI 3),(eI 2)], [], [((.val eB0), [])]⟩
theorem hTreePlaces306_ok : HOk Try.prog hTreePlaces306 := hok_eq mmTreePlaces_ok hmTreePlaces306_ok folTreePlaces (lf := 100000) (k := 1000) (by kernel_rfl)
def hmTreePlaces307 : List HE := hTreePlaces306 :: hmTreePlaces306
theorem hmTreePlaces307_ok : ∀ x ∈ hmTreePlaces307, HOk Try.prog x := hmemo_cons hTreePlaces306_ok hmTreePlaces306_ok
def hTreePlaces307 : HE := ⟨32, [(.agg [(eI 3),(.lit (.int .i64 (Int.negSucc 0))),(.lit (.slice none 0 0))]),(eI 3),(eI 3),(eI 1)], [], [((.val eB0), [])]⟩
theorem hTreePlaces307_ok : HOk Try.prog hTreePlaces307 := hok_eq mmTreePlaces_ok hmTreePlaces307_ok folTreePlaces (lf := 100000) (k := 1000) (by kernel_rfl)
def hmTreePlaces308 : List HE := hTreePlaces307 :: hmTreePlaces307
theorem hmTreePlaces308_ok : ∀ x ∈ hmTreePlaces308, HOk Try.prog x := hmemo_cons hTreePlaces307_ok hmTreePlaces307_ok
def hTreePlaces308 : HE := ⟨32, [(.agg [(eI 101),(eI 3),(.sl 0 0 0 1 none 3)]),(eI 3),(eI 3),(eI 1)], [btreePlaces10], [((.val eB0), [])]⟩
theorem hTreePlaces308_ok : HOk Try.prog hTreePlaces308 := hok_eq mmTreePlaces_ok hmTreePlaces308_ok folTreePlaces (lf := 100000) (k := 1000) (by kernel_rfl)
def hmTreePlaces309 : List HE := hTreePlaces308 :: hmTreePlaces308
theorem hmTreePlaces309_ok : ∀ x ∈ hmTreePlaces309, HOk Try.prog x := hmemo_cons hTreePlaces308_ok hmTreePlaces308_ok
def hTreePlaces309 : HE := ⟨32, [(.agg [(eI 1),(.lit (.int .i64 (Int.negSucc 0))),(.lit (.slice none 0 0))]),(eI 3),(eI 3),(eI 0)], [], [((.val eB0), [])]⟩
theorem hTreePlaces309_ok : HOk Try.prog hTreePlaces309 := hok_eq mmTreePlaces_ok hmTreePlaces309_ok folTreePlaces (lf := 100000) (k := 1000) (by kernel_rfl)
def hmTreePlaces310 : List HE := hTreePlaces309 :: hmTreePlaces309
theorem hmTreePlaces310_ok : ∀ x ∈ hmTreePlaces310, HOk Try.prog x := hmemo_cons hTreePlaces309_ok hmTreePlaces309_ok
def hTreePlaces310 : HE := ⟨32, [(.agg [(eI 100),(.lit (.int .i64 (Int.negSucc 0))),(.lit (.slice none 0 0))]),(eI 3),(eI 3),(.lit (.int .i64 (Int.negSucc 0)))], [], [((.val eB0), [])]⟩
theorem hTreePlaces310_ok : HOk Try.prog hTreePlaces310 := hok_eq mmTreePlaces_ok hmTreePlaces310_ok folTreePlaces (lf := 100000) (k := 1000) (by kernel_rfl)
def hmTreePlaces311 : List HE := hTreePlaces310 :: hmTreePlaces310
theorem hmTreePlaces311_ok : ∀ x ∈ hmTreePlaces311, HOk Try.prog x := hmemo_cons hTreePlaces310_ok hmTreePlaces310_ok
def hTreePlaces311 : HE := ⟨32, [(.agg [(eI 100),(eI 0),(.sl 0 2 0 3 none 3)]),(eI 3),(eI 3),(eI 1)], [btreePlaces13, btreePlaces10], [((.val eB0), [])]⟩
theorem hTreePlaces311_ok : HOk Try.prog hTreePlaces311 := hok_eq mmTreePlaces_ok hmTreePlaces311_ok folTreePlaces (lf := 100000) (k := 1000) (by kernel_rfl)
def hmTreePlaces312 : List HE := hTreePlaces311 :: hmTreePlaces311
theorem hmTreePlaces312_ok : ∀ x ∈ hmTreePlaces312, HOk Try.prog x := hmemo_cons hTreePlaces311_ok hmTreePlaces311_ok
def hTreePlaces312 : HE := ⟨32, [(.agg [(eI 100),(eI 0),(.sl 0 2 0 3 none 3)]),(eI 3),(eI 3),(eI 2)], [btreePlaces15, btreePlaces16, btreePlaces10], [((.val eB0), [])]⟩
theorem hTreePlaces312_ok : HOk Try.prog hTreePlaces312 := hok_eq mmTreePlaces_ok hmTreePlaces312_ok folTreePlaces (lf := 100000) (k := 1000) (by kernel_rfl)
def hmTreePlaces313 : List HE := hTreePlaces312 :: hmTreePlaces312
theorem hmTreePlaces313_ok : ∀ x ∈ hmTreePlaces313, HOk Try.prog x := hmemo_cons hTreePlaces312_ok hmTreePlaces312_ok
def hTreePlaces313 : HE := ⟨32, [(.agg [(eI 101),(eI 2),(.lit (.slice none 0 0))]),(eI 3),(eI 3),(eI 1)], [], [((.val eB0), [])]⟩
theorem hTreePlaces313_ok : HOk Try.prog hTreePlaces313 := hok_eq mmTreePlaces_ok hmTreePlaces313_ok folTreePlaces (lf := 100000) (k := 1000) (by kernel_rfl)
def hmTreePlaces314 : List HE := hTreePlaces313 :: hmTreePlaces313
theorem hmTreePlaces314_ok : ∀ x ∈ hmTreePlaces314, HOk Try.prog x := hmemo_cons hTreePlaces313_ok hmTreePlaces313_ok
def hTreePlaces314 : HE := ⟨32, [(.agg [(eI 3),(.lit (.int .i64 (Int.negSucc 0))),(.lit (.slice none 0 0))]),(eI 3),(eI 3),(eI 0)], [], [((.val eB0), [])]⟩
theorem hTreePlaces314_ok : HOk Try.prog hTreePlaces314 := hok_eq mmTreePlaces_ok hmTreePlaces314_ok folTreePlaces (lf := 100000) (k := 1000) (by kernel_rfl)
def hmTreePlaces315 : List HE := hTreePlaces314 :: hmTreePlaces314
theorem hmTreePlaces315_ok : ∀ x ∈ hmTreePlaces315, HOk Try.prog x := hmemo_cons hTreePlaces314_ok hmTreePlaces314_ok
def hTreePlaces315 : HE := ⟨32, [(.agg [(eI 101),(eI 3),(.sl 0 0 0 1 none 3)]),(eI 3),(eI 3),(eI 0)], [btreePlaces10], [((.val eB0), [])]⟩
theorem hTreePlaces315_ok : HOk Try.prog hTreePlaces315 := hok_eq mmTreePlaces_ok hmTreePlaces315_ok folTreePlaces (lf := 100000) (k := 1000) (by kernel_rfl)
def hmTreePlaces316 : List HE := hTreePlaces315 :: hmTreePlaces315
theorem hmTreePlaces316_ok : ∀ x ∈ hmTreePlaces316, HOk Try.prog x := hmemo_cons hTreePlaces315_ok hmTreePlaces315_ok
def hTreePlaces316 : HE := ⟨32, [(.agg [(eI 1),(.lit (.int .i64 (Int.negSucc 0))),(.lit (.slice none 0 0))]),(eI 3),(eI 3),(.lit (.int .i64 (Int.negSucc 0)))], [], [((.val eB0), [])]⟩
theorem hTreePlaces316_ok : HOk Try.prog hTreePlaces316 := hok_eq mmTreePlaces_ok hmTreePlaces316_ok folTreePlaces (lf := 100000) (k := 1000) (by kernel_rfl)
def hmTreePlaces317 : List HE := hTreePlaces316 :: hmTreePlaces316
theorem hmTreePlaces317_ok : ∀ x ∈ hmTreePlaces317, HOk Try.prog x := hmemo_cons hTreePlaces316_ok hmTreePlaces316_ok
def hTreePlaces317 : HE := ⟨32, [(.agg [(eI 100),(.lit (.int .i64 (Int.negSucc 0))),(.lit (.slice none 0 0))]),(eI 3),(eI 3),(.lit (.int .i64 (Int.negSucc 1)))], [], [((.val eB0), [])]⟩
theorem hTreePlaces317_ok : HOk Try.prog hTreePlaces317 := hok_eq mmTreePlaces_ok hmTreePlaces317_ok folTreePlaces (lf := 100000) (k := 1000) (by kernel_rfl)
def hmTreePlaces318 : List HE := hTreePlaces317 :: hmTreePlaces317
theorem hmTreePlaces318_ok : ∀ x ∈ hmTreePlaces318, HOk Try.prog x := hmemo_cons hTreePlaces317_ok hmTreePlaces317_ok
def hTreePlaces318 : HE := ⟨32, [(.agg [(eI 100),(eI 0),(.sl 0 2 0 3 none 3)]),(eI 3),(eI 3),(eI 0)], [btreePlaces13, btreePlaces10], [((.val eB0), [])]⟩
theorem hTreePlaces318_ok : HOk Try.prog hTreePlaces318 := hok_eq mmTreePlaces_ok hmTreePlaces318_ok folTreePlaces (lf := 100000) (k := 1000) (by kernel_rfl)
def hmTreePlaces319 : List HE := hTreePlaces318 :: hmTreePlaces318
theorem hmTreePlaces319_ok : ∀ x ∈ hmTreePlaces319, HOk Try.prog x := hmemo_cons hTreePlaces318_ok hmTreePlaces318_ok
def hTreePlaces319 : HE := ⟨32, [(.agg [(eI 100),(eI 0),(.sl 0 2 0 3 none 3)]),(eI 3),(eI 3),(eI 1)], [btreePlaces15, btreePlaces16, btreePlaces10], [((.val eB0), [])]⟩
theorem hTreePlaces319_ok : HOk Try.prog hTreePlaces319 := hok_eq mmTreePlaces_ok hmTreePlaces319_ok folTreePlaces (lf := 100000) (k := 1000) (by kernel_rfl)
def hmTreePlaces320 : List HE := hTreePlaces319 :: hmTreePlaces319
theorem hmTreePlaces320_ok : ∀ x ∈ hmTreePlaces320, HOk Try.prog x := hmemo_cons hTreePlaces319_ok hmTreePlaces319_ok
def hTreePlaces320 : HE := ⟨32, [(.agg [(eI 101),(eI 2),(.lit (.slice none 0 0))]),(eI 3),(eI 3),(eI 0)], [], [((.val eB0), [])]⟩
theorem hTreePlaces320_ok : HOk Try.prog hTreePlaces320 := hok_eq mmTreePlaces_ok hmTreePlaces320_ok folTreePlaces (lf := 100000) (k := 1000) (by kernel_rfl)
def hmTreePlaces321 : List HE := hTreePlaces320 :: hmTreePlaces320
theorem hmTreePlaces321_ok : ∀ x ∈ hmTreePlaces321, HOk Try.prog x := hmemo_cons hTreePlaces320_ok hmTreePlaces320_ok
def hTreePlaces321 : HE := ⟨32, [(.agg [(eI 100),(eI 0),(.sl 0 2 0 3 none 3)]),(eI 3),(eI 3),(.lit (.int .i64 (Int.negSucc 0)))], [btreePlaces13, btreePlaces10], [((.val eB0), [])]⟩
theorem hTreePlaces321_ok : HOk Try.prog hTreePlaces321 := hok_eq mmTreePlaces_ok hmTreePlaces321_ok folTreePlaces (lf := 100000) (k := 1000) (by kernel_rfl)
def hmTreePlaces322 : List HE := hTreePlaces321 :: hmTreePlaces321
theorem hmTreePlaces322_ok : ∀ x ∈ hmTreePlaces322, HOk Try.prog x := hmemo_cons hTreePlaces321_ok hmTreePlaces321_ok
def hTreePlaces322 : HE := ⟨32, [(.agg [(eI 100),(eI 0),(.sl 0 2 0 3 none 3)]),(eI 3),(eI 3),(eI 0)], [btreePlaces15, btreePlaces16, btreePlaces10], [((.val eB0), [])]⟩
theorem hTreePlaces322_ok : HOk Try.prog hTreePlaces322 := hok_eq mmTreePlaces_ok hmTreePlaces322_ok folTreePlaces (lf := 100000) (k := 1000) (by kernel_rfl)
def hmTreePlaces323 : List HE := hTreePlaces322 :: hmTreePlaces322
theorem hmTreePlaces323_ok : ∀ x ∈ hmTreePlaces323, HOk Try.prog x := hmemo_cons hTreePlaces322_ok hmTreePlaces322_ok
def hTreePlaces323 : HE := ⟨32, [(.agg [(eI 100),(eI 0),(.sl 0 2 0 3 none 3)]),(eI 3),(eI 3),(.lit (.int .i64 (Int.negSucc 0)))], [btreePlaces15, btreePlaces16, btreePlaces10], [((.val eB0), [])]⟩
theorem hTreePlaces323_ok : HOk Try.prog hTreePlaces323 := hok_eq mmTreePlaces_ok hmTreePlaces323_ok folTreePlaces (lf := 100000) (k := 1000) (by kernel_rfl)
def hmTreePlaces324 : List HE := hTreePlaces323 :: hmTreePlaces323
theorem hmTreePlaces324_ok : ∀ x ∈ hmTreePlaces324, HOk Try.prog x := hmemo_cons hTreePlaces323_ok hmTreePlaces323_ok
def hTreePlaces324 : HE := ⟨32, [(.agg [(eI 101),(eI 2),(.lit (.slice none 0 0))]),(eI 3),(eI 2),(eI 4)], [], [((.val eB0), [])]⟩
theorem hTreePlaces324_ok : HOk Try.prog hTreePlaces324 := hok_eq mmTreePlaces_ok hmTreePlaces324_ok folTreePlaces (lf := 100000) (k := 1000) (by kernel_rfl)
def hmTreePlaces325 : List HE := hTreePlaces324 :: hmTreePlaces324
theorem hmTreePlaces325_ok : ∀ x ∈ hmTreePlaces325, HOk Try.prog x := hmemo_cons hTreePlaces324_ok hmTreePlaces324_ok
def hTreePlaces325 : HE := ⟨32, [(.agg [(eI 1),(.lit (.int .i64 (Int.negSucc 0))),(.lit (.slice none 0 0))]),(eI 3),(eI 2),(eI 4)], [], [((.val eB0), [])]⟩
theorem hTreePlaces325_ok : HOk Try.prog hTreePlaces325 := hok_eq mmTreePlaces_ok hmTreePlaces325_ok folTreePlaces (lf := 100000) (k := 1000) (by kernel_rfl)
def hmTreePlaces326 : List HE := hTreePlaces325 :: hmTreePlaces325
theorem hmTreePlaces326_ok : ∀ x ∈ hmTreePlaces326, HOk Try.prog x := hmemo_cons hTreePlaces325_ok hmTreePlaces325_ok
def hTreePlaces326 : HE := ⟨32, [(.agg [(eI 3),(.lit (.int .i64 (Int.negSucc 0))),(.lit (.slice none 0 0))]),(eI 3),(eI 2),(eI 3)], [], [((.val eB0), [])]⟩
theorem hTreePlaces326_ok : HOk Try.prog hTreePlaces326 := hok_eq mmTreePlaces_ok hmTreePlaces326_ok folTreePlaces (lf := 100000) (k := 1000) (by kernel_rfl)
def hmTreePlaces327 : List HE := hTreePlaces326 :: hmTreePlaces326
theorem hmTreePlaces327_ok : ∀ x ∈ hmTreePlaces327, HOk Try.prog x := hmemo_cons hTreePlaces326_ok hmTreePlaces326_ok
def hTreePlaces327 : HE := ⟨32, [(.agg [(eI 101),(eI 3),(.sl 0 0 0 1 none 3)]),(eI 3),(eI 2),(eI 3)], [btreePlaces10], [((.val eB0), [])]⟩
theorem hTreePlaces327_ok : HOk Try.prog hTreePlaces327 := hok_eq mmTreePlaces_ok hmTreePlaces327_ok folTreePlaces (lf := 100000) (k := 1000) (by kernel_rfl)
def hmTreePlaces328 : List HE := hTreePlaces327 :: hmTreePlaces327
theorem hmTreePlaces328_ok : ∀ x ∈ hmTreePlaces328, HOk Try.prog x := hmemo_cons hTreePlaces327_ok hmTreePlaces327_ok
def hTreePlaces328 : HE := ⟨32, [(.agg [(eI 1),(.lit (.int .i64 (Int.negSucc 0))),(.lit (.slice none 0 0))]),(eI 3),(eI 2),(eI 2)], [], [((.val eB0), [])]⟩
theorem hTreePlaces328_ok : HOk Try.prog hTreePlaces328 := hok_eq mmTreePlaces_ok hmTreePlaces328_ok folTreePlaces (lf := 100000) (k := 1000) (by kernel_rfl)
def hmTreePlaces329 : List HE := hTreePlaces328 :: hmTreePlaces328
theorem hmTreePlaces329_ok : ∀ x ∈ hmTreePlaces329, HOk Try.prog x := hmemo_cons hTreePlaces328_ok hmTreePlaces328_ok
def hTreePlaces329 : HE := ⟨32, [(.agg [(eI 100),(.lit (.int .i64 (Int.negSucc 0))),(.lit (.slice none 0 0))]),(eI 3),(eI 2),(eI 1)], [], [((.val eB0), [])]⟩
theorem hTreePlaces329_ok : HOk Try.prog hTreePlaces329 := hok_eq mmTreePlaces_ok hmTreePlaces329_ok folTreePlaces (lf := 100000) (k := 1000) (by kernel_rfl)
def hmTreePlaces330 : List HE := hTreePlaces329 :: hmTreePlaces329
theorem hmTreePlaces330_ok : ∀ x ∈ hmTreePlaces330, HOk Try.prog x := hmemo_cons hTreePlaces329_ok hmTreePlaces329_ok
def hTreePlaces330 : HE := ⟨32, [(.agg [(eI 100),(eI 0),(.sl 0 2 0 3 none 3)]),(eI 3),(eI 2),(eI 3)], [btreePlaces13, btreePlaces10], [((.val eB0), [])]⟩
theorem hTreePlaces330_ok : HOk Try.prog hTreePlaces330 := hok_eq mmTreePlaces_ok hmTreePlaces330_ok folTreePlaces (lf := 100000) (k := 1000) (by kernel_rfl)
def hmTreePlaces331 : List HE := hTreePlaces330 :: hmTreePlaces330
theorem hmTreePlaces331_ok : ∀ x ∈ hmTreePlaces331, HOk Try.prog x := hmemo_cons hTreePlaces330_ok hmTreePlaces330_ok
def hTreePlaces331 : HE := ⟨32, [(.agg [(eI 100),(eI 0),(.sl 0 2 0 3 none 3)]),(eI 3),(eI 2),(eI 4)], [btreePlaces15, btreePlaces16, btreePlaces10], [((.val eB0), [])]⟩
theorem hTreePlaces331_ok : HOk Try.prog hTreePlaces331 := hok_eq mmTreePlaces_ok hmTreePlaces331_ok folTreePlaces (lf := 100000) (k := 1000) (by kernel_rfl)
def hmTreePlaces332 : List HE := hTreePlaces331 :: hmTreePlaces331
theorem hmTreePlaces332_ok : ∀ x ∈ hmTreePlaces332, HOk Try.prog x := hmemo_cons hTreePlaces331_ok hmTreePlaces331_ok
def hTreePlaces332 : HE := ⟨32, [(.agg [(eI 101),(eI 2),(.lit (.slice none 0 0))]),(eI 3),(eI 2),(eI 3)], [], [((.val eB0), [])]⟩
theorem hTreePlaces332_ok : HOk Try.prog hTreePlaces332 := hok_eq mmTreePlaces_ok hmTreePlaces332_ok folTreePlaces (lf := 100000) (k := 1000) (by kernel_rfl)
def hmTreePlaces333 : List HE := hTreePlaces332 :: hmTreePlaces332
theorem hmTreePlaces333_ok : ∀ x ∈ hmTreePlaces333, HOk Try.prog x := hmemo_cons hTreePlaces332_ok hmTreePlaces332_ok
def hTreePlaces333 : HE := ⟨32, [(.agg [(eI 1),(.lit (.int .i64 (Int.negSucc 0))),(.lit (.slice none 0 0))]),(eI 3),(eI 2),(eI 3)], [], [((.val eB0), [])]⟩
theorem hTreePlaces333_ok : HOk Try.prog hTreePlaces333 := hok_eq mmTreePlaces_ok hmTreePlaces333_ok folTreePlaces (lf := 100000) (k := 1000) (by kernel_rfl)
def hmTreePlaces334 : List HE := hTreePlaces333 :: hmTreePlaces333
theorem hmTreePlaces334_ok : ∀ x ∈ hmTreePlaces334, HOk Try.prog x := hmemo_cons hTreePlaces333_ok hmTreePlaces333_ok
def hTreePlaces334 : HE := ⟨32, [(.agg [(eI 3),(.lit (.int .i64 (Int.negSucc 0))),(.lit (.slice none 0 0))]),(eI 3),(eI 2),(eI 2)], [], [((.val eB0), [])]⟩
theorem hTreePlaces334_ok : HOk Try.prog hTreePlaces334 := hok_eq mmTreePlaces_ok hmTreePlaces334_ok folTreePlaces (lf := 100000) (k := 1000) (by kernel_rfl)
def hmTreePlaces335 : List HE := hTreePlaces334 :: hmTreePlaces334
theorem hmTreePlaces335_ok : ∀ x ∈ hmTreePlaces335, HOk Try.prog x := hmemo_cons hTreePlaces334_ok hmTreePlaces334_ok
def hTreePlaces335 : HE := ⟨32, [(.agg [(eI 101),(eI 3),(.sl 0 0 0 1 none 3)]),(eI 3),(eI 2),(eI 2)], [btreePlaces10], [((.val eB0), [])]⟩
theorem hTreePlaces335_ok : HOk Try.prog hTreePlaces335 := hok_eq mmTreePlaces_ok hmTreePlaces335_ok folTreePlaces (lf := 100000) (k := 1000) (by kernel_rfl)
def hmTreePlaces336 : List HE := hTreePlaces335 :: hmTreePlaces335
theorem hmTreePlaces336_ok : ∀ x ∈ hmTreePlaces336, HOk Try.prog x := hmemo_cons hTreePlaces335_ok hmTreePlaces335_ok
def hTreePlaces336 : HE := ⟨32, [(.agg [(eI 1),(.lit (.int .i64 (Int.negSucc 0))),(.lit (.slice none 0 0))]),(eI 3),(eI 2),(eI 1)], [], [((.val eB0), [])]⟩
theorem hTreePlaces336_ok : HOk Try.prog hTreePlaces336 := hok_eq mmTreePlaces_ok hmTreePlaces336_ok folTreePlaces (lf := 100000) (k := 1000) (by kernel_rfl)
def hmTreePlaces337 : List HE := hTreePlaces336 :: hmTreePlaces336
theorem hmTreePlaces337_ok : ∀ x ∈ hmTreePlaces337, HOk Try.prog x := hmemo_cons hTreePlaces336_ok hmTreePlaces336_ok
def hTreePlaces337 : HE := ⟨32, [(.agg [(eI 100),(.lit (.int .i64 (Int.negSucc 0))),(.lit (.slice none 0 0))]),(eI 3),(eI 2),(eI 0)], [], [((.val eB0), [])]⟩
theorem hTreePlaces337_ok : HOk Try.prog hTreePlaces337 := hok_eq mmTreePlaces_ok hmTreePlaces337_ok folTreePlaces (lf := 100000) (k := 1000) (by kernel_rfl)
def hmTreePlaces338 : List HE := hTreePlaces337 :: hmTreePlaces337
theorem hmTreePlaces338_ok : ∀ x ∈ hmTreePlaces338, HOk Try.prog x := hmemo_cons hTreePlaces337_ok hmTreePlaces337_ok
def hTreePlaces338 : HE := ⟨32, [(.agg [(eI 100),(eI 0),(.sl 0 2 0 3 none 3)]),(eI 3),(eI 2),(eI 2)], [btreePlaces13, btreePlaces10], [((.val eB0), [])]⟩
theorem hTreePlaces338_ok : HOk Try.prog hTreePlaces338 := hok_eq mmTreePlaces_ok hmTreePlaces338_ok folTreePlaces (lf := 100000) (k := 1000) (by kernel_rfl)
def hmTreePlaces339 : List HE := hTreePlaces338 :: hmTreePlaces338
theorem hmTreePlaces339_ok : ∀ x ∈ hmTreePlaces339, HOk Try.prog x := hmemo_cons hTreePlaces338_ok hmTreePlaces338_ok
def hTreePlaces339 : HE := ⟨32, [(.agg [(eI 100),(eI 0),(.sl 0 2 0 3 none 3)]),(eI 3),(eI 2),(eI 3)], [btreePlaces15, btreePlaces16, btreePlaces10], [((.val eB0), [])]⟩
theorem hTreePlaces339_ok : HOk Try.prog hTreePlaces339 := hok_eq mmTreePlaces_ok hmTreePlaces339_ok folTreePlaces (lf := 100000) (k := 1000) (by kernel_rfl)
def hmTreePlaces340 : List HE := hTreePlaces339 :: hmTreePlaces339
theorem hmTreePlaces340_ok : ∀ x ∈ hmTreePlaces340, HOk Try.prog x := hmemo_cons hTreePlaces339_ok hmTreePlaces339_ok
def hTreePlaces340 : HE := ⟨32, [(.agg [(eI 101),(eI 2),(.lit (.slice none 0 0))]),(eI 3),(eI 2),(eI 2)], [], [((.val eB0), [])]⟩
theorem hTreePlaces340_ok : HOk Try.prog hTreePlaces340 := hok_eq mmTreePlaces_ok hmTreePlaces340_ok folTreePlaces (lf := 100000) (k := 1000) (by kernel_rfl)
def hmTreePlaces341 : List HE := hTreePlaces340 :: hmTreePlaces340
theorem hmTreePlaces341_ok : ∀ x ∈ hmTreePlaces341, HOk Try.prog x := hmemo_cons hTreePlaces340_ok hmTreePlaces340_ok
def hTreePlaces341 : HE := ⟨32, [(.agg [(eI 3),(.lit (.int .i64 (Int.negSucc 0))),(.lit (.slice none 0 0))]),(eI 3),(eI 2),(eI 1)], [], [((.val eB0), [])]⟩
theorem hTreePlaces341_ok : HOk Try.prog hTreePlaces341 := hok_eq mmTreePlaces_ok hmTreePlaces341_ok folTreePlaces (lf := 100000) (k := 1000) (by kernel_rfl)
def hmTreePlaces342 : List HE := hTreePlaces341 :: hmTreePlaces341
theorem hmTreePlaces342_ok : ∀ x ∈ hmTreePlaces342, HOk Try.prog x := hmemo_cons hTreePlaces341_ok hmTreePlaces341_ok
def hTreePlaces342 : HE := ⟨32, [(.agg [(eI 101),(eI 3),(.sl 0 0 0 1 none 3)]),(eI 3),(eI 2),(eI 1)], [btreePlaces10], [((.val eB0), [])]⟩
theorem hTreePlaces342_ok : HOk Try.prog hTreePlaces342 := hok_eq mmTreePlaces_ok hmTreePlaces342_ok folTreePlaces (lf := 100000) (k := 1000) (by kernel_rfl)
def hmTreePlaces343 : List HE := hTreePlaces342 :: hmTreePlaces342
theorem hmTreePlaces343_ok : ∀ x ∈ hmTreePlaces343, HOk Try.prog x := hmemo_cons hTreePlaces342_ok hmTreePlaces342_ok
def hTreePlaces343 : HE := ⟨32, [(.agg [(eI 1),(.lit (.int .i64 (Int.negSucc 0))),(.lit (.slice none 0 0))]),(eI 3),(eI 2),(eI 0)], [], [((.val eB0), [])]⟩
theorem hTreePlaces343_ok : HOk Try.prog hTreePlaces343 := hok_eq mmTreePlaces_ok hmTreePlaces343_ok folTreePlaces (lf := 100000) (k := 1000) (by kernel_rfl)
def hmTreePlaces344 : List HE := hTreePlaces343 :: hmTreePlaces343
theorem hmTreePlaces344_ok : ∀ x ∈ hmTreePlaces344, HOk Try.prog x := hmemo_cons hTreePlaces343_ok hmTreePlaces343_ok
def hTreePlaces344 : HE := ⟨32, [(.agg [(eI 100),(.lit (.int .i64 (Int.negSucc 0))),(.lit (.slice none 0 0))]),(eI 3),(eI 2),(.lit (.int .i64 (Int.negSucc 0)))], [], [((.val eB0), [])]⟩
theorem hTreePlaces344_ok : HOk Try.prog hTreePlaces344 := hok_eq mmTreePlaces_ok hmTreePlaces344_ok folTreePlaces (lf := 100000) (k := 1000) (by kernel_rfl)
def hmTreePlaces345 : List HE := hTreePlaces344 :: hmTreePlaces344
theorem hmTreePlaces345_ok : ∀ x ∈ hmTreePlaces345, HOk Try.prog x := hmemo_cons hTreePlaces344_ok hmTreePlaces344_ok
def hTreePlaces345 : HE := ⟨32, [(.agg [(eI 100),(eI 0),(.sl 0 2 0 3 none 3)]),(eI 3),(eI 2),(eI 1)], [btreePlaces13, btreePlaces10], [((.val eB0), [])]⟩
theorem hTreePlaces345_ok : HOk Try.prog hTreePlaces345 := hok_eq mmTreePlaces_ok hmTreePlaces345_ok folTreePlaces (lf := 100000) (k := 1000) (by kernel_rfl)
def hmTreePlaces346 : List HE := hTreePlaces345 :: hmTreePlaces345
theorem hmTreePlaces346_ok : ∀ x ∈ hmTreePlaces346, HOk Try.prog x := hmemo_cons hTreePlaces345_ok hmTreePlaces345_ok
def hTreePlaces346 : HE := ⟨32, [(.agg [(eI 100),(eI 0),(.sl 0 2 0 3 none 3)]),(eI 3),(eI 2),(eI 2)], [btreePlaces15, btreePlaces16, btreePlaces10], [((.val eB0), [])]⟩
theorem hTreePlaces346_ok : HOk Try.prog hTreePlaces346 := hok_eq mmTreePlaces_ok hmTreePlaces346_ok folTreePlaces (lf := 100000) (k := 1000) (by kernel_rfl)
def hmTreePlaces347 : List HE := hTreePlaces346 :: hmTreePlaces346
theorem hmTreePlaces347_ok : ∀ x ∈ hmTreePlaces347, HOk Try.prog x := hmemo_cons hTreePlaces346_ok hmTreePlaces346_ok
def hTreePlaces347 : HE := ⟨32, [(.agg [(eI 101),(eI 2),(.lit (.slice none 0 0))]),(eI 3),(eI 2),(eI 1)], [], [((.val eB0), [])]⟩
theorem hTreePlaces347_ok : HOk Try.prog hTreePlaces347 := hok_eq mmTreePlaces_ok hmTreePlaces347_ok folTreePlaces (lf := 100000) (k := 1000) (by kernel_rfl)
def hmTreePlaces348 : List HE := hTreePlaces347 :: hmTreePlaces347
theorem hmTreePlaces348_ok : ∀ x ∈ hmTreePlaces348, HOk Try.prog x := hmemo_cons hTreePlaces347_ok hmTreePlaces347_ok
def hTreePlaces348 : HE := ⟨32, [(.agg [(eI 3),(.lit (.int .i64 (Int.negSucc 0))),(.lit (.slice none 0 0))]),(eI 3),(eI 2),(eI 0)], [], [((.val eB0), [])]⟩
theorem hTreePlaces348_ok : HOk Try.prog hTreePlaces348 := hok_eq mmTreePlaces_ok hmTreePlaces348_ok folTreePlaces (lf := 100000) (k := 1000) (by kernel_rfl)
def hmTreePlaces349 : List HE := hTreePlaces348 :: hmTreePlaces348
theorem hmTreePlaces349_ok : ∀ x ∈ hmTreePlaces349, HOk Try.prog x := hmemo_cons hTreePlaces348_ok hmTreePlaces348_ok
def hTreePlaces349 : HE := ⟨32, [(.agg [(eI 101),(eI 3),(.sl 0 0 0 1 none 3)]),(eI 3),(eI 2),(eI 0)], [btreePlaces10], [((.val eB0), [])]⟩
theorem hTreePlaces349_ok : HOk Try.prog hTreePlaces349 := hok_eq mmTreePlaces_ok hmTreePlaces349_ok folTreePlaces (lf := 100000) (k := 1000) (by kernel_rfl)
def hmTreePlaces350 : List HE := hTreePlaces349 :: hmTreePlaces349
theorem hmTreePlaces350_ok : ∀ x ∈ hmTreePlaces350, HOk Try.prog x := hmemo_cons hTreePlaces349_ok hmTreePlaces349_ok
def hTreePlaces350 : HE := ⟨32, [(.agg [(eI 1),(.lit (.int .i64 (Int.negSucc 0))),(.lit (.slice none 0 0))]),(eI 3),(eI 2),(.lit (.int .i64 (Int.negSucc 0)))], [], [((.val eB0), [])]⟩
theorem hTreePlaces350_ok : HOk Try.prog hTreePlaces350 := hok_eq mmTreePlaces_ok hmTreePlaces350_ok folTreePlaces (lf := 100000) (k := 1000) (by kernel_rfl)
def hmTreePlaces351 : List HE := hTreePlaces350 :: hmTreePlaces350
theorem hmTreePlaces351_ok : ∀ x ∈ hmTreePlaces351, HOk Try.prog x := hmemo_cons hTreePlaces350_ok hmTreePlaces350_ok
def hTreePlaces351 : HE := ⟨32, [(.agg [(eI 100),(.lit (.int .i64 (Int.negSucc 0))),(.lit (.slice none 0 0))]),(eI 3),(eI 2),(.lit (.int .i64 (Int.negSucc 1)))], [], [((.val eB0), [])]⟩
theorem hTreePlaces351_ok : HOk Try.prog hTreePlaces351 := hok_eq mmTreePlaces_ok hmTreePlaces351_ok folTreePlaces (lf := 100000) (k := 1000) (by kernel_rfl)
def hmTreePlaces352 : List HE := hTreePlaces351 :: hmTreePlaces351
theorem hmTreePlaces352_ok : ∀ x ∈ hmTreePlaces352, HOk Try.prog x := hmemo_cons hTreePlaces351_ok hmTreePlaces351_ok
def hTreePlaces352 : HE := ⟨32, [(.agg [(eI 100),(eI 0),(.sl 0 2 0 3 none 3)]),(eI 3),(eI 2),(eI 0)], [btreePlaces13, btreePlaces10], [((.val eB0), [])]⟩
theorem hTreePlaces352_ok : HOk Try.prog hTreePlaces352 := hok_eq mmTreePlaces_ok hmTreePlaces352_ok folTreePlaces (lf := 100000) (k := 1000) (by kernel_rfl)
def hmTreePlaces353 : List HE := hTreePlaces352 :: hmTreePlaces352
theorem hmTreePlaces353_ok : ∀ x ∈ hmTreePlaces353, HOk Try.prog x := hmemo_cons hTreePlaces352_ok hmTreePlaces352_ok
def hTreePlaces353 : HE := ⟨32, [(.agg [(eI 100),(eI 0),(.sl 0 2 0 3 none 3)]),(eI 3),(eI 2),(eI 1)], [btreePlaces15, btreePlaces16, btreePlaces10], [((.val eB0), [])]⟩
theorem hTreePlaces353_ok : HOk Try.prog hTreePlaces353 := hok_eq mmTreePlaces_ok hmTreePlaces353_ok folTreePlaces (lf := 100000) (k := 1000) (by kernel_rfl)
def hmTreePlaces354 : List HE := hTreePlaces353 :: hmTreePlaces353
theorem hmTreePlaces354_ok : ∀ x ∈ hmTreePlaces354, HOk Try.prog x := hmemo_cons hTreePlaces353_ok hmTreePlaces353_ok
def hTreePlaces354 : HE := ⟨32, [(.agg [(eI 101),(eI 2),(.lit (.slice none 0 0))]),(eI 3),(eI 2),(eI 0)], [], [((.val eB0), [])]⟩
theorem hTreePlaces354_ok : HOk Try.prog hTreePlaces354 := hok_eq mmTreePlaces_ok hmTreePlaces354_ok folTreePlaces (lf := 100000) (k := 1000) (by kernel_rfl)
def hmTreePlaces355 : List HE := hTreePlaces354 :: hmTreePlaces354
theorem hmTreePlaces355_ok : ∀ x ∈ hmTreePlaces355, HOk Try.prog x := hmemo_cons hTreePlaces354_ok hmTreePlaces354_ok
def hTreePlaces355 : HE := ⟨32, [(.agg [(eI 100),(eI 0),(.sl 0 2 0 3 none 3)]),(eI 3),(eI 2),(.lit (.int .i64 (Int.negSucc 0)))], [btreePlaces13, btreePlaces10], [((.val eB0), [])]⟩
theorem hTreePlaces355_ok : HOk Try.prog hTreePlaces355 := hok_eq mmTreePlaces_ok hmTreePlaces355_ok folTreePlaces (lf := 100000) (k := 1000) (by kernel_rfl)
def hmTreePlaces356 : List HE := hTreePlaces355 :: hmTreePlaces355
theorem hmTreePlaces356_ok : ∀ x ∈ hmTreePlaces356, HOk Try.prog x := hmemo_cons hTreePlaces355_ok hmTreePlaces355_ok
def hTreePlaces356 : HE := ⟨32, [(.agg [(eI 100),(eI 0),(.sl 0 2 0 3 none 3)]),(eI 3),(eI 2),(eI 0)], [btreePlaces15, btreePlaces16, btreePlaces10], [((.val eB0), [])]⟩
theorem hTreePlaces356_ok : HOk Try.prog hTreePlaces356 := hok_eq mmTreePlaces_ok hmTreePlaces356_ok folTreePlaces (lf := 100000) (k := 1000) (by kernel_rfl)
def hmTreePlaces357 : List HE := hTreePlaces356 :: hmTreePlaces356
theorem hmTreePlaces357_ok : ∀ x ∈ hmTreePlaces357, HOk Try.prog x := hmemo_cons hTreePlaces356_ok hmTreePlaces356_ok
def hTreePlaces357 : HE := ⟨32, [(.agg [(eI 100),(eI 0),(.sl 0 2 0 3 none 3)]),(eI 3),(eI 2),(.lit (.int .i64 (Int.negSucc 0)))], [btreePlaces15, btreePlaces16, btreePlaces10], [((.val eB0), [])]⟩
theorem hTreePlaces357_ok : HOk Try.prog hTreePlaces357 := hok_eq mmTreePlaces_ok hmTreePlaces357_ok folTreePlaces (lf := 100000) (k := 1000) (by kernel_rfl)
def hmTreePlaces358 : List HE := hTreePlaces357 :: hmTreePlaces357
theorem hmTreePlaces358_ok : ∀ x ∈ hmTreePlaces358, HOk Try.prog x := hmemo_cons hTreePlaces357_ok hmTreePlaces357_ok
def hTreePlaces358 : HE := ⟨32, [(.agg [(eI 101),(eI 2),(.lit (.slice none 0 0))]),(eI 3),(eI 1),(eI 4)], [], [((.val eB0), [])]⟩
theorem hTreePlaces358_ok : HOk Try.prog hTreePlaces358 := hok_eq mmTreePlaces_ok hmTreePlaces358_ok folTreePlaces (lf := 100000) (k := 1000) (by kernel_rfl)
def hmTreePlaces359 : List HE := hTreePlaces358 :: hmTreePlaces358
theorem hmTreePlaces359_ok : ∀ x ∈ hmTreePlaces359, HOk Try.prog x := hmemo_cons hTreePlaces358_ok hmTreePlaces358_ok
def hTreePlaces359 : HE := ⟨32, [(.agg [(eI 1),(.lit (.int .i64 (Int.negSucc 0))),(.lit (.slice none 0 0))]),(eI 3),(eI 1),(eI 4)], [], [((.val eB0), [])]⟩
theorem hTreePlaces359_ok : HOk Try.prog hTreePlaces359 := hok_eq mmTreePlaces_ok hmTreePlaces359_ok folTreePlaces (lf := 100000) (k := 1000) (by kernel_rfl)
def hmTreePlaces360 : List HE := hTreePlaces359 :: hmTreePlaces359
theorem hmTreePlaces360_ok : ∀ x ∈ hmTreePlaces360, HOk Try.prog x := hmemo_cons hTreePlaces359_ok hmTreePlaces359_ok
def hTreePlaces360 : HE := ⟨32, [(.agg [(eI 3),(.lit (.int .i64 (Int.negSucc 0))),(.lit (.slice none 0 0))]),(eI 3),(eI 1),(eI 3)], [], [((.val eB0), [])]⟩
theorem hTreePlaces360_ok : HOk Try.prog hTreePlaces360 := hok_eq mmTreePlaces_ok hmTreePlaces360_ok folTreePlaces (lf := 100000) (k := 1000) (by kernel_rfl)
def hmTreePlaces361 : List HE := hTreePlaces360 :: hmTreePlaces360
theorem hmTreePlaces361_ok : ∀ x ∈ hmTreePlaces361, HOk Try.prog x := hmemo_cons hTreePlaces360_ok hmTreePlaces360_ok
def hTreePlaces361 : HE := ⟨32, [(.agg [(eI 101),(eI 3),(.sl 0 0 0 1 none 3)]),(eI 3),(eI 1),(eI 3)], [btreePlaces10], [((.val eB0), [])]⟩
theorem hTreePlaces361_ok : HOk Try.prog hTreePlaces361 := hok_eq mmTreePlaces_ok hmTreePlaces361_ok folTreePlaces (lf := 100000) (k := 1000) (by kernel_rfl)
def hmTreePlaces362 : List HE := hTreePlaces361 :: hmTreePlaces361
theorem hmTreePlaces362_ok : ∀ x ∈ hmTreePlaces362, HOk Try.prog x := hmemo_cons hTreePlaces361_ok hmTreePlaces361_ok
def hTreePlaces362 : HE := ⟨32, [(.agg [(eI 1),(.lit (.int .i64 (Int.negSucc 0))),(.lit (.slice none 0 0))]),(eI 3),(eI 1),(eI 2)], [], [((.val eB0), [])]⟩
theorem hTreePlaces362_ok : HOk Try.prog hTreePlaces362 := hok_eq mmTreePlaces_ok hmTreePlaces362_ok folTreePlaces (lf := 100000) (k := 1000) (by kernel_rfl)
def hmTreePlaces363 : List HE := hTreePlaces362 :: hmTreePlaces362
theorem hmTreePlaces363_ok : ∀ x ∈ hmTreePlaces363, HOk Try.prog x := hmemo_cons hTreePlaces362_ok hmTreePlaces362_ok
def hTreePlaces363 : HE := ⟨32, [(.agg [(eI 100),(.lit (.int .i64 (Int.negSucc 0))),(.lit (.slice none 0 0))]),(eI 3),(eI 1),(eI 1)], [], [((.val eB0), [])]⟩
theorem hTreePlaces363_ok : HOk Try.prog hTreePlaces363 := hok_eq mmTreePlaces_ok hmTreePlaces363_ok folTreePlaces (lf := 100000) (k := 1000) (by kernel_rfl)
def hmTreePlaces364 : List HE := hTreePlaces363 :: hmTreePlaces363
theorem hmTreePlaces364_ok : ∀ x ∈ hmTreePlaces364, HOk Try.prog x := hmemo_cons hTreePlaces363_ok hmTreePlaces363_ok
def hTreePlaces364 : HE := ⟨32, [(.agg [(eI 100),(eI 0),(.sl 0 2 0 3 none 3)]),(eI 3),(eI 1),(eI 3)], [btreePlaces13, btreePlaces10], [((.val eB0), [])]⟩
theorem hTreePlaces364_ok : HOk Try.prog hTreePlaces364 := hok_eq mmTreePlaces_ok hmTreePlaces364_ok folTreePlaces (lf := 100000) (k := 1000) (by kernel_rfl)
def hmTreePlaces365 : List HE := hTreePlaces364 :: hmTreePlaces364
theorem hmTreePlaces365_ok : ∀ x ∈ hmTreePlaces365, HOk Try.prog x := hmemo_cons hTreePlaces364_ok hmTreePlaces364_ok
def hTreePlaces365 : HE := ⟨32, [(.agg [(eI 100),(eI 0),(.sl 0 2 0 3 none 3)]),(eI 3),(eI 1),(eI 4)], [btreePlaces15, btreePlaces16, btreePlaces10], [((.val eB0), [])]⟩
theorem hTreePlaces365_ok : HOk Try.prog hTreePlaces365 := hok_eq mmTreePlaces_ok hmTreePlaces365_ok folTreePlaces (lf := 100000) (k := 1000) (by kernel_rfl)
def hmTreePlaces366 : List HE := hTreePlaces365 :: hmTreePlaces365
theorem hmTreePlaces366_ok : ∀ x ∈ hmTreePlaces366, HOk Try.prog x := hmemo_cons hTreePlaces365_ok hmTreePlaces365_ok
def hTreePlaces366 : HE := ⟨32, [(.agg [(eI 101),(eI 2),(.lit (.slice none 0 0))]),(eI 3),(eI 1),(eI 3)], [], [((.val eB0), [])]⟩
theorem hTreePlaces366_ok : HOk Try.prog hTreePlaces366 := hok_eq mmTreePlaces_ok hmTreePlaces366_ok folTreePlaces (lf := 100000) (k := 1000) (by kernel_rfl)
def hmTreePlaces367 : List HE := hTreePlaces366 :: hmTreePlaces366
theorem hmTreePlaces367_ok : ∀ x ∈ hmTreePlaces367, HOk Try.prog x := hmemo_cons hTreePlaces366_ok hmTreePlaces366_ok
def hTreePlaces367 : HE := ⟨32, [(.agg [(eI 1),(.lit (.int .i64 (Int.negSucc 0))),(.lit (.slice none 0 0))]),(eI 3),(eI 1),(eI 3)], [], [((.val eB0), [])]⟩
theorem hTreePlaces367_ok : HOk Try.prog hTreePlaces367 := hok_eq mmTreePlaces_ok hmTreePlaces367_ok folTreePlaces (lf := 100000) (k := 1000) (by kernel_rfl)
def hmTreePlaces368 : List HE := hTreePlaces367 :: hmTreePlaces367
theorem hmTreePlaces368_ok : ∀ x ∈ hmTreePlaces368, HOk Try.prog x := hmemo_cons hTreePlaces367_ok hmTreePlaces367_ok
def hTreePlaces368 : HE := ⟨32, [(.agg [(eI 3),(.lit (.int .i64 (Int.negSucc 0))),(.lit (.slice none 0 0))]),(eI 3),(eI 1),(eI 2)], [], [((.val eB0), [])]⟩
theorem hTreePlaces368_ok : HOk Try.prog hTreePlaces368 := hok_eq mmTreePlaces_ok hmTreePlaces368_ok folTreePlaces (lf := 100000) (k := 1000) (by kernel_rfl)
def hmTreePlaces369 : List HE := hTreePlaces368 :: hmTreePlaces368
theorem hmTreePlaces369_ok : ∀ x ∈ hmTreePlaces369, HOk Try.prog x := hmemo_cons hTreePlaces368_ok hmTreePlaces368_ok
def hTreePlaces369 : HE := ⟨32, [(.agg [(eI 101),(eI 3),(.sl 0 0 0 1 none 3)]),(eI 3),(eI 1),(eI 2)], [btreePlaces10], [((.val eB0), [])]⟩
theorem hTreePlaces369_ok : HOk Try.prog hTreePlaces369 := hok_eq mmTreePlaces_ok hmTreePlaces369_ok folTreePlaces (lf := 100000) (k := 1000) (by kernel_rfl)
def hmTreePlaces370 : List HE := hTreePlaces369 :: hmTreePlaces369
theorem hmTreePlaces370_ok : ∀ x ∈ hmTreePlaces370, HOk Try.prog x := hmemo_cons hTreePlaces369_ok hmTreePlaces369_ok
def hTreePlaces370 : HE := ⟨32, [(.agg [(eI 1),(.lit (.int .i64 (Int.negSucc 0))),(.lit (.slice none 0 0))]),(eI 3),(eI 1),(eI 1)], [], [((.val eB0), [])]⟩
theorem hTreePlaces370_ok : HOk Try.prog hTreePlaces370 := hok_eq mmTreePlaces_ok hmTreePlaces370_ok folTreePlaces (lf := 100000) (k := 1000) (by kernel_rfl)
def hmTreePlaces371 : List HE := hTreePlaces370 :: hmTreePlaces370
theorem hmTreePlaces371_ok : ∀ x ∈ hmTreePlaces371, HOk Try.prog x := hmemo_cons hTreePlaces370_ok hmTreePlaces370_ok
def hTreePlaces371 : HE := ⟨32, [(.agg [(eI 100),(.lit (.int .i64 (Int.negSucc 0))),(.lit (.slice none 0 0))]),(eI 3),(eI 1),(eI 0)], [], [((.val eB0), [])]⟩
theorem hTreePlaces371_ok : HOk Try.prog hTreePlaces371 := hok_eq mmTreePlaces_ok hmTreePlaces371_ok folTreePlaces (lf := 100000) (k := 1000) (by kernel_rfl)
def hmTreePlaces372 : List HE := hTreePlaces371 :: hmTreePlaces371
theorem hmTreePlaces372_ok : ∀ x ∈ hmTreePlaces372, HOk Try.prog x := hmemo_cons hTreePlaces371_ok hmTreePlaces371_ok
def hTreePlaces372 : HE := ⟨32, [(.agg [(eI 100),(eI 0),(.sl 0 2 0 3 none 3)]),(eI 3),(eI 1),(eI 2)], [btreePlaces13, btreePlaces10], [((.val eB0), [])]⟩
theorem hTreePlaces372_ok : HOk Try.prog hTreePlaces372 := hok_eq mmTreePlaces_ok hmTreePlaces372_ok folTreePlaces (lf := 100000) (k := 1000) (by kernel_rfl)
def hmTreePlaces373 : List HE := hTreePlaces372 :: hmTreePlaces372
theorem hmTreePlaces373_ok : ∀ x ∈ hmTreePlaces373, HOk Try.prog x := hmemo_cons hTreePlaces372_ok hmTreePlaces372_ok
def hTreePlaces373 : HE := ⟨32, [(.agg [(eI 100),(eI 0),(.sl 0 2 0 3 none 3)]),(eI 3),(eI 1),(eI 3)], [btreePlaces15, btreePlaces16, btreePlaces10], [((.val eB0), [])]⟩
theorem hTreePlaces373_ok : HOk Try.prog hTreePlaces373 := hok_eq mmTreePlaces_ok hmTreePlaces373_ok folTreePlaces (lf := 100000) (k := 1000) (by kernel_rfl)
def hmTreePlaces374 : List HE := hTreePlaces373 :: hmTreePlaces373
theorem hmTreePlaces374_ok : ∀ x ∈ hmTreePlaces374, HOk Try.prog x := hmemo_cons hTreePlaces373_ok hmTreePlaces373_ok
def hTreePlaces374 : HE := ⟨32, [(.agg [(eI 101),(eI 2),(.lit (.slice none 0 0))]),(eI 3),(eI 1),(eI 2)], [], [((.val eB0), [])]⟩
theorem hTreePlaces374_ok : HOk Try.prog hTreePlaces374 := hok_eq mmTreePlaces_ok hmTreePlaces374_ok folTreePlaces (lf := 100000) (k := 1000) (by kernel_rfl)
def hmTreePlaces375 : List HE := hTreePlaces374 :: hmTreePlaces374
theorem hmTreePlaces375_ok : ∀ x ∈ hmTreePlaces375, HOk Try.prog x := hmemo_cons hTreePlaces374_ok hmTreePlaces374_ok
def hTreePlaces375 : HE := ⟨32, [(.agg [(eI 3),(.lit (.int .i64 (Int.negSucc 0))),(.lit (.slice none 0 0))]),(eI 3),(eI 1),(eI 1)], [], [((.val eB0), [])]⟩
theorem hTreePlaces375_ok : HOk Try.prog hTreePlaces375 := hok_eq mmTreePlaces_ok hmTreePlaces375_ok folTreePlaces (lf := 100000) (k := 1000) (by kernel_rfl)
def hmTreePlaces376 : List HE := hTreePlaces375 :: hmTreePlaces375
theorem hmTreePlaces376_ok : ∀ x ∈ hmTreePlaces376, HOk Try.prog x := hmemo_cons hTreePlaces375_ok hmTreePlaces375_ok
def hTreePlaces376 : HE := ⟨32, [(.agg [(eI 101),(eI 3),(.sl 0 0 0 1 none 3)]),(eI 3),(eI 1),(eI 1)], [btreePlaces10], [((.val eB1), [])]⟩
theorem hTreePlaces376_ok : HOk Try.prog hTreePlaces376 := hok_eq mmTreePlaces_ok hmTreePlaces376_ok folTreePlaces (lf := 100000) (k := 1000) (by kernel_rfl)
def hmTreePlaces377 : List HE := hTreePlaces376 :: hmTreePlaces376
theorem hmTreePlaces377_ok : ∀ x ∈ hmTreePlaces377, HOk Try.prog x := hmemo_cons hTreePlaces376_ok hmTreePlaces376_ok
def hTreePlaces377 : HE := ⟨32, [(.agg [(eI 100),(eI 0),(.sl 0 2 0 3 none 3)]),(eI 3),(eI 1),(eI 1)], [btreePlaces13, btreePlaces10], [((.val eB1), [])]⟩
theorem hTreePlaces377_ok : HOk Try.prog hTreePlaces377 := hok_eq mmTreePlaces_ok hmTreePlaces377_ok folTreePlaces (lf := 100000) (k := 1000) (by kernel_rfl)
def hmTreePlaces378 : List HE := hTreePlaces377 :: hmTreePlaces377
theorem hmTreePlaces378_ok : ∀ x ∈ hmTreePlaces378, HOk Try.prog x := hmemo_cons hTreePlaces377_ok hmTreePlaces377_ok
def hTreePlaces378 : HE := ⟨32, [(.agg [(eI 100),(eI 0),(.sl 0 2 0 3 none 3)]),(eI 3),(eI 1),(eI 2)], [btreePlaces15, btreePlaces16, btreePlaces10], [((.val eB1), [])]⟩
theorem hTreePlaces378_ok : HOk Try.prog hTreePlaces378 := hok_eq mmTreePlaces_ok hmTreePlaces378_ok folTreePlaces (lf := 100000) (k := 1000) (by kernel_rfl)
def hmTreePlaces379 : List HE := hTreePlaces378 :: hmTreePlaces378
theorem hmTreePlaces379_ok : ∀ x ∈ hmTreePlaces379, HOk Try.prog x := hmemo_cons hTreePlaces378_ok hmTreePlaces378_ok
def hTreePlaces379 : HE := ⟨32, [(.agg [(eI 101),(eI 2),(.lit (.slice none 0 0))]),(eI 3),(eI 1),(eI 1)], [], [((.val eB0), [])]⟩
theorem hTreePlaces379_ok : HOk Try.prog hTreePlaces379 := hok_eq mmTreePlaces_ok hmTreePlaces379_ok folTreePlaces (lf := 100000) (k := 1000) (by kernel_rfl)
def hmTreePlaces380 : List HE := hTreePlaces379 :: hmTreePlaces379
theorem hmTreePlaces380_ok : ∀ x ∈ hmTreePlaces380, HOk Try.prog x := hmemo_cons hTreePlaces379_ok hmTreePlaces379_ok
def hTreePlaces380 : HE := ⟨32, [(.agg [(eI 3),(.lit (.int .i64 (Int.negSucc 0))),(.lit (.slice none 0 0))]),(eI 3),(eI 1),(eI 0)], [], [((.val eB0), [])]⟩
theorem hTreePlaces380_ok : HOk Try.prog hTreePlaces380 := hok_eq mmTreePlaces_ok hmTreePlaces380_ok folTreePlaces (lf := 100000) (k := 1000) (by kernel_rfl)
def hmTreePlaces381 : List HE := hTreePlaces380 :: hmTreePlaces380
theorem hmTreePlaces381_ok : ∀ x ∈ hmTreePlaces381, HOk Try.prog x := hmemo_cons hTreePlaces380_ok hmTreePlaces380_ok
def hTreePlaces381 : HE := ⟨32, [(.agg [(eI 101),(eI 3),(.sl 0 0 0 1 none 3)]),(eI 3),(eI 1),(eI 0)], [btreePlaces10], [((.val eB0), [])]⟩
theorem hTreePlaces381_ok : HOk Try.prog hTreePlaces381 := hok_eq mmTreePlaces_ok hmTreePlaces381_ok folTreePlaces (lf := 100000) (k := 1000) (by kernel_rfl)
def hmTreePlaces382 : List HE := hTreePlaces381 :: hmTreePlaces381
theorem hmTreePlaces382_ok : ∀ x ∈ hmTreePlaces382, HOk Try.prog x := hmemo_cons hTreePlaces381_ok hmTreePlaces381_ok
def hTreePlaces382 : HE := ⟨32, [(.agg [(eI 1),(.lit (.int .i64 (Int.negSucc 0))),(.lit (.slice none 0 0))]),(eI 3),(eI 1),(.lit (.int .i64 (Int.negSucc 0)))], [], [((.val eB0), [])]⟩
theorem hTreePlaces382_ok : HOk Try.prog hTreePlaces382 := hok_eq mmTreePlaces_ok hmTreePlaces382_ok folTreePlaces (lf := 100000) (k := 1000) (by kernel_rfl)
def hmTreePlaces383 : List HE := hTreePlaces382 :: hmTreePlaces382
theorem hmTreePlaces383_ok : ∀ x ∈ hmTreePlaces383, HOk Try.prog x := hmemo_cons hTreePlaces382_ok hmTreePlaces382_ok
def hTreePlaces383 : HE := ⟨32, [(.agg [(eI 100),(.lit (.int .i64 (Int.negSucc 0))),(.lit (.slice none 0 0))]),(eI 3),(eI 1),(.lit (.int .i64 (Int.negSucc 1)))], [], [((.val eB0), [])]⟩
theorem hTreePlaces383_ok : HOk Try.prog hTreePlaces383 := hok_eq mmTreePlaces_ok hmTreePlaces383_ok folTreePlaces (lf := 100000) (k := 1000) (by kernel_rfl)
def hmTreePlaces384 : List HE := hTreePlaces383 :: hmTreePlaces383
theorem hmTreePlaces384_ok : ∀ x ∈ hmTreePlaces384, HOk Try.prog x := hmemo_cons hTreePlaces383_ok hmTreePlaces383_ok
def hTreePlaces384 : HE := ⟨32, [(.agg [(eI 100),(eI 0),(.sl 0 2 0 3 none 3)]),(eI 3),(eI 1),(eI 0)], [btreePlaces13, btreePlaces10], [((.val eB0), [])]⟩
theorem hTreePlaces384_ok : HOk Try.prog hTreePlaces384 := hok_eq mmTreePlaces_ok hmTreePlaces384_ok folTreePlaces (lf := 100000) (k := 1000) (by kernel_rfl)
def hmTreePlaces385 : List HE := hTreePlaces384 :: hmTreePlaces384
theorem hmTreePlaces385_ok : ∀ x ∈ hmTreePlaces385, HOk Try.prog x := hmemo_cons hTreePlaces384_ok hmTreePlaces384_ok
def hTreePlaces385 : HE := ⟨32, [(.agg [(eI 100),(eI 0),(.sl 0 2 0 3 none 3)]),(eI 3),(eI 1),(eI 1)], [btreePlaces15, btreePlaces16, btreePlaces10], [((.val eB0), [])]⟩
theorem hTreePlaces385_ok : HOk Try.prog hTreePlaces385 := hok_eq mmTreePlaces_ok hmTreePlaces385_ok folTreePlaces (lf := 100000) (k := 1000) (by kernel_rfl)
def hmTreePlaces386 : List HE := hTreePlaces385 :: hmTreePlaces385
theorem hmTreePlaces386_ok : ∀ x ∈ hmTreePlaces386, HOk Try.prog x := hmemo_cons hTreePlaces385_ok hmTreePlaces385_ok
def hTreePlaces386 : HE := ⟨32, [(.agg [(eI 101),(eI 2),(.lit (.slice none 0 0))]),(eI 3),(eI 1),(eI 0)], [], [((.val eB0), [])]⟩
theorem hTreePlaces386_ok : HOk Try.prog hTreePlaces386 := hok_eq mmTreePlaces_ok hmTreePlaces386_ok folTreePlaces (lf := 100000) (k := 1000) (by kernel_rfl)
def hmTreePlaces387 : List HE := hTreePlaces386 :: hmTreePlaces386
theorem hmTreePlaces387_ok : ∀ x ∈ hmTreePlaces387, HOk Try.prog x := hmemo_cons hTreePlaces386_ok hmTreePlaces386_ok
def hTreePlaces387 : HE := ⟨32, [(.agg [(eI 1),(.lit (.int .i64 (Int.negSucc 0))),(.lit (.slice none 0 0))]),(eI 3),(eI 1),(eI 0)], [], [((.val eB0), [])]⟩
theorem hTreePlaces387_ok : HOk Try.prog hTreePlaces387 := hok_eq mmTreePlaces_ok hmTreePlaces387_ok folTreePlaces (lf := 100000) (k := 1000) (by kernel_rfl)
def hmTreePlaces388 : List HE := hTreePlaces387 :: hmTreePlaces387
theorem hmTreePlaces388_ok : ∀ x ∈ hmTreePlaces388, HOk Try.prog x := hmemo_cons hTreePlaces387_ok hmTreePlaces387_ok
def hTreePlaces388 : HE := ⟨32, [(.agg [(eI 100),(eI 0),(.sl 0 2 0 3 none 3)]),(eI 3),(eI 1),(.lit (.int .i64 (Int.negSucc 0)))], [btreePlaces13, btreePlaces10], [((.val eB0), [])]⟩
theorem hTreePlaces388_ok : HOk Try.prog hTreePlaces388 := hok_eq mmTreePlaces_ok hmTreePlaces388_ok folTreePlaces (lf := 100000) (k := 1000) (by kernel_rfl)
def hmTreePlaces389 : List HE := hTreePlaces388 :: hmTreePlaces388
theorem hmTreePlaces389_ok : ∀ x ∈ hmTreePlaces389, HOk Try.prog x := hmemo_cons hTreePlaces388_ok hmTreePlaces388_ok
def hTreePlaces389 : HE := ⟨32, [(.agg [(eI 100),(eI 0),(.sl 0 2 0 3 none 3)]),(eI 3),(eI 1),(eI 0)], [btreePlaces15, btreePlaces16, btreePlaces10], [((.val eB0), [])]⟩
theorem hTreePlaces389_ok : HOk Try.prog hTreePlaces389 := hok_eq mmTreePlaces_ok hmTreePlaces389_ok folTreePlaces (lf := 100000) (k := 1000) (by kernel_rfl)
def hmTreePlaces390 : List HE := hTreePlaces389 :: hmTreePlaces389
theorem hmTreePlaces390_ok : ∀ x ∈ hmTreePlaces390, HOk Try.prog x := hmemo_cons hTreePlaces389_ok hmTreePlaces389_ok
def hTreePlaces390 : HE := ⟨32, [(.agg [(eI 100),(eI 0),(.sl 0 2 0 3 none 3)]),(eI 3),(eI 1),(.lit (.int .i64 (Int.negSucc 0)))], [btreePlaces15, btreePlaces16, btreePlaces10], [((.val eB0), [])]⟩
theorem hTreePlaces390_ok : HOk Try.prog hTreePlaces390 := hok_eq mmTreePlaces_ok hmTreePlaces390_ok folTreePlaces (lf := 100000) (k := 1000) (by kernel_rfl)
def hmTreePlaces391 : List HE := hTreePlaces390 :: hmTreePlaces390
theorem hmTreePlaces391_ok : ∀ x ∈ hmTreePlaces391, HOk Try.prog x := hmemo_cons hTreePlaces390_ok hmTreePlaces390_ok
def hTreePlaces391 : HE := ⟨32, [(.agg [(eI 101),(eI 2),(.lit (.slice none 0 0))]),(eI 3),(eI 0),(eI 4)], [], [((.val eB0), [])]⟩
theorem hTreePlaces391_ok : HOk Try.prog hTreePlaces391 := hok_eq mmTreePlaces_ok hmTreePlaces391_ok folTreePlaces (lf := 100000) (k := 1000) (by kernel_rfl)
def hmTreePlaces392 : List HE := hTreePlaces391 :: hmTreePlaces391
theorem hmTreePlaces392_ok : ∀ x ∈ hmTreePlaces392, HOk Try.prog x := hmemo_cons hTreePlaces391_ok hmTreePlaces391_ok
def hTreePlaces392 : HE := ⟨32, [(.agg [(eI 1),(.lit (.int .i64 (Int.negSucc 0))),(.lit (.slice none 0 0))]),(eI 3),(eI 0),(eI 4)], [], [((.val eB0), [])]⟩
theorem hTreePlaces392_ok : HOk Try.prog hTreePlaces392 := hok_eq mmTreePlaces_ok hmTreePlaces392_ok folTreePlaces (lf := 100000) (k := 1000) (by kernel_rfl)
def hmTreePlaces393 : List HE := hTreePlaces392 :: hmTreePlaces392
theorem hmTreePlaces393_ok : ∀ x ∈ hmTreePlaces393, HOk Try.prog x := hmemo_cons hTreePlaces392_ok hmTreePlaces392_ok
def hTreePlaces393 : HE := ⟨32, [(.agg [(eI 3),(.lit (.int .i64 (Int.negSucc 0))),(.lit (.slice none 0 0))]),(eI 3),(eI 0),(eI 3)], [], [((.val eB0), [])]⟩
theorem hTreePlaces393_ok : HOk Try.prog hTreePlaces393 := hok_eq mmTreePlaces_ok hmTreePlaces393_ok folTreePlaces (lf := 100000) (k := 1000) (by kernel_rfl)
def hmTreePlaces394 : List HE := hTreePlaces393 :: hmTreePlaces393
theorem hmTreePlaces394_ok : ∀ x ∈ hmTreePlaces394, HOk Try.prog x := hmemo_cons hTreePlaces393_ok hmTreePlaces393_ok
def hTreePlaces394 : HE := ⟨32, [(.agg [(eI 101),(eI 3),(.sl 0 0 0 1 none 3)]),(eI 3),(eI 0),(eI 3)], [btreePlaces10], [((.val eB0), [])]⟩
theorem hTreePlaces394_ok : HOk Try.prog hTreePlaces394 := hok_eq mmTreePlaces_ok hmTreePlaces394_ok folTreePlaces (lf := 100000) (k := 1000) (by kernel_rfl)
def hmTreePlaces395 : List HE := hTreePlaces394 :: hmTreePlaces394
theorem hmTreePlaces395_ok : ∀ x ∈ hmTreePlaces395, HOk Try.prog x := hmemo_cons hTreePlaces394_ok hmTreePlaces394_ok
def hTreePlaces395 : HE := ⟨32, [(.agg [(eI 1),(.lit (.int .i64 (Int.negSucc 0))),(.lit (.slice none 0 0))]),(eI 3),(eI 0),(eI 2)], [], [((.val eB0), [])]⟩
theorem hTreePlaces395_ok : HOk Try.prog hTreePlaces395 := hok_eq mmTreePlaces_ok hmTreePlaces395_ok folTreePlaces (lf := 100000) (k := 1000) (by kernel_rfl)
def hmTreePlaces396 : List HE := hTreePlaces395 :: hmTreePlaces395
theorem hmTreePlaces396_ok : ∀ x ∈ hmTreePlaces396, HOk Try.prog x := hmemo_cons hTreePlaces395_ok hmTreePlaces395_ok
def hTreePlaces396 : HE := ⟨32, [(.agg [(eI 100),(.lit (.int .i64 (Int.negSucc 0))),(.lit (.slice none 0 0))]),(eI 3),(eI 0),(eI 1)], [], [((.val eB0), [])]⟩
theorem hTreePlaces396_ok : HOk Try.prog hTreePlaces396 := hok_eq mmTreePlaces_ok hmTreePlaces396_ok folTreePlaces (lf := 100000) (k := 1000) (by kernel_rfl)
def hmTreePlaces397 : List HE := hTreePlaces396 :: hmTreePlaces396
theorem hmTreePlaces397_ok : ∀ x ∈ hmTreePlaces397, HOk Try.prog x := hmemo_cons hTreePlaces396_ok hmTreePlaces396_ok
def hTreePlaces397 : HE := ⟨32, [(.agg [(eI 100),(eI 0),(.sl 0 2 0 3 none 3)]),(eI 3),(eI 0),(eI 3)], [btreePlaces13, btreePlaces10], [((.val eB0), [])]⟩
theorem hTreePlaces397_ok : HOk Try.prog hTreePlaces397 := hok_eq mmTreePlaces_ok hmTreePlaces397_ok folTreePlaces (lf := 100000) (k := 1000) (by kernel_rfl)
def hmTreePlaces398 : List HE := hTreePlaces397 :: hmTreePlaces397
theorem hmTreePlaces398_ok : ∀ x ∈ hmTreePlaces398, HOk Try.prog x := hmemo_cons hTreePlaces397_ok hmTreePlaces397_ok
def hTreePlaces398 : HE := ⟨32, [(.agg [(eI 100),(eI 0),(.sl 0 2 0 3 none 3)]),(eI 3),(eI 0),(eI 4)], [btreePlaces15, btreePlaces16, btreePlaces10], [((.val eB0), [])]⟩
theorem hTreePlaces398_ok : HOk Try.prog hTreePlaces398 := hok_eq mmTreePlaces_ok hmTreePlaces398_ok folTreePlaces (lf := 100000) (k := 1000) (by kernel_rfl)
def hmTreePlaces399 : List HE := hTreePlaces398 :: hmTreePlaces398
theorem hmTreePlaces399_ok : ∀ x ∈ hmTreePlaces399, HOk Try.prog x := hmemo_cons hTreePlaces398_ok hmTreePlaces398_ok
def hTreePlaces399 : HE := ⟨32, [(.agg [(eI 101),(eI 2),(.lit (.slice none 0 0))]),(eI 3),(eI 0),(eI 3)], [], [((.val eB0), [])]⟩
theorem hTreePlaces399_ok : HOk Try.prog hTreePlaces399 := hok_eq mmTreePlaces_ok hmTreePlaces399_ok folTreePlaces (lf := 100000) (k := 1000) (by kernel_rfl)
def hmTreePlaces400 : List HE := hTreePlaces399 :: hmTreePlaces399
theorem hmTreePlaces400_ok : ∀ x ∈ hmTreePlaces400, HOk Try.prog x := hmemo_cons hTreePlaces399_ok hmTreePlaces399_ok
def hTreePlaces400 : HE := ⟨32, [(.agg [(eI 1),(.lit (.int .i64 (Int.negSucc 0))),(.lit (.slice none 0 0))]),(eI 3),(eI 0),(eI 3)], [], [((.val eB0), [])]⟩
theorem hTreePlaces400_ok : HOk Try.prog hTreePlaces400 := hok_eq mmTreePlaces_ok hmTreePlaces400_ok folTreePlaces (lf := 100000) (k := 1000) (by kernel_rfl)
def hmTreePlaces401 : List HE := hTreePlaces400 :: hmTreePlaces400
theorem hmTreePlaces401_ok : ∀ x ∈ hmTreePlaces401, HOk Try.prog x := hmemo_cons hTreePlaces400_ok hmTreePlaces400_ok
def hTreePlaces401 : HE := ⟨32, [(.agg [(eI 3),(.lit (.int .i64 (Int.negSucc 0))),(.lit (.slice none 0 0))]),(eI 3),(eI 0),(eI 2)], [], [((.val eB0), [])]⟩
theorem hTreePlaces401_ok : HOk Try.prog hTreePlaces401 := hok_eq mmTreePlaces_ok hmTreePlaces401_ok folTreePlaces (lf := 100000) (k := 1000) (by kernel_rfl)
def hmTreePlaces402 : List HE := hTreePlaces401 :: hmTreePlaces401
theorem hmTreePlaces402_ok : ∀ x ∈ hmTreePlaces402, HOk Try.prog x := hmemo_cons hTreePlaces401_ok hmTreePlaces401_ok
def hTreePlaces402 : HE := ⟨32, [(.agg [(eI 101),(eI 3),(.sl 0 0 0 1 none 3)]),(eI 3),(eI 0),(eI 2)], [btreePlaces10], [((.val eB0), [])]⟩
theorem hTreePlaces402_ok : HOk Try.prog hTreePlaces402 := hok_eq mmTreePlaces_ok hmTreePlaces402_ok folTreePlaces (lf := 100000) (k := 1000) (by kernel_rfl)
def hmTreePlaces403 : List HE := hTreePlaces402 :: hmTreePlaces402
theorem hmTreePlaces403_ok : ∀ x ∈ hmTreePlaces403, HOk Try.prog x := hmemo_cons hTreePlaces402_ok hmTreePlaces402_ok
def hTreePlaces403 : HE := ⟨32, [(.agg [(eI 1),(.lit (.int .i64 (Int.negSucc 0))),(.lit (.slice none 0 0))]),(eI 3),(eI 0),(eI 1)], [], [((.val eB0), [])]⟩
theorem hTreePlaces403_ok : HOk Try.prog hTreePlaces403 := hok_eq mmTreePlaces_ok hmTreePlaces403_ok folTreePlaces (lf := 100000) (k := 1000) (by kernel_rfl)
def hmTreePlaces404 : List HE := hTreePlaces403 :: hmTreePlaces403
theorem hmTreePlaces404_ok : ∀ x ∈ hmTreePlaces404, HOk Try.prog x := hmemo_cons hTreePlaces403_ok hmTreePlaces403_ok
def hTreePlaces404 : HE := ⟨32, [(.agg [(eI 100),(.lit (.int .i64 (Int.negSucc 0))),(.lit (.slice none 0 0))]),(eI 3),(eI 0),(eI 0)], [], [((.val eB0), [])]⟩
theorem hTreePlaces404_ok : HOk Try.prog hTreePlaces404 := hok_eq mmTreePlaces_ok hmTreePlaces404_ok folTreePlaces (lf := 100000) (k := 1000) (by kernel_rfl)
def hmTreePlaces405 : List HE := hTreePlaces404 :: hmTreePlaces404
theorem hmTreePlaces405_ok : ∀ x ∈ hmTreePlaces405, HOk Try.prog x := hmemo_cons hTreePlaces404_ok hmTreePlaces404_ok
def hTreePlaces405 : HE := ⟨32, [(.agg [(eI 100),(eI 0),(.sl 0 2 0 3 none 3)]),(eI 3),(eI 0),(eI 2)], [btreePlaces13, btreePlaces10], [((.val eB0), [])]⟩
theorem hTreePlaces405_ok : HOk Try.prog hTreePlaces405 := hok_eq mmTreePlaces_ok hmTreePlaces405_ok folTreePlaces (lf := 100000) (k := 1000) (by kernel_rfl)
def hmTreePlaces406 : List HE := hTreePlaces405 :: hmTreePlaces405
theorem hmTreePlaces406_ok : ∀ x ∈ hmTreePlaces406, HOk Try.prog x := hmemo_cons hTreePlaces405_ok hmTreePlaces405_ok
def hTreePlaces406 : HE := ⟨32, [(.agg [(eI 100),(eI 0),(.sl 0 2 0 3 none 3)]),(eI 3),(eI 0),(eI 3)], [btreePlaces15, btreePlaces16, btreePlaces10], [((.val eB0), [])]⟩
theorem hTreePlaces406_ok : HOk Try.prog hTreePlaces406 := hok_eq mmTreePlaces_ok hmTreePlaces406_ok folTreePlaces (lf := 100000) (k := 1000) (by kernel_rfl)
def hmTreePlaces407 : List HE := hTreePlaces406 :: hmTreePlaces406
theorem hmTreePlaces407_ok : ∀ x ∈ hmTreePlaces407, HOk Try.prog x := hmemo_cons hTreePlaces406_ok hmTreePlaces406_ok
def hTreePlaces407 : HE := ⟨32, [(.agg [(eI 101),(eI 2),(.lit (.slice none 0 0))]),(eI 3),(eI 0),(eI 2)], [], [((.val eB0), [])]⟩
theorem hTreePlaces407_ok : HOk Try.prog hTreePlaces407 := hok_eq mmTreePlaces_ok hmTreePlaces407_ok folTreePlaces (lf := 100000) (k := 1000) (by kernel_rfl)
def hmTreePlaces408 : List HE := hTreePlaces407 :: hmTreePlaces407
theorem hmTreePlaces408_ok : ∀ x ∈ hmTreePlaces408, HOk Try.prog x := hmemo_cons hTreePlaces407_ok hmTreePlaces407_ok
def hTreePlaces408 : HE := ⟨32, [(.agg [(eI 3),(.lit (.int .i64 (Int.negSucc 0))),(.lit (.slice none 0 0))]),(eI 3),(eI 0),(eI 1)], [], [((.val eB0), [])]⟩
theorem hTreePlaces408_ok : HOk Try.prog hTreePlaces408 := hok_eq mmTreePlaces_ok hmTreePlaces408_ok folTreePlaces (lf := 100000) (k := 1000) (by kernel_rfl)
def hmTreePlaces409 : List HE := hTreePlaces408 :: hmTreePlaces408
theorem hmTreePlaces409_ok : ∀ x ∈ hmTreePlaces409, HOk Try.prog x := hmemo_cons hTreePlaces408_ok hmTreePlaces408_ok
def hTreePlaces409 : HE := ⟨32, [(.agg [(eI 101),(eI 3),(.sl 0 0 0 1 none 3)]),(eI 3),(eI 0),(eI 1)], [btreePlaces10], [((.val eB0), [])]⟩
theorem hTreePlaces409_ok : HOk Try.prog hTreePlaces409 := hok_eq mmTreePlaces_ok hmTreePlaces409_ok folTreePlaces (lf := 100000) (k := 1000) (by kernel_rfl)
def hmTreePlaces410 : List HE := hTreePlaces409 :: hmTreePlaces409
theorem hmTreePlaces410_ok : ∀ x ∈ hmTreePlaces410, HOk Try.prog x := hmemo_cons hTreePlaces409_ok hmTreePlaces409_ok
def hTreePlaces410 : HE := ⟨32, [(.agg [(eI 1),(.lit (.int .i64 (Int.negSucc 0))),(.lit (.slice none 0 0))]),(eI 3),(eI 0),(eI 0)], [], [((.val eB0), [])]⟩
theorem hTreePlaces410_ok : HOk Try.prog hTreePlaces410 := hok_eq mmTreePlaces_ok hmTreePlaces410_ok folTreePlaces (lf := 100000) (k := 1000) (by kernel_rfl)
def hmTreePlaces411 : List HE := hTreePlaces410 :: hmTreePlaces410
theorem hmTreePlaces411_ok : ∀ x ∈ hmTreePlaces411, HOk Try.prog x := hmemo_cons hTreePlaces410_ok hmTreePlaces410_ok
def hTreePlaces411 : HE := ⟨32, [(.agg [(eI 100),(.lit (.int .i64 (Int.negSucc 0))),(.lit (.slice none 0 0))]),(eI 3),(eI 0),(.lit (.int .i64 (Int.negSucc 0)))], [], [((.val eB0), [])]⟩
theorem hTreePlaces411_ok : HOk Try.prog hTreePlaces411 := hok_eq mmTreePlaces_ok hmTreePlaces411_ok folTreePlaces (lf := 100000) (k := 1000) (by kernel_rfl)
def hmTreePlaces412 : List HE := hTreePlaces411 :: hmTreePlaces411
theorem hmTreePlaces412_ok : ∀ x ∈ hmTreePlaces412, HOk Try.prog x := hmemo_cons hTreePlaces411_ok hmTreePlaces411_ok
def hTreePlaces412 : HE := ⟨32, [(.agg [(eI 100),(eI 0),(.sl 0 2 0 3 none 3)]),(eI 3),(eI 0),(eI 1)], [btreePlaces13, btreePlaces10], [((.val eB0), [])]⟩
theorem hTreePlaces412_ok : HOk Try.prog hTreePlaces412 := hok_eq mmTreePlaces_ok hmTreePlaces412_ok folTreePlaces (lf := 100000) (k := 1000) (by kernel_rfl)
def hmTreePlaces413 : List HE := hTreePlaces412 :: hmTreePlaces412
theorem hmTreePlaces413_ok : ∀ x ∈ hmTreePlaces413, HOk Try.prog x := hmemo_cons hTreePlaces412_ok hmTreePlaces412_ok
def hTreePlaces413 : HE := ⟨32, [(.agg [(eI 100),(eI 0),(.sl 0 2 0 3 none 3)]),(eI 3),(eI 0),(eI 2)], [btreePlaces15, btreePlaces16, btreePlaces10], [((.val eB0), [])]⟩
theorem hTreePlaces413_ok : HOk Try.prog hTreePlaces413 := hok_eq mmTreePlaces_ok hmTreePlaces413_ok folTreePlaces (lf := 100000) (k := 1000) (by kernel_rfl)
def hmTreePlaces414 : List HE := hTreePlaces413 :: hmTreePlaces413
theorem hmTreePlaces414_ok : ∀ x ∈ hmTreePlaces414, HOk Try.prog x := hmemo_cons hTreePlaces413_ok hmTreePlaces413_ok
def hTreePlaces414 : HE := ⟨32, [(.agg [(eI 101),(eI 2),(.lit (.slice none 0 0))]),(eI 3),(eI 0),(eI 1)], [], [((.val eB0), [])]⟩
theorem hTreePlaces414_ok : HOk Try.prog hTreePlaces414 := hok_eq mmTreePlaces_ok hmTreePlaces414_ok folTreePlaces (lf := 100000) (k := 1000) (by kernel_rfl)
def hmTreePlaces415 : List HE := hTreePlaces414 :: hmTreePlaces414
theorem hmTreePlaces415_ok : ∀ x ∈ hmTreePlaces415, HOk Try.prog x := hmemo_cons hTreePlaces414_ok hmTreePlaces414_ok
def hTreePlaces415 : HE := ⟨32, [(.agg [(eI 101),(eI 3),(.sl 0 0 0 1 none 3)]),(eI 3),(eI 0),(eI 0)], [btreePlaces10], [((.val eB1), [])]⟩
theorem hTreePlaces415_ok : HOk Try.prog hTreePlaces415 := hok_eq mmTreePlaces_ok hmTreePlaces415_ok folTreePlaces (lf := 100000) (k := 1000) (by kernel_rfl)
def hmTreePlaces416 : List HE := hTreePlaces415 :: hmTreePlaces415
theorem hmTreePlaces416_ok : ∀ x ∈ hmTreePlaces416, HOk Try.prog x := hmemo_cons hTreePlaces415_ok hmTreePlaces415_ok
def hTreePlaces416 : HE := ⟨32, [(.agg [(eI 100),(eI 0),(.sl 0 2 0 3 none 3)]),(eI 3),(eI 0),(eI 0)], [btreePlaces13, btreePlaces10], [((.val eB1), [])]⟩
theorem hTreePlaces416_ok : HOk Try.prog hTreePlaces416 := hok_eq mmTreePlaces_ok hmTreePlaces416_ok folTreePlaces (lf := 100000) (k := 1000) (by kernel_rfl)
def hmTreePlaces417 : List HE := hTreePlaces416 :: hmTreePlaces416
theorem hmTreePlaces417_ok : ∀ x ∈ hmTreePlaces417, HOk Try.prog x := hmemo_cons hTreePlaces416_ok hmTreePlaces416_ok
def hTreePlaces417 : HE := ⟨32, [(.agg [(eI 100),(eI 0),(.sl 0 2 0 3 none 3)]),(eI 3),(eI 0),(eI 1)], [btreePlaces15, btreePlaces16, btreePlaces10], [((.val eB1), [])]⟩
theorem hTreePlaces417_ok : HOk Try.prog hTreePlaces417 := hok_eq mmTreePlaces_ok hmTreePlaces417_ok folTreePlaces (lf := 100000) (k := 1000) (by kernel_rfl)
def hmTreePlaces418 : List HE := hTreePlaces417 :: hmTreePlaces417
theorem hmTreePlaces418_ok : ∀ x ∈ hmTreePlaces418, HOk Try.prog x := hmemo_cons hTreePlaces417_ok hmTreePlaces417_ok
def hTreePlaces418 : HE := ⟨32, [(.agg [(eI 101),(eI 2),(.lit (.slice none 0 0))]),(eI 3),(eI 0),(eI 0)], [], [((.val eB0), [])]⟩
theorem hTreePlaces418_ok : HOk Try.prog hTreePlaces418 := hok_eq mmTreePlaces_ok hmTreePlaces418_ok folTreePlaces (lf := 100000) (k := 1000) (by kernel_rfl)
def hmTreePlaces419 : List HE := hTreePlaces418 :: hmTreePlaces418
theorem hmTreePlaces419_ok : ∀ x ∈ hmTreePlaces419, HOk Try.prog x := hmemo_cons hTreePlaces418_ok hmTreePlaces418_ok
def hTreePlaces419 : HE := ⟨32, [(.agg [(eI 100),(eI 0),(.sl 0 2 0 3 none 3)]),(eI 3),(eI 0),(.lit (.int .i64 (Int.negSucc 0)))], [btreePlaces13, btreePlaces10], [((.val eB0), [])]⟩
theorem hTreePlaces419_ok : HOk Try.prog hTreePlaces419 := hok_eq mmTreePlaces_ok hmTreePlaces419_ok folTreePlaces (lf := 100000) (k := 1000) (by kernel_rfl)
def hmTreePlaces420 : List HE := hTreePlaces419 :: hmTreePlaces419
theorem hmTreePlaces420_ok : ∀ x ∈ hmTreePlaces420, HOk Try.prog x := hmemo_cons hTreePlaces419_ok hmTreePlaces419_ok
def hTreePlaces420 : HE := ⟨32, [(.agg [(eI 100),(eI 0),(.sl 0 2 0 3 none 3)]),(eI 3),(eI 0),(eI 0)], [btreePlaces15, btreePlaces16, btreePlaces10], [((.val eB0), [])]⟩
theorem hTreePlaces420_ok : HOk Try.prog hTreePlaces420 := hok_eq mmTreePlaces_ok hmTreePlaces420_ok folTreePlaces (lf := 100000) (k := 1000) (by kernel_rfl)
def hmTreePlaces421 : List HE := hTreePlaces420 :: hmTreePlaces420
theorem hmTreePlaces421_ok : ∀ x ∈ hmTreePlaces421, HOk Try.prog x := hmemo_cons hTreePlaces420_ok hmTreePlaces420_ok
def hTreePlaces421 : HE := ⟨32, [(.agg [(eI 100),(eI 0),(.sl 0 2 0 3 none 3)]),(eI 3),(eI 0),(.lit (.int .i64 (Int.negSucc 0)))], [btreePlaces15, btreePlaces16, btreePlaces10], [((.val eB0), [])]⟩
theorem hTreePlaces421_ok : HOk Try.prog hTreePlaces421 := hok_eq mmTreePlaces_ok hmTreePlaces421_ok folTreePlaces (lf := 100000) (k := 1000) (by kernel_rfl)
def hmTreePlaces422 : List HE := hTreePlaces421 :: hmTreePlaces421
theorem hmTreePlaces422_ok : ∀ x ∈ hmTreePlaces422, HOk Try.prog x := hmemo_cons hTreePlaces421_ok hmTreePlaces421_ok
def hTreePlaces422 : HE := ⟨32, [(.agg [(eI 101),(eI 2),(.lit (.slice none 0 0))]),(eI 3),(.lit (.int .i64 (Int.negSucc 0))),(eI 4)], [], [((.val eB0), [])]⟩
theorem hTreePlaces422_ok : HOk Try.prog hTreePlaces422 := hok_eq mmTreePlaces_ok hmTreePlaces422_ok folTreePlaces (lf := 100000) (k := 1000) (by kernel_rfl)
def hmTreePlaces423 : List HE := hTreePlaces422 :: hmTreePlaces422
theorem hmTreePlaces423_ok : ∀ x ∈ hmTreePlaces423, HOk Try.prog x := hmemo_cons hTreePlaces422_ok hmTreePlaces422_ok
def hTreePlaces423 : HE := ⟨32, [(.agg [(eI 1),(.lit (.int .i64 (Int.negSucc 0))),(.lit (.slice none 0 0))]),(eI 3),(.lit (.int .i64 (Int.negSucc 0))),(eI 4)], [], [((.val eB0), [])]⟩
theorem hTreePlaces423_ok : HOk Try.prog hTreePlaces423 := hok_eq mmTreePlaces_ok hmTreePlaces423_ok folTreePlaces (lf := 100000) (k := 1000) (by kernel_rfl)
def hmTreePlaces424 : List HE := hTreePlaces423 :: hmTreePlaces423
theorem hmTreePlaces424_ok : ∀ x ∈ hmTreePlaces424, HOk Try.prog x := hmemo_cons hTreePlaces423_ok hmTreePlaces423_ok
def hTreePlaces424 : HE := ⟨32, [(.agg [(eI 3),(.lit (.int .i64 (Int.negSucc 0))),(.lit (.slice none 0 0))]),(eI 3),(.lit (.int .i64 (Int.negSucc 0))),(eI 3)], [], [((.val eB0), [])]⟩
theorem hTreePlaces424_ok : HOk Try.prog hTreePlaces424 := hok_eq mmTreePlaces_ok hmTreePlaces424_ok folTreePlaces (lf := 100000) (k := 1000) (by kernel_rfl)
def hmTreePlaces425 : List HE := hTreePlaces424 :: hmTreePlaces424
theorem hmTreePlaces425_ok : ∀ x ∈ hmTreePlaces425, HOk Try.prog x := hmemo_cons hTreePlaces424_ok hmTreePlaces424_ok
def hTreePlaces425 : HE := ⟨32, [(.agg [(eI 101),(eI 3),(.sl 0 0 0 1 none 3)]),(eI 3),(.lit (.int .i64 (Int.negSucc 0))),(eI 3)], [btreePlaces10], [((.val eB0), [])]⟩
theorem hTreePlaces425_ok : HOk Try.prog hTreePlaces425 := hok_eq mmTreePlaces_ok hmTreePlaces425_ok folTreePlaces (lf := 100000) (k := 1000) (by kernel_rfl)
def hmTreePlaces426 : List HE := hTreePlaces425 :: hmTreePlaces425
theorem hmTreePlaces426_ok : ∀ x ∈ hmTreePlaces426, HOk Try.prog x := hmemo_cons hTreePlaces425_ok hmTreePlaces425_ok
def hTreePlaces426 : HE := ⟨32, [(.agg [(eI 1),(.lit (.int .i64 (Int.negSucc 0))),(.lit (.slice none 0 0))]),(eI 3),(.lit (.int .i64 (Int.negSucc 0))),(eI 2)], [], [((.val eB0), [])]⟩
theorem hTreePlaces426_ok : HOk Try.prog hTreePlaces426 := hok_eq mmTreePlaces_ok hmTreePlaces426_ok folTreePlaces (lf := 100000) (k := 1000) (by kernel_rfl)
def hmTreePlaces427 : List HE := hTreePlaces426 :: hmTreePlaces426
theorem hmTreePlaces427_ok : ∀ x ∈ hmTreePlaces427, HOk Try.prog x := hmemo_cons hTreePlaces426_ok hmTreePlaces426_ok
def hTreePlaces427 : HE := ⟨32, [(.agg [(eI 100),(.lit (.int .i64 (Int.negSucc 0))),(.lit (.slice none 0 0))]),(eI 3),(.lit (.int .i64 (Int.negSucc 0))),(eI 1)], [], [((.val eB0), [])]⟩
theorem hTreePlaces427_ok : HOk Try.prog hTreePlaces427 := hok_eq mmTreePlaces_ok hmTreePlaces427_ok folTreePlaces (lf := 100000) (k := 1000) (by kernel_rfl)
def hmTreePlaces428 : List HE := hTreePlaces427 :: hmTreePlaces427
theorem hmTreePlaces428_ok : ∀ x ∈ hmTreePlaces428, HOk Try.prog x := hmemo_cons hTreePlaces427_ok hmTreePlaces427_ok
def hTreePlaces428 : HE := ⟨32, [(.agg [(eI 100),(eI 0),(.sl 0 2 0 3 none 3)]),(eI 3),(.lit (.int .i64 (Int.negSucc 0))),(eI 3)], [btreePlaces13, btreePlaces10], [((.val eB0), [])]⟩
theorem hTreePlaces428_ok : HOk Try.prog hTreePlaces428 := hok_eq mmTreePlaces_ok hmTreePlaces428_ok folTreePlaces (lf := 100000) (k := 1000) (by kernel_rfl)
def hmTreePlaces429 : List HE := hTreePlaces428 :: hmTreePlaces428
theorem hmTreePlaces429_ok : ∀ x ∈ hmTreePlaces429, HOk Try.prog x := hmemo_cons hTreePlaces428_ok hmTreePlaces428_ok
def hTreePlaces429 : HE := ⟨32, [(.agg [(eI 100),(eI 0),(.sl 0 2 0 3 none 3)]),(eI 3),(.lit (.int .i64 (Int.negSucc 0))),(eI 4)], [btreePlaces15, btreePlaces16, btreePlaces10], [((.val eB0), [])]⟩
theorem hTreePlaces429_ok : HOk Try.prog hTreePlaces429 := hok_eq mmTreePlaces_ok hmTreePlaces429_ok folTreePlaces (lf := 100000) (k := 1000) (by kernel_rfl)
def hmTreePlaces430 : List HE := hTreePlaces429 :: hmTreePlaces429
theorem hmTreePlaces430_ok : ∀ x ∈ hmTreePlaces430, HOk Try.prog x := hmemo_cons hTreePlaces429_ok hmTreePlaces429_ok
def hTreePlaces430 : HE := ⟨32, [(.agg [(eI 101),(eI 2),(.lit (.slice none 0 0))]),(eI 3),(.lit (.int .i64 (Int.negSucc 0))),(eI 3)], [], [((.val eB0), [])]⟩
theorem hTreePlaces430_ok : HOk Try.prog hTreePlaces430 := hok_eq mmTreePlaces_ok hmTreePlaces430_ok folTreePlaces (lf := 100000) (k := 1000) (by kernel_rfl)
def hmTreePlaces431 : List HE := hTreePlaces430 :: hmTreePlaces430
theorem hmTreePlaces431_ok : ∀ x ∈ hmTreePlaces431, HOk Try.prog x := hmemo_cons hTreePlaces430_ok hmTreePlaces430_ok
def hTreePlaces431 : HE := ⟨32, [(.agg [(eI 1),(.lit (.int .i64 (Int.negSucc 0))),(.lit (.slice none 0 0))]),(eI 3),(.lit (.int .i64 (Int.negSucc 0))),(eI 3)], [], [((.val eB0), [])]⟩
theorem hTreePlaces431_ok : HOk Try.prog hTreePlaces431 := hok_eq mmTreePlaces_ok hmTreePlaces431_ok folTreePlaces (lf := 100000) (k := 1000) (by kernel_rfl)
def hmTreePlaces432 : List HE := hTreePlaces431 :: hmTreePlaces431
theorem hmTreePlaces432_ok : ∀ x ∈ hmTreePlaces432, HOk Try.prog x := hmemo_cons hTreePlaces431_ok hmTreePlaces431_ok
def hTreePlaces432 : HE := ⟨32, [(.agg [(eI 3),(.lit (.int .i64 (Int.negSucc 0))),(.lit (.slice none 0 0))]),(eI 3),(.lit (.int .i64 (Int.negSucc 0))),(eI 2)], [], [((.val eB0), [])]⟩
theorem hTreePlaces432_ok : HOk Try.prog hTreePlaces432 := hok_eq mmTreePlaces_ok hmTreePlaces432_ok folTreePlaces (lf := 100000) (k := 1000) (by kernel_rfl)
def hmTreePlaces433 : List HE := hTreePlaces432 :: hmTreePlaces432
theorem hmTreePlaces433_ok : ∀ x ∈ hmTreePlaces433, HOk Try.prog x := hmemo_cons hTreePlaces432_ok hmTreePlaces432_ok
def hTreePlaces433 : HE := ⟨32, [(.agg [(eI 101),(eI 3),(.sl 0 0 0 1 none 3)]),(eI 3),(.lit (.int .i64 (Int.negSucc 0))),(eI 2)], [btreePlaces10], [((.val eB0), [])]⟩
theorem hTreePlaces433_ok : HOk Try.prog hTreePlaces433 := hok_eq mmTreePlaces_ok hmTreePlaces433_ok folTreePlaces (lf := 100000) (k := 1000) (by kernel_rfl)
def hmTreePlaces434 : List HE := hTreePlaces433 :: hmTreePlaces433
theorem hmTreePlaces434_ok : ∀ x ∈ hmTreePlaces434, HOk Try.prog x := hmemo_cons hTreePlaces433_ok hmTreePlaces433_ok
def hTreePlaces434 : HE := ⟨32, [(.agg [(eI 1),(.lit (.int .i64 (Int.negSucc 0))),(.lit (.slice none 0 0))]),(eI 3),(.lit (.int .i64 (Int.negSucc 0))),(eI 1)], [], [((.val eB0), [])]⟩
theorem hTreePlaces434_ok : HOk Try.prog hTreePlaces434 := hok_eq mmTreePlaces_ok hmTreePlaces434_ok folTreePlaces (lf := 100000) (k := 1000) (by kernel_rfl)
def hmTreePlaces435 : List HE := hTreePlaces434 :: hmTreePlaces434
theorem hmTreePlaces435_ok : ∀ x ∈ hmTreePlaces435, HOk Try.prog x := hmemo_cons hTreePlaces434_ok hmTreePlaces434_ok
def hTreePlaces435 : HE := ⟨32, [(.agg [(eI 100),(.lit (.int .i64 (Int.negSucc 0))),(.lit (.slice none 0 0))]),(eI 3),(.lit (.int .i64 (Int.negSucc 0))),(eI 0)], [], [((.val eB0), [])]⟩
theorem hTreePlaces435_ok : HOk Try.prog hTreePlaces435 := hok_eq mmTreePlaces_ok hmTreePlaces435_ok folTreePlaces (lf := 100000) (k := 1000) (by kernel_rfl)
def hmTreePlaces436 : List HE := hTreePlaces435 :: hmTreePlaces435
theorem hmTreePlaces436_ok : ∀ x ∈ hmTreePlaces436, HOk Try.prog x := hmemo_cons hTreePlaces435_ok hmTreePlaces435_ok
def hTreePlaces436 : HE := ⟨32, [(.agg [(eI 100),(eI 0),(.sl 0 2 0 3 none 3)]),(eI 3),(.lit (.int .i64 (Int.negSucc 0))),(eI 2)], [btreePlaces13, btreePlaces10], [((.val eB0), [])]⟩
theorem hTreePlaces436_ok : HOk Try.prog hTreePlaces436 := hok_eq mmTreePlaces_ok hmTreePlaces436_ok folTreePlaces (lf := 100000) (k := 1000) (by kernel_rfl)
def hmTreePlaces437 : List HE := hTreePlaces436 :: hmTreePlaces436
theorem hmTreePlaces437_ok : ∀ x ∈ hmTreePlaces437, HOk Try.prog x := hmemo_cons hTreePlaces436_ok hmTreePlaces436_ok
def hTreePlaces437 : HE := ⟨32, [(.agg [(eI 100),(eI 0),(.sl 0 2 0 3 none 3)]),(eI 3),(.lit (.int .i64 (Int.negSucc 0))),(eI 3)], [btreePlaces15, btreePlaces16, btreePlaces10], [((.val eB0), [])]⟩
theorem hTreePlaces437_ok : HOk Try.prog hTreePlaces437 := hok_eq mmTreePlaces_ok hmTreePlaces437_ok folTreePlaces (lf := 100000) (k := 1000) (by kernel_rfl)
def hmTreePlaces438 : List HE := hTreePlaces437 :: hmTreePlaces437
theorem hmTreePlaces438_ok : ∀ x ∈ hmTreePlaces438, HOk Try.prog x := hmemo_cons hTreePlaces437_ok hmTreePlaces437_ok
def hTreePlaces438 : HE := ⟨32, [(.agg [(eI 101),(eI 2),(.lit (.slice none 0 0))]),(eI 3),(.lit (.int .i64 (Int.negSucc 0))),(eI 2)], [], [((.val eB0), [])]⟩
theorem hTreePlaces438_ok : HOk Try.prog hTreePlaces438 := hok_eq mmTreePlaces_ok hmTreePlaces438_ok folTreePlaces (lf := 100000) (k := 1000) (by kernel_rfl)
def hmTreePlaces439 : List HE := hTreePlaces438 :: hmTreePlaces438
theorem hmTreePlaces439_ok : ∀ x ∈ hmTreePlaces439, HOk Try.prog x := hmemo_cons hTreePlaces438_ok hmTreePlaces438_ok
def hTreePlaces439 : HE := ⟨32, [(.agg [(eI 3),(.lit (.int .i64 (Int.negSucc 0))),(.lit (.slice none 0 0))]),(eI 3),(.lit (.int .i64 (Int.negSucc 0))),(eI 1)], [], [((.val eB0), [])]⟩
theorem hTreePlaces439_ok : HOk Try.prog hTreePlaces439 := hok_eq mmTreePlaces_ok hmTreePlaces439_ok folTreePlaces (lf := 100000) (k := 1000) (by kernel_rfl)
def hmTreePlaces440 : List HE := hTreePlaces439 :: hmTreePlaces439
theorem hmTreePlaces440_ok : ∀ x ∈ hmTreePlaces440, HOk Try.prog x := hmemo_cons hTreePlaces439_ok hmTreePlaces439_ok
def hTreePlaces440 : HE := ⟨32, [(.agg [(eI 101),(eI 3),(.sl 0 0 0 1 none 3)]),(eI 3),(.lit (.int .i64 (Int.negSucc 0))),(eI 1)], [btreePlaces10], [((.val eB0), [])]⟩
theorem hTreePlaces440_ok : HOk Try.prog hTreePlaces440 := hok_eq mmTreePlaces_ok hmTreePlaces440_ok folTreePlaces (lf := 100000) (k := 1000) (by kernel_rfl)
def hmTreePlaces441 : List HE := hTreePlaces440 :: hmTreePlaces440
theorem hmTreePlaces441_ok : ∀ x ∈ hmTreePlaces441, HOk Try.prog x := hmemo_cons hTreePlaces440_ok hmTreePlaces440_ok
def hTreePlaces441 : HE := ⟨32, [(.agg [(eI 1),(.lit (.int .i64 (Int.negSucc 0))),(.lit (.slice none 0 0))]),(eI 3),(.lit (.int .i64 (Int.negSucc 0))),(eI 0)], [], [((.val eB0), [])]⟩
theorem hTreePlaces441_ok : HOk Try.prog hTreePlaces441 := hok_eq mmTreePlaces_ok hmTreePlaces441_ok folTreePlaces (lf := 100000) (k := 1000) (by kernel_rfl)
def hmTreePlaces442 : List HE := hTreePlaces441 :: hmTreePlaces441
theorem hmTreePlaces442_ok : ∀ x ∈ hmTreePlaces442, HOk Try.prog x := hmemo_cons hTreePlaces441_ok hmTreePlaces441_ok
def hTreePlaces442 : HE := ⟨32, [(.agg [(eI 100),(.lit (.int .i64 (Int.negSucc 0))),(.lit (.slice none 0 0))]),(eI 3),(.lit (.int .i64 (Int.negSucc 0))),(.lit (.int .i64 (Int.negSucc 0)))], [], [((.val eB0), [])]⟩
theorem hTreePlaces442_ok : HOk Try.prog hTreePlaces442 := hok_eq mmTreePlaces_ok hmTreePlaces442_ok folTreePlaces (lf := 100000) (k := 1000) (by kernel_rfl)
def hmTreePlaces443 : List HE := hTreePlaces442 :: hmTreePlaces442
theorem hmTreePlaces443_ok : ∀ x ∈ hmTreePlaces443, HOk Try.prog x := hmemo_cons hTreePlaces442_ok hmTreePlaces442_ok
def hTreePlaces443 : HE := ⟨32, [(.agg [(eI 100),(eI 0),(.sl 0 2 0 3 none 3)]),(eI 3),(.lit (.int .i64 (Int.negSucc 0))),(eI 1)], [btreePlaces13, btreePlaces10], [((.val eB0), [])]⟩
theorem hTreePlaces443_ok : HOk Try.prog hTreePlaces443 := hok_eq mmTreePlaces_ok hmTreePlaces443_ok folTreePlaces (lf := 100000) (k := 1000) (by kernel_rfl)
def hmTreePlaces444 : List HE := hTreePlaces443 :: hmTreePlaces443
theorem hmTreePlaces444_ok : ∀ x ∈ hmTreePlaces444, HOk Try.prog x := hmemo_cons hTreePlaces443_ok hmTreePlaces443_ok
def hTreePlaces444 : HE := ⟨32, [(.agg [(eI 100),(eI 0),(.sl 0 2 0 3 none 3)]),(eI 3),(.lit (.int .i64 (Int.negSucc 0))),(eI 2)], [btreePlaces15, btreePlaces16, btreePlaces10], [((.val eB0), [])]⟩
theorem hTreePlaces444_ok : HOk Try.prog hTreePlaces444 := hok_eq mmTreePlaces_ok hmTreePlaces444_ok folTreePlaces (lf := 100000) (k := 1000) (by kernel_rfl)
def hmTreePlaces445 : List HE := hTreePlaces444 :: hmTreePlaces444
theorem hmTreePlaces445_ok : ∀ x ∈ hmTreePlaces445, HOk Try.prog x := hmemo_cons hTreePlaces444_ok hmTreePlaces444_ok
def hTreePlaces445 : HE := ⟨32, [(.agg [(eI 101),(eI 2),(.lit (.slice none 0 0))]),(eI 3),(.lit (.int .i64 (Int.negSucc 0))),(eI 1)], [], [((.val eB0), [])]⟩
theorem hTreePlaces445_ok : HOk Try.prog hTreePlaces445 := hok_eq mmTreePlaces_ok hmTreePlaces445_ok folTreePlaces (lf := 100000) (k := 1000) (by kernel_rfl)
def hmTreePlaces446 : List HE := hTreePlaces445 :: hmTreePlaces445
theorem hmTreePlaces446_ok : ∀ x ∈ hmTreePlaces446, HOk Try.prog x := hmemo_cons hTreePlaces445_ok hmTreePlaces445_ok
def hTreePlaces446 : HE := ⟨32, [(.agg [(eI 3),(.lit (.int .i64 (Int.negSucc 0))),(.lit (.slice none 0 0))]),(eI 3),(.lit (.int .i64 (Int.negSucc 0))),(eI 0)], [], [((.val eB0), [])]⟩
theorem hTreePlaces446_ok : HOk Try.prog hTreePlaces446 := hok_eq mmTreePlaces_ok hmTreePlaces446_ok folTreePlaces (lf := 100000) (k := 1000) (by kernel_rfl)
def hmTreePlaces447 : List HE := hTreePlaces446 :: hmTreePlaces446
theorem hmTreePlaces447_ok : ∀ x ∈ hmTreePlaces447, HOk Try.prog x := hmemo_cons hTreePlaces446_ok hmTreePlaces446_ok
def hTreePlaces447 : HE := ⟨32, [(.agg [(eI 101),(eI 3),(.sl 0 0 0 1 none 3)]),(eI 3),(.lit (.int .i64 (Int.negSucc 0))),(eI 0)], [btreePlaces10], [((.val eB0), [])]⟩
theorem hTreePlaces447_ok : HOk Try.prog hTreePlaces447 := hok_eq mmTreePlaces_ok hmTreePlaces447_ok folTreePlaces (lf := 100000) (k := 1000) (by kernel_rfl)
def hmTreePlaces448 : List HE := hTreePlaces447 :: hmTreePlaces447
theorem hmTreePlaces448_ok : ∀ x ∈ hmTreePlaces448, HOk Try.prog x := hmemo_cons hTreePlaces447_ok hmTreePlaces447_ok
def hTreePlaces448 : HE := ⟨32, [(.agg [(eI 1),(.lit (.int .i64 (Int.negSucc 0))),(.lit (.slice none 0 0))]),(eI 3),(.lit (.int .i64 (Int.negSucc 0))),(.lit (.int .i64 (Int.negSucc 0)))], [], [((.val eB0), [])]⟩
theorem hTreePlaces448_ok : HOk Try.prog hTreePlaces448 := hok_eq mmTreePlaces_ok hmTreePlaces448_ok folTreePlaces (lf := 100000) (k := 1000) (by kernel_rfl)
def hmTreePlaces449 : List HE := hTreePlaces448 :: hmTreePlaces448
theorem hmTreePlaces449_ok : ∀ x ∈ hmTreePlaces449, HOk Try.prog x := hmemo_cons hTreePlaces448_ok hmTreePlaces448_ok
def hTreePlaces449 : HE := ⟨32, [(.agg [(eI 100),(.lit (.int .i64 (Int.negSucc 0))),(.lit (.slice none 0 0))]),(eI 3),(.lit (.int .i64 (Int.negSucc 0))),(.lit (.int .i64 (Int.negSucc 1)))], [], [((.val eB0), [])]⟩
theorem hTreePlaces449_ok : HOk Try.prog hTreePlaces449 := hok_eq mmTreePlaces_ok hmTreePlaces449_ok folTreePlaces (lf := 100000) (k := 1000) (by kernel_rfl)
def hmTreePlaces450 : List HE := hTreePlaces449 :: hmTreePlaces449
theorem hmTreePlaces450_ok : ∀ x ∈ hmTreePlaces450, HOk Try.prog x := hmemo_cons hTreePlaces449_ok hmTreePlaces449_ok
def hTreePlaces450 : HE := ⟨32, [(.agg [(eI 100),(eI 0),(.sl 0 2 0 3 none 3)]),(eI 3),(.lit (.int .i64 (Int.negSucc 0))),(eI 0)], [btreePlaces13, btreePlaces10], [((.val eB0), [])]⟩
theorem hTreePlaces450_ok : HOk Try.prog hTreePlaces450 := hok_eq mmTreePlaces_ok hmTreePlaces450_ok folTreePlaces (lf := 100000) (k := 1000) (by kernel_rfl)
def hmTreePlaces451 : List HE := hTreePlaces450 :: hmTreePlaces450
theorem hmTreePlaces451_ok : ∀ x ∈ hmTreePlaces451, HOk Try.prog x := hmemo_cons hTreePlaces450_ok hmTreePlaces450_ok
def hTreePlaces451 : HE := ⟨32, [(.agg [(eI 100),(eI 0),(.sl 0 2 0 3 none 3)]),(eI 3),(.lit (.int .i64 (Int.negSucc 0))),(eI 1)], [btreePlaces15, btreePlaces16, btreePlaces10], [((.val eB0), [])]⟩
theorem hTreePlaces451_ok : HOk Try.prog hTreePlaces451 := hok_eq mmTreePlaces_ok hmTreePlaces451_ok folTreePlaces (lf := 100000) (k := 1000) (by kernel_rfl)
def hmTreePlaces452 : List HE := hTreePlaces451 :: hmTreePlaces451
theorem hmTreePlaces452_ok : ∀ x ∈ hmTreePlaces452, HOk Try.prog x := hmemo_cons hTreePlaces451_ok hmTreePlaces451_ok
def hTreePlaces452 : HE := ⟨32, [(.agg [(eI 101),(eI 2),(.lit (.slice none 0 0))]),(eI 3),(.lit (.int .i64 (Int.negSucc 0))),(eI 0)], [], [((.val eB0), [])]⟩
theorem hTreePlaces452_ok : HOk Try.prog hTreePlaces452 := hok_eq mmTreePlaces_ok hmTreePlaces452_ok folTreePlaces (lf := 100000) (k := 1000) (by kernel_rfl)
def hmTreePlaces453 : List HE := hTreePlaces452 :: hmTreePlaces452
theorem hmTreePlaces453_ok : ∀ x ∈ hmTreePlaces453, HOk Try.prog x := hmemo_cons hTreePlaces452_ok hmTreePlaces452_ok
def hTreePlaces453 : HE := ⟨32, [(.agg [(eI 100),(eI 0),(.sl 0 2 0 3 none 3)]),(eI 3),(.lit (.int .i64 (Int.negSucc 0))),(.lit (.int .i64 (Int.negSucc 0)))], [btreePlaces13, btreePlaces10], [((.val eB0), [])]⟩
theorem hTreePlaces453_ok : HOk Try.prog hTreePlaces453 := hok_eq mmTreePlaces_ok hmTreePlaces453_ok folTreePlaces (lf := 100000) (k := 1000) (by kernel_rfl)
def hmTreePlaces454 : List HE := hTreePlaces453 :: hmTreePlaces453
theorem hmTreePlaces454_ok : ∀ x ∈ hmTreePlaces454, HOk Try.prog x := hmemo_cons hTreePlaces453_ok hmTreePlaces453_ok
def hTreePlaces454 : HE := ⟨32, [(.agg [(eI 100),(eI 0),(.sl 0 2 0 3 none 3)]),(eI 3),(.lit (.int .i64 (Int.negSucc 0))),(eI 0)], [btreePlaces15, btreePlaces16, btreePlaces10], [((.val eB0), [])]⟩
theorem hTreePlaces454_ok : HOk Try.prog hTreePlaces454 := hok_eq mmTreePlaces_ok hmTreePlaces454_ok folTreePlaces (lf := 100000) (k := 1000) (by kernel_rfl)
def hmTreePlaces455 : List HE := hTreePlaces454 :: hmTreePlaces454
theorem hmTreePlaces455_ok : ∀ x ∈ hmTreePlaces455, HOk Try.prog x := hmemo_cons hTreePlaces454_ok hmTreePlaces454_ok
def hTreePlaces455 : HE := ⟨32, [(.agg [(eI 100),(eI 0),(.sl 0 2 0 3 none 3)]),(eI 3),(.lit (.int .i64 (Int.negSucc 0))),(.lit (.int .i64 (Int.negSucc 0)))], [btreePlaces15, btreePlaces16, btreePlaces10], [((.val eB0), [])]⟩
theorem hTreePlaces455_ok : HOk Try.prog hTreePlaces455 := hok_eq mmTreePlaces_ok hmTreePlaces455_ok folTreePlaces (lf := 100000) (k := 1000) (by kernel_rfl)
def hmTreePlaces456 : List HE := hTreePlaces455 :: hmTreePlaces455
theorem hmTreePlaces456_ok : ∀ x ∈ hmTreePlaces456, HOk Try.prog x := hmemo_cons hTreePlaces455_ok hmTreePlaces455_ok
def hTreePlaces456 : HE := ⟨32, [(.agg [(eI 101),(eI 2),(.lit (.slice none 0 0))]),(eI 2),(eI 4),(eI 4)], [], [((.val eB0), [])]⟩
theorem hTreePlaces456_ok : HOk Try.prog hTreePlaces456 := hok_eq mmTreePlaces_ok hmTreePlaces456_ok folTreePlaces (lf := 100000) (k := 1000) (by kernel_rfl)
def hmTreePlaces457 : List HE := hTreePlaces456 :: hmTreePlaces456
theorem hmTreePlaces457_ok : ∀ x ∈ hmTreePlaces457, HOk Try.prog x := hmemo_cons hTreePlaces456_ok hmTreePlaces456_ok
def hTreePlaces457 : HE := ⟨32, [(.agg [(eI 1),(.lit (.int .i64 (Int.negSucc 0))),(.lit (.slice none 0 0))]),(eI 2),(eI 4),(eI 4)], [], [((.val eB0), [])]⟩
theorem hTreePlaces457_ok : HOk Try.prog hTreePlaces457 := hok_eq mmTreePlaces_ok hmTreePlaces457_ok folTreePlaces (lf := 100000) (k := 1000) (by kernel_rfl)
def hmTreePlaces458 : List HE := hTreePlaces457 :: hmTreePlaces457
theorem hmTreePlaces458_ok : ∀ x ∈ hmTreePlaces458, HOk Try.prog x := hmemo_cons hTreePlaces457_ok hmTreePlaces457_ok
def hTreePlaces458 : HE := ⟨32, [(.agg [(eI 3),(.lit (.int .i64 (Int.negSucc 0))),(.lit (.slice none 0 0))]),(eI 2),(eI 4),(eI 3)], [], [((.val eB0), [])]⟩
theorem hTreePlaces458_ok : HOk Try.prog hTreePlaces458 := hok_eq mmTreePlaces_ok hmTreePlaces458_ok folTreePlaces (lf := 100000) (k := 1000) (by kernel_rfl)
def hmTreePlaces459 : List HE := hTreePlaces458 :: hmTreePlaces458
theorem hmTreePlaces459_ok : ∀ x ∈ hmTreePlaces459, HOk Try.prog x := hmemo_cons hTreePlaces458_ok hmTreePlaces458_ok
def hTreePlaces459 : HE := ⟨32, [(.agg [(eI 101),(eI 3),(.sl 0 0 0 1 none 3)]),(eI 2),(eI 4),(eI 3)], [btreePlaces10], [((.val eB0), [])]⟩
theorem hTreePlaces459_ok : HOk Try.prog hTreePlaces459 := hok_eq mmTreePlaces_ok hmTreePlaces459_ok folTreePlaces (lf := 100000) (k := 1000) (by kernel_rfl)
def hmTreePlaces460 : List HE := hTreePlaces459 :: hmTreePlaces459
theorem hmTreePlaces460_ok : ∀ x ∈ hmTreePlaces460, HOk Try.prog x := hmemo_cons hTreePlaces459_ok hmTreePlaces459_ok
def hTreePlaces460 : HE := ⟨32, [(.agg [(eI 1),(.lit (.int .i64 (Int.negSucc 0))),(.lit (.slice none 0 0))]),(eI 2),(eI 4),(eI 2)], [], [((.val eB0), [])]⟩
theorem hTreePlaces460_ok : HOk Try.prog hTreePlaces460 := hok_eq mmTreePlaces_ok hmTreePlaces460_ok folTreePlaces (lf := 100000) (k := 1000) (by kernel_rfl)
def hmTreePlaces461 : List HE := hTreePlaces460 :: hmTreePlaces460
theorem hmTreePlaces461_ok : ∀ x ∈ hmTreePlaces461, HOk Try.prog x := hmemo_cons hTreePlaces460_ok hmTreePlaces460_ok
def hTreePlaces461 : HE := ⟨32, [(.agg [(eI 100),(.lit (.int .i64 (Int.negSucc 0))),(.lit (.slice none 0 0))]),(eI 2),(eI 4),(eI 1)], [], [((.val eB0), [])]⟩
theorem hTreePlaces461_ok : HOk Try.prog hTreePlaces461 := hok_eq mmTreePlaces_ok hmTreePlaces461_ok folTreePlaces (lf := 100000) (k := 1000) (by kernel_rfl)
def hmTreePlaces462 : List HE := hTreePlaces461 :: hmTreePlaces461
theorem hmTreePlaces462_ok : ∀ x ∈ hmTreePlaces462, HOk Try.prog x := hmemo_cons hTreePlaces461_ok hmTreePlaces461_ok
def hTreePlaces462 : HE := ⟨32, [(.agg [(eI 100),(eI 0),(.sl 0 2 0 3 none 3)]),(eI 2),(eI 4),(eI 3)], [btreePlaces13, btreePlaces10], [((.val eB0), [])]⟩
theorem hTreePlaces462_ok : HOk Try.prog hTreePlaces462 := hok_eq mmTreePlaces_ok hmTreePlaces462_ok folTreePlaces (lf := 100000) (k := 1000) (by kernel_rfl)
def hmTreePlaces463 : List HE := hTreePlaces462 :: hmTreePlaces462
theorem hmTreePlaces463_ok : ∀ x ∈ hmTreePlaces463, HOk Try.prog x := hmemo_cons hTreePlaces462_ok hmTreePlaces462_ok
def hTreePlaces463 : HE := ⟨32, [(.agg [(eI 100),(eI 0),(.sl 0 2 0 3 none 3)]),(eI 2),(eI 4),(eI 4)], [btreePlaces15, btreePlaces16, btreePlaces10], [((.val eB0), [])]⟩
theorem hTreePlaces463_ok : HOk Try.prog hTreePlaces463 := hok_eq mmTreePlaces_ok hmTreePlaces463_ok folTreePlaces (lf := 100000) (k := 1000) (by kernel_rfl)
def hmTreePlaces464 : List HE := hTreePlaces463 :: hmTreePlaces463
theorem hmTreePlaces464_ok : ∀ x ∈ hmTreePlaces464, HOk Try.prog x := hmemo_cons hTreePlaces463_ok hmTreePlaces463_ok
def hTreePlaces464 : HE := ⟨32, [(.agg [(eI 101),(eI 2),(.lit (.slice none 0 0))]),(eI 2),(eI 4),(eI 3)], [], [((.val eB0), [])]⟩
theorem hTreePlaces464_ok : HOk Try.prog hTreePlaces464 := hok_eq mmTreePlaces_ok hmTreePlaces464_ok folTreePlaces (lf := 100000) (k := 1000) (by kernel_rfl)
def hmTreePlaces465 : List HE := hTreePlaces464 :: hmTreePlaces464
theorem hmTreePlaces465_ok : ∀ x ∈ hmTreePlaces465, HOk Try.prog x := hmemo_cons hTreePlaces464_ok hmTreePlaces464_ok
def hTreePlaces465 : HE := ⟨32, [(.agg [(eI 1),(.lit (.int .i64 (Int.negSucc 0))),(.lit (.slice none 0 0))]),(eI 2),(eI 4),(eI 3)], [], [((.val eB0), [])]⟩
theorem hTreePlaces465_ok : HOk Try.prog hTreePlaces465 := hok_eq mmTreePlaces_ok hmTreePlaces465_ok folTreePlaces (lf := 100000) (k := 1000) (by kernel_rfl)
def hmTreePlaces466 : List HE := hTreePlaces465 :: hmTreePlaces465
theorem hmTreePlaces466_ok : ∀ x ∈ hmTreePlaces466, HOk Try.prog x := hmemo_cons hTreePlaces465_ok hmTreePlaces465_ok
def hTreePlaces466 : HE := ⟨32, [(.agg [(eI 3),(.lit (.int .i64 (Int.negSucc 0))),(.lit (.slice none 0 0))]),(eI 2),(eI 4),(eI 2)], [], [((.val eB0), [])]⟩
theorem hTreePlaces466_ok : HOk Try.prog hTreePlaces466 := hok_eq mmTreePlaces_ok hmTreePlaces466_ok folTreePlaces (lf := 100000) (k := 1000) (by kernel_rfl)
def hmTreePlaces467 : List HE := hTreePlaces466 :: hmTreePlaces466
theorem hmTreePlaces467_ok : ∀ x ∈ hmTreePlaces467, HOk Try.prog x := hmemo_cons hTreePlaces466_ok hmTreePlaces466_ok
def hTreePlaces467 : HE := ⟨32, [(.agg [(eI 101),(eI 3),(.sl 0 0 0 1 none 3)]),(eI 2),(eI 4),(eI 2)], [btreePlaces10], [((.val eB0), [])]⟩
theorem hTreePlaces467_ok : HOk Try.prog hTreePlaces467 := hok_eq mmTreePlaces_ok hmTreePlaces467_ok folTreePlaces (lf := 100000) (k := 1000) (by kernel_rfl)
def hmTreePlaces468 : List HE := hTreePlaces467 :: hmTreePlaces467
theorem hmTreePlaces468_ok : ∀ x ∈ hmTreePlaces468, HOk Try.prog x := hmemo_cons hTreePlaces467_ok hmTreePlaces467_ok
def hTreePlaces468 : HE := ⟨32, [(.agg [(eI 1),(.lit (.int .i64 (Int.negSucc 0))),(.lit (.slice none 0 0))]),(eI 2),(eI 4),(eI 1)], [], [((.val eB0), [])]⟩
theorem hTreePlaces468_ok : HOk Try.prog hTreePlaces468 := hok_eq mmTreePlaces_ok hmTreePlaces468_ok folTreePlaces (lf := 100000) (k := 1000) (by kernel_rfl)
def hmTreePlaces469 : List HE := hTreePlaces468 :: hmTreePlaces468
theorem hmTreePlaces469_ok : ∀ x ∈ hmTreePlaces469, HOk Try.prog x := hmemo_cons hTreePlaces468_ok hmTreePlaces468_ok
def hTreePlaces469 : HE := ⟨32, [(.agg [(eI 100),(.lit (.int .i64 (Int.negSucc 0))),(.lit (.slice none 0 0))]),(eI 2),(eI 4),(eI 0)], [], [((.val eB0), [])]⟩
theorem hTreePlaces469_ok : HOk Try.prog hTreePlaces469 := hok_eq mmTreePlaces_ok hmTreePlaces469_ok folTreePlaces (lf := 100000) (k := 1000) (by kernel_rfl)
def hmTreePlaces470 : List HE := hTreePlaces469 :: hmTreePlaces469
theorem hmTreePlaces470_ok : ∀ x ∈ hmTreePlaces470, HOk Try.prog x := hmemo_cons hTreePlaces469_ok hmTreePlaces469_ok
def hTreePlaces470 : HE := ⟨32, [(.agg [(eI 100),(eI 0),(.sl 0 2 0 3 none 3)]),(eI 2),(eI 4),(eI 2)], [btreePlaces13, btreePlaces10], [((.val eB0), [])]⟩
theorem hTreePlaces470_ok : HOk Try.prog hTreePlaces470 := hok_eq mmTreePlaces_ok hmTreePlaces470_ok folTreePlaces (lf := 100000) (k := 1000) (by kernel_rfl)
def hmTreePlaces471 : List HE := hTreePlaces470 :: hmTreePlaces470
theorem hmTreePlaces471_ok : ∀ x ∈ hmTreePlaces471, HOk Try.prog x := hmemo_cons hTreePlaces470_ok hmTreePlaces470_ok
def hTreePlaces471 : HE := ⟨32, [(.agg [(eI 100),(eI 0),(.sl 0 2 0 3 none 3)]),(eI 2),(eI 4),(eI 3)], [btreePlaces15, btreePlaces16, btreePlaces10], [((.val eB0), [])]⟩
theorem hTreePlaces471_ok : HOk Try.prog hTreePlaces471 := hok_eq mmTreePlaces_ok hmTreePlaces471_ok folTreePlaces (lf := 100000) (k := 1000) (by kernel_rfl)
def hmTreePlaces472 : List HE := hTreePlaces471 :: hmTreePlaces471
theorem hmTreePlaces472_ok : ∀ x ∈ hmTreePlaces472, HOk Try.prog x := hmemo_cons hTreePlaces471_ok hmTreePlaces471_ok
def hTreePlaces472 : HE := ⟨32, [(.agg [(eI 101),(eI 2),(.lit (.slice none 0 0))]),(eI 2),(eI 4),(eI 2)], [], [((.val eB0), [])]⟩
theorem hTreePlaces472_ok : HOk Try.prog hTreePlaces472 := hok_eq mmTreePlaces_ok hmTreePlaces472_ok folTreePlaces (lf := 100000) (k := 1000) (by kernel_rfl)
def hmTreePlaces473 : List HE := hTreePlaces472 :: hmTreePlaces472
theorem hmTreePlaces473_ok : ∀ x ∈ hmTreePlaces473, HOk Try.prog x := hmemo_cons hTreePlaces472_ok hmTreePlaces472_ok
def hTreePlaces473 : HE := ⟨32, [(.agg [(eI 3),(.lit (.int .i64 (Int.negSucc 0))),(.lit (.slice none 0 0))]),(eI 2),(eI 4),(eI 1)], [], [((.val eB0), [])]⟩
theorem hTreePlaces473_ok : HOk Try.prog hTreePlaces473 := hok_eq mmTreePlaces_ok hmTreePlaces473_ok folTreePlaces (lf := 100000) (k := 1000) (by kernel_rfl)
def hmTreePlaces474 : List HE := hTreePlaces473 :: hmTreePlaces473
theorem hmTreePlaces474_ok : ∀ x ∈ hmTreePlaces474, HOk Try.prog x := hmemo_cons hTreePlaces473_ok hmTreePlaces473_ok
def hTreePlaces474 : HE := ⟨32, [(.agg [(eI 101),(eI 3),(.sl 0 0 0 1 none 3)]),(eI 2),(eI 4),(eI 1)], [btreePlaces10], [((.val eB0), [])]⟩
theorem hTreePlaces474_ok : HOk Try.prog hTreePlaces474 := hok_eq mmTreePlaces_ok hmTreePlaces474_ok folTreePlaces (lf := 100000) (k := 1000) (by kernel_rfl)
def hmTreePlaces475 : List HE := hTreePlaces474 :: hmTreePlaces474
theorem hmTreePlaces475_ok : ∀ x ∈ hmTreePlaces475, HOk Try.prog x := hmemo_cons hTreePlaces474_ok hmTreePlaces474_ok
def hTreePlaces475 : HE := ⟨32, [(.agg [(eI 1),(.lit (.int .i64 (Int.negSucc 0))),(.lit (.slice none 0 0))]),(eI 2),(eI 4),(eI 0)], [], [((.val eB0), [])]⟩
theorem hTreePlaces475_ok : HOk Try.prog hTreePlaces475 := hok_eq mmTreePlaces_ok hmTreePlaces475_ok folTreePlaces (lf := 100000) (k := 1000) (by kernel_rfl)
def hmTreePlaces476 : List HE := hTreePlaces475 :: hmTreePlaces475
theorem hmTreePlaces476_ok : ∀ x ∈ hmTreePlaces476, HOk Try.prog x := hmemo_cons hTreePlaces475_ok hmTreePlaces475_ok
def hTreePlaces476 : HE := ⟨32, [(.agg [(eI 100),(.lit (.int .i64 (Int.negSucc 0))),(.lit (.slice none 0 0))]),(eI 2),(eI 4),(.lit (.int .i64 (Int.negSucc 0)))], [], [((.val eB0), [])]⟩
theorem hTreePlaces476_ok : HOk Try.prog hTreePlaces476 := hok_eq mmTreePlaces_ok hmTreePlaces476_ok folTreePlaces (lf := 100000) (k := 1000) (by kernel_rfl)
def hmTreePlaces477 : List HE := hTreePlaces476 :: hmTreePlaces476
theorem hmTreePlaces477_ok : ∀ x ∈ hmTreePlaces477, HOk Try.prog x := hmemo_cons hTreePlaces476_ok hmTreePlaces476_ok
def hTreePlaces477 : HE := ⟨32, [(.agg [(eI 100),(eI 0),(.sl 0 2 0 3 none 3)]),(eI 2),(eI 4),(eI 1)], [btreePlaces13, btreePlaces10], [((.val eB0), [])]⟩
theorem hTreePlaces477_ok : HOk Try.prog hTreePlaces477 := hok_eq mmTreePlaces_ok hmTreePlaces477_ok folTreePlaces (lf := 100000) (k := 1000) (by kernel_rfl)
def hmTreePlaces478 : List HE := hTreePlaces477 :: hmTreePlaces477
theorem hmTreePlaces478_ok : ∀ x ∈ hmTreePlaces478, HOk Try.prog x := hmemo_cons hTreePlaces477_ok hmTreePlaces477_ok
def hTreePlaces478 : HE := ⟨32, [(.agg [(eI 100),(eI 0),(.sl 0 2 0 3 none 3)]),(eI 2),(eI 4),(eI 2)], [btreePlaces15, btreePlaces16, btreePlaces10], [((.val eB0), [])]⟩
theorem hTreePlaces478_ok : HOk Try.prog hTreePlaces478 := hok_eq mmTreePlaces_ok hmTreePlaces478_ok folTreePlaces (lf := 100000) (k := 1000) (by kernel_rfl)
def hmTreePlaces479 : List HE := hTreePlaces478 :: hmTreePlaces478
theorem hmTreePlaces479_ok : ∀ x ∈ hmTreePlaces479, HOk Try.prog x := hmemo_cons hTreePlaces478_ok hmTreePlaces478_ok
def hTreePlaces479 : HE := ⟨32, [(.agg [(eI 101),(eI 2),(.lit (.slice none 0 0))]),(eI 2),(eI 4),(eI 1)], [], [((.val eB0), [])]⟩
theorem hTreePlaces479_ok : HOk Try.prog hTreePlaces479 := hok_eq mmTreePlaces_ok hmTreePlaces479_ok folTreePlaces (lf := 100000) (k := 1000) (by kernel_rfl)
def hmTreePlaces480 : List HE := hTreePlaces479 :: hmTreePlaces479
theorem hmTreePlaces480_ok : ∀ x ∈ hmTreePlaces480, HOk Try.prog x := hmemo_cons hTreePlaces479_ok hmTreePlaces479_ok
def hTreePlaces480 : HE := ⟨32, [(.agg [(eI 3),(.lit (.int .i64 (Int.negSucc 0))),(.lit (.slice none 0 0))]),(eI 2),(eI 4),(eI 0)], [], [((.val eB0), [])]⟩
theorem hTreePlaces480_ok : HOk Try.prog hTreePlaces480 := hok_eq mmTreePlaces_ok hmTreePlaces480_ok folTreePlaces (lf := 100000) (k := 1000) (by kernel_rfl)
def hmTreePlaces481 : List HE := hTreePlaces480 :: hmTreePlaces480
theorem hmTreePlaces481_ok : ∀ x ∈ hmTreePlaces481, HOk Try.prog x := hmemo_cons hTreePlaces480_ok hmTreePlaces480_ok
def hTreePlaces481 : HE := ⟨32, [(.agg [(eI 101),(eI 3),(.sl 0 0 0 1 none 3)]),(eI 2),(eI 4),(eI 0)], [btreePlaces10], [((.val eB0), [])]⟩
end Go.Proofs.Ytdmljeaigjfenaa.E
