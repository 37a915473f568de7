/- Calls that TreeForms makes, each carried out once over the memory that it is given. -/
import Derived.Test.YtdmljeaigjfenaaEWithin
import Derived.Test.YtdmljeaigjfenaaEView3
import Derived.Test.YtdmljeaigjfenaaProg
import Derived.KernelRfl
namespace Go.Proofs.Ytdmljeaigjfenaa.E
open Go Go.EV Go.RowKit Go.Proofs
set_option linter.unusedVariables false
set_option maxRecDepth 100000
abbrev eI (n : Nat) : AV := .lit (.int .i64 (Int.ofNat n))
abbrev eU (n : Nat) : AV := .lit (.int .u8 (Int.ofNat n))
abbrev eS (l : List Nat) : AV := .lit (.string (sb l))
abbrev eT (l : List Nat) : AV := .lit (.string (sb l))
abbrev eB1 : AV := .lit (.bool true)
abbrev eB0 : AV := .lit (.bool false)
def mmTreeForms : Memo := [(17, [.any .i64, .lit (.int .i64 (Int.ofNat 20))], upto 20)]
theorem mmTreeForms_ok : ∀ x ∈ mmTreeForms, Contract Try.prog x := memo_cons (within_c 20 (by omega)) (memo_nil _)
theorem folTreeForms : Try.prog.follows .mixedOrders = true := by kernel_rfl
def hmTreeForms0 : List HE := []
theorem hmTreeForms0_ok : ∀ x ∈ hmTreeForms0, HOk Try.prog x := hmemo_nil _
def hTreeForms0 : HE := ⟨62, [(eU 83)], [], [((.val eB1), [])]⟩
theorem hTreeForms0_ok : HOk Try.prog hTreeForms0 := hok_eq mmTreeForms_ok hmTreeForms0_ok folTreeForms (lf := 100000) (k := 1000) (by kernel_rfl)
def hmTreeForms1 : List HE := hTreeForms0 :: hmTreeForms0
theorem hmTreeForms1_ok : ∀ x ∈ hmTreeForms1, HOk Try.prog x := hmemo_cons hTreeForms0_ok hmTreeForms0_ok
def hTreeForms1 : HE := ⟨62, [(eU 58)], [], [((.val eB0), [])]⟩
theorem hTreeForms1_ok : HOk Try.prog hTreeForms1 := hok_eq mmTreeForms_ok hmTreeForms1_ok folTreeForms (lf := 100000) (k := 1000) (by kernel_rfl)
def hmTreeForms2 : List HE := hTreeForms1 :: hmTreeForms1
theorem hmTreeForms2_ok : ∀ x ∈ hmTreeForms2, HOk Try.prog x := hmemo_cons hTreeForms1_ok hmTreeForms1_ok
def hTreeForms2 : HE := ⟨63, [(eU 58)], [], [((.val eB0), [])]⟩
theorem hTreeForms2_ok : HOk Try.prog hTreeForms2 := hok_eq mmTreeForms_ok hmTreeForms2_ok folTreeForms (lf := 100000) (k := 1000) (by kernel_rfl)
def hmTreeForms3 : List HE := hTreeForms2 :: hmTreeForms2
theorem hmTreeForms3_ok : ∀ x ∈ hmTreeForms3, HOk Try.prog x := hmemo_cons hTreeForms2_ok hmTreeForms2_ok
def hTreeForms3 : HE := ⟨62, [(eU 65)], [], [((.val eB1), [])]⟩
theorem hTreeForms3_ok : HOk Try.prog hTreeForms3 := hok_eq mmTreeForms_ok hmTreeForms3_ok folTreeForms (lf := 100000) (k := 1000) (by kernel_rfl)
def hmTreeForms4 : List HE := hTreeForms3 :: hmTreeForms3
theorem hmTreeForms4_ok : ∀ x ∈ hmTreeForms4, HOk Try.prog x := hmemo_cons hTreeForms3_ok hmTreeForms3_ok
def hTreeForms4 : HE := ⟨62, [(eU 32)], [], [((.val eB0), [])]⟩
theorem hTreeForms4_ok : HOk Try.prog hTreeForms4 := hok_eq mmTreeForms_ok hmTreeForms4_ok folTreeForms (lf := 100000) (k := 1000) (by kernel_rfl)
def hmTreeForms5 : List HE := hTreeForms4 :: hmTreeForms4
theorem hmTreeForms5_ok : ∀ x ∈ hmTreeForms5, HOk Try.prog x := hmemo_cons hTreeForms4_ok hmTreeForms4_ok
def hTreeForms5 : HE := ⟨63, [(eU 32)], [], [((.val eB0), [])]⟩
theorem hTreeForms5_ok : HOk Try.prog hTreeForms5 := hok_eq mmTreeForms_ok hmTreeForms5_ok folTreeForms (lf := 100000) (k := 1000) (by kernel_rfl)
def hmTreeForms6 : List HE := hTreeForms5 :: hmTreeForms5
theorem hmTreeForms6_ok : ∀ x ∈ hmTreeForms6, HOk Try.prog x := hmemo_cons hTreeForms5_ok hmTreeForms5_ok
def hTreeForms6 : HE := ⟨62, [(eU 97)], [], [((.val eB1), [])]⟩
theorem hTreeForms6_ok : HOk Try.prog hTreeForms6 := hok_eq mmTreeForms_ok hmTreeForms6_ok folTreeForms (lf := 100000) (k := 1000) (by kernel_rfl)
def hmTreeForms7 : List HE := hTreeForms6 :: hmTreeForms6
theorem hmTreeForms7_ok : ∀ x ∈ hmTreeForms7, HOk Try.prog x := hmemo_cons hTreeForms6_ok hmTreeForms6_ok
def hTreeForms7 : HE := ⟨62, [(eU 98)], [], [((.val eB1), [])]⟩
theorem hTreeForms7_ok : HOk Try.prog hTreeForms7 := hok_eq mmTreeForms_ok hmTreeForms7_ok folTreeForms (lf := 100000) (k := 1000) (by kernel_rfl)
def hmTreeForms8 : List HE := hTreeForms7 :: hmTreeForms7
theorem hmTreeForms8_ok : ∀ x ∈ hmTreeForms8, HOk Try.prog x := hmemo_cons hTreeForms7_ok hmTreeForms7_ok
def hTreeForms8 : HE := ⟨62, [(eU 10)], [], [((.val eB0), [])]⟩
theorem hTreeForms8_ok : HOk Try.prog hTreeForms8 := hok_eq mmTreeForms_ok hmTreeForms8_ok folTreeForms (lf := 100000) (k := 1000) (by kernel_rfl)
def hmTreeForms9 : List HE := hTreeForms8 :: hmTreeForms8
theorem hmTreeForms9_ok : ∀ x ∈ hmTreeForms9, HOk Try.prog x := hmemo_cons hTreeForms8_ok hmTreeForms8_ok
def hTreeForms9 : HE := ⟨63, [(eU 10)], [], [((.val eB0), [])]⟩
theorem hTreeForms9_ok : HOk Try.prog hTreeForms9 := hok_eq mmTreeForms_ok hmTreeForms9_ok folTreeForms (lf := 100000) (k := 1000) (by kernel_rfl)
def hmTreeForms10 : List HE := hTreeForms9 :: hmTreeForms9
theorem hmTreeForms10_ok : ∀ x ∈ hmTreeForms10, HOk Try.prog x := hmemo_cons hTreeForms9_ok hmTreeForms9_ok
def hTreeForms10 : HE := ⟨62, [(eU 99)], [], [((.val eB1), [])]⟩
theorem hTreeForms10_ok : HOk Try.prog hTreeForms10 := hok_eq mmTreeForms_ok hmTreeForms10_ok folTreeForms (lf := 100000) (k := 1000) (by kernel_rfl)
def hmTreeForms11 : List HE := hTreeForms10 :: hmTreeForms10
theorem hmTreeForms11_ok : ∀ x ∈ hmTreeForms11, HOk Try.prog x := hmemo_cons hTreeForms10_ok hmTreeForms10_ok
def btreeForms1 : Blk := ⟨[(eI 1),(eS [83]),(eI 1),(eI 1),(eI 3),(eS [58]),(eI 1),(eI 2),(eI 1),(eS [65]),(eI 1),(eI 4),(eI 2),(eS [97]),(eI 1),(eI 6),(eI 1),(eS [83]),(eI 1),(eI 8),(eI 4),(eS [124]),(eI 1),(eI 10),(eI 2),(eS [98]),(eI 1),(eI 12),(eI 5),(eS []),(eI 1),(eI 13),(eI 1),(eS [65]),(eI 2),(eI 1),(eI 3),(eS [58]),(eI 2),(eI 2),(eI 4),(eS [124]),(eI 2),(eI 4),(eI 2),(eS [99]),(eI 2),(eI 6),(eI 5),(eS []),(eI 2),(eI 7)],85,[(12,52),(11,48),(10,44),(9,40),(8,36),(7,32),(6,28),(5,24),(4,20),(3,16),(2,12),(1,8),(0,4)],13,0,false,12,none⟩
def ttreeForms1 : List Nat := [83,58,32,65,32,97,32,83,32,124,32,98,10,65,58,32,124,32,99,10]
def hTreeForms11 : HE := ⟨43, [(eT ttreeForms1)], [], [((.val (.tup [(.sl 0 12 0 13 none 4),(eI 0),(eI 0)])), [btreeForms1])]⟩
theorem hTreeForms11_ok : HOk Try.prog hTreeForms11 := hok_eq mmTreeForms_ok hmTreeForms11_ok folTreeForms (lf := 100000) (k := 1000) (by kernel_rfl)
def hmTreeForms12 : List HE := hTreeForms11 :: hmTreeForms11
theorem hmTreeForms12_ok : ∀ x ∈ hmTreeForms12, HOk Try.prog x := hmemo_cons hTreeForms11_ok hmTreeForms11_ok
def btreeForms2 : Blk := ⟨[(eS [97]),(eS [98]),(eS [99])],9,[(2,3),(1,2),(0,1)],3,0,false,2,none⟩
def btreeForms3 : Blk := ⟨[(eS [83]),(eS [65])],9,[(1,2),(0,1)],2,0,false,1,none⟩
def btreeForms4 : Blk := ⟨[(eI 100),(.sl 3 2 0 3 none 1),(eI 100),(.sl 4 0 0 1 none 1),(eI 101),(.lit (.slice none 0 0)),(eI 101),(.sl 5 0 0 1 none 1)],57,[(3,8),(2,6),(1,4),(0,2)],4,0,false,3,none⟩
def btreeForms5 : Blk := ⟨[(eI 101),(eI 1),(eI 100)],3,[(2,3),(1,2),(0,1)],3,0,false,2,none⟩
def btreeForms6 : Blk := ⟨[(eI 2)],3,[(0,1)],1,0,false,0,none⟩
def btreeForms7 : Blk := ⟨[(eI 3)],3,[(0,1)],1,0,false,0,none⟩
def hTreeForms12 : HE := ⟨21, [(eT ttreeForms1)], [], [((.val (.tup [(.agg [(.sl 0 2 0 3 none 1),(.sl 1 1 0 2 none 1),(.sl 2 3 0 4 none 2)]),(eI 0),(eI 0),(eI 0)])), [btreeForms2, btreeForms3, btreeForms4, btreeForms5, btreeForms6, btreeForms7])]⟩
theorem hTreeForms12_ok : HOk Try.prog hTreeForms12 := hok_eq mmTreeForms_ok hmTreeForms12_ok folTreeForms (lf := 100000) (k := 1000) (by kernel_rfl)
def hmTreeForms13 : List HE := hTreeForms12 :: hmTreeForms12
theorem hmTreeForms13_ok : ∀ x ∈ hmTreeForms13, HOk Try.prog x := hmemo_cons hTreeForms12_ok hmTreeForms12_ok
def hTreeForms13 : HE := ⟨72, [(eS [32,40,41]),(.lit (.int .i32 83))], [], [((.val (.lit (.int .i64 (Int.negSucc 0)))), [])]⟩
theorem hTreeForms13_ok : HOk Try.prog hTreeForms13 := hok_eq mmTreeForms_ok hmTreeForms13_ok folTreeForms (lf := 100000) (k := 1000) (by kernel_rfl)
def hmTreeForms14 : List HE := hTreeForms13 :: hmTreeForms13
theorem hmTreeForms14_ok : ∀ x ∈ hmTreeForms14, HOk Try.prog x := hmemo_cons hTreeForms13_ok hmTreeForms13_ok
def hTreeForms14 : HE := ⟨72, [(eS [32,40,41]),(.lit (.int .i32 41))], [], [((.val (eI 2)), [])]⟩
theorem hTreeForms14_ok : HOk Try.prog hTreeForms14 := hok_eq mmTreeForms_ok hmTreeForms14_ok folTreeForms (lf := 100000) (k := 1000) (by kernel_rfl)
def hmTreeForms15 : List HE := hTreeForms14 :: hmTreeForms14
theorem hmTreeForms15_ok : ∀ x ∈ hmTreeForms15, HOk Try.prog x := hmemo_cons hTreeForms14_ok hmTreeForms14_ok
def hTreeForms15 : HE := ⟨67, [(eS [83,41]),(eS [32,40,41])], [], [((.val (eI 1)), [])]⟩
theorem hTreeForms15_ok : HOk Try.prog hTreeForms15 := hok_eq mmTreeForms_ok hmTreeForms15_ok folTreeForms (lf := 100000) (k := 1000) (by kernel_rfl)
def hmTreeForms16 : List HE := hTreeForms15 :: hmTreeForms15
theorem hmTreeForms16_ok : ∀ x ∈ hmTreeForms16, HOk Try.prog x := hmemo_cons hTreeForms15_ok hmTreeForms15_ok
def hTreeForms16 : HE := ⟨14, [(.agg [(.sl 0 2 0 3 none 1),(.sl 1 1 0 2 none 1),(.sl 2 3 0 4 none 2)]),(eS [83])], [btreeForms2, btreeForms3, btreeForms4, btreeForms5, btreeForms6, btreeForms7], [((.val (.tup [(.agg [(eI 100),(.lit (.int .i64 (Int.negSucc 0))),(.lit (.slice none 0 0))]),(eI 0)])), [])]⟩
theorem hTreeForms16_ok : HOk Try.prog hTreeForms16 := hok_eq mmTreeForms_ok hmTreeForms16_ok folTreeForms (lf := 100000) (k := 1000) (by kernel_rfl)
def hmTreeForms17 : List HE := hTreeForms16 :: hmTreeForms16
theorem hmTreeForms17_ok : ∀ x ∈ hmTreeForms17, HOk Try.prog x := hmemo_cons hTreeForms16_ok hmTreeForms16_ok
def hTreeForms17 : HE := ⟨22, [(.agg [(.sl 0 2 0 3 none 1),(.sl 1 1 0 2 none 1),(.sl 2 3 0 4 none 2)]),(.agg [(eI 100),(.lit (.int .i64 (Int.negSucc 0))),(.lit (.slice none 0 0))]),(eI 100)], [btreeForms2, btreeForms3, btreeForms4, btreeForms5, btreeForms6, btreeForms7], [((.val eB1), [])]⟩
theorem hTreeForms17_ok : HOk Try.prog hTreeForms17 := hok_eq mmTreeForms_ok hmTreeForms17_ok folTreeForms (lf := 100000) (k := 1000) (by kernel_rfl)
def hmTreeForms18 : List HE := hTreeForms17 :: hmTreeForms17
theorem hmTreeForms18_ok : ∀ x ∈ hmTreeForms18, HOk Try.prog x := hmemo_cons hTreeForms17_ok hmTreeForms17_ok
def hTreeForms18 : HE := ⟨23, [(.agg [(.sl 0 2 0 3 none 1),(.sl 1 1 0 2 none 1),(.sl 2 3 0 4 none 2)]),(.agg [(eI 100),(.lit (.int .i64 (Int.negSucc 0))),(.lit (.slice none 0 0))])], [btreeForms2, btreeForms3, btreeForms4, btreeForms5, btreeForms6, btreeForms7], [((.val (eS [83])), [])]⟩
theorem hTreeForms18_ok : HOk Try.prog hTreeForms18 := hok_eq mmTreeForms_ok hmTreeForms18_ok folTreeForms (lf := 100000) (k := 1000) (by kernel_rfl)
def hmTreeForms19 : List HE := hTreeForms18 :: hmTreeForms18
theorem hmTreeForms19_ok : ∀ x ∈ hmTreeForms19, HOk Try.prog x := hmemo_cons hTreeForms18_ok hmTreeForms18_ok
def btreeForms8 : Blk := ⟨[(eI 100)],3,[(0,1)],1,0,false,0,none⟩
def hTreeForms19 : HE := ⟨25, [(.agg [(eI 100),(.lit (.int .i64 (Int.negSucc 0))),(.lit (.slice none 0 0))])], [], [((.val (.sl 0 0 0 1 (some 1) 1)), [btreeForms8])]⟩
theorem hTreeForms19_ok : HOk Try.prog hTreeForms19 := hok_eq mmTreeForms_ok hmTreeForms19_ok folTreeForms (lf := 100000) (k := 1000) (by kernel_rfl)
def hmTreeForms20 : List HE := hTreeForms19 :: hmTreeForms19
theorem hmTreeForms20_ok : ∀ x ∈ hmTreeForms20, HOk Try.prog x := hmemo_cons hTreeForms19_ok hmTreeForms19_ok
def hTreeForms20 : HE := ⟨24, [(.sl 0 0 0 1 (some 1) 1),(.sl 1 0 0 1 (some 1) 1)], [btreeForms8, btreeForms8], [((.val eB1), [])]⟩
theorem hTreeForms20_ok : HOk Try.prog hTreeForms20 := hok_eq mmTreeForms_ok hmTreeForms20_ok folTreeForms (lf := 100000) (k := 1000) (by kernel_rfl)
def hmTreeForms21 : List HE := hTreeForms20 :: hmTreeForms20
theorem hmTreeForms21_ok : ∀ x ∈ hmTreeForms21, HOk Try.prog x := hmemo_cons hTreeForms20_ok hmTreeForms20_ok
def hTreeForms21 : HE := ⟨26, [(.agg [(eI 100),(.lit (.int .i64 (Int.negSucc 0))),(.lit (.slice none 0 0))])], [], [((.val (eI 1)), [])]⟩
theorem hTreeForms21_ok : HOk Try.prog hTreeForms21 := hok_eq mmTreeForms_ok hmTreeForms21_ok folTreeForms (lf := 100000) (k := 1000) (by kernel_rfl)
def hmTreeForms22 : List HE := hTreeForms21 :: hmTreeForms21
theorem hmTreeForms22_ok : ∀ x ∈ hmTreeForms22, HOk Try.prog x := hmemo_cons hTreeForms21_ok hmTreeForms21_ok
def hTreeForms22 : HE := ⟨72, [(eS [32,40,41]),(.lit (.int .i32 98))], [], [((.val (.lit (.int .i64 (Int.negSucc 0)))), [])]⟩
theorem hTreeForms22_ok : HOk Try.prog hTreeForms22 := hok_eq mmTreeForms_ok hmTreeForms22_ok folTreeForms (lf := 100000) (k := 1000) (by kernel_rfl)
def hmTreeForms23 : List HE := hTreeForms22 :: hmTreeForms22
theorem hmTreeForms23_ok : ∀ x ∈ hmTreeForms23, HOk Try.prog x := hmemo_cons hTreeForms22_ok hmTreeForms22_ok
def hTreeForms23 : HE := ⟨67, [(eS [98,41]),(eS [32,40,41])], [], [((.val (eI 1)), [])]⟩
theorem hTreeForms23_ok : HOk Try.prog hTreeForms23 := hok_eq mmTreeForms_ok hmTreeForms23_ok folTreeForms (lf := 100000) (k := 1000) (by kernel_rfl)
def hmTreeForms24 : List HE := hTreeForms23 :: hmTreeForms23
theorem hmTreeForms24_ok : ∀ x ∈ hmTreeForms24, HOk Try.prog x := hmemo_cons hTreeForms23_ok hmTreeForms23_ok
def hTreeForms24 : HE := ⟨14, [(.agg [(.sl 0 2 0 3 none 1),(.sl 1 1 0 2 none 1),(.sl 2 3 0 4 none 2)]),(eS [98])], [btreeForms2, btreeForms3, btreeForms4, btreeForms5, btreeForms6, btreeForms7], [((.val (.tup [(.agg [(eI 2),(.lit (.int .i64 (Int.negSucc 0))),(.lit (.slice none 0 0))]),(eI 0)])), [])]⟩
theorem hTreeForms24_ok : HOk Try.prog hTreeForms24 := hok_eq mmTreeForms_ok hmTreeForms24_ok folTreeForms (lf := 100000) (k := 1000) (by kernel_rfl)
def hmTreeForms25 : List HE := hTreeForms24 :: hmTreeForms24
theorem hmTreeForms25_ok : ∀ x ∈ hmTreeForms25, HOk Try.prog x := hmemo_cons hTreeForms24_ok hmTreeForms24_ok
def hTreeForms25 : HE := ⟨22, [(.agg [(.sl 0 2 0 3 none 1),(.sl 1 1 0 2 none 1),(.sl 2 3 0 4 none 2)]),(.agg [(eI 2),(.lit (.int .i64 (Int.negSucc 0))),(.lit (.slice none 0 0))]),(eI 2)], [btreeForms2, btreeForms3, btreeForms4, btreeForms5, btreeForms6, btreeForms7], [((.val eB1), [])]⟩
theorem hTreeForms25_ok : HOk Try.prog hTreeForms25 := hok_eq mmTreeForms_ok hmTreeForms25_ok folTreeForms (lf := 100000) (k := 1000) (by kernel_rfl)
def hmTreeForms26 : List HE := hTreeForms25 :: hmTreeForms25
theorem hmTreeForms26_ok : ∀ x ∈ hmTreeForms26, HOk Try.prog x := hmemo_cons hTreeForms25_ok hmTreeForms25_ok
def hTreeForms26 : HE := ⟨23, [(.agg [(.sl 0 2 0 3 none 1),(.sl 1 1 0 2 none 1),(.sl 2 3 0 4 none 2)]),(.agg [(eI 2),(.lit (.int .i64 (Int.negSucc 0))),(.lit (.slice none 0 0))])], [btreeForms2, btreeForms3, btreeForms4, btreeForms5, btreeForms6, btreeForms7], [((.val (eS [98])), [])]⟩
theorem hTreeForms26_ok : HOk Try.prog hTreeForms26 := hok_eq mmTreeForms_ok hmTreeForms26_ok folTreeForms (lf := 100000) (k := 1000) (by kernel_rfl)
def hmTreeForms27 : List HE := hTreeForms26 :: hmTreeForms26
theorem hmTreeForms27_ok : ∀ x ∈ hmTreeForms27, HOk Try.prog x := hmemo_cons hTreeForms26_ok hmTreeForms26_ok
def hTreeForms27 : HE := ⟨25, [(.agg [(eI 2),(.lit (.int .i64 (Int.negSucc 0))),(.lit (.slice none 0 0))])], [], [((.val (.sl 0 0 0 1 (some 1) 1)), [btreeForms6])]⟩
theorem hTreeForms27_ok : HOk Try.prog hTreeForms27 := hok_eq mmTreeForms_ok hmTreeForms27_ok folTreeForms (lf := 100000) (k := 1000) (by kernel_rfl)
def hmTreeForms28 : List HE := hTreeForms27 :: hmTreeForms27
theorem hmTreeForms28_ok : ∀ x ∈ hmTreeForms28, HOk Try.prog x := hmemo_cons hTreeForms27_ok hmTreeForms27_ok
def hTreeForms28 : HE := ⟨24, [(.sl 0 0 0 1 (some 1) 1),(.sl 1 0 0 1 (some 1) 1)], [btreeForms6, btreeForms6], [((.val eB1), [])]⟩
theorem hTreeForms28_ok : HOk Try.prog hTreeForms28 := hok_eq mmTreeForms_ok hmTreeForms28_ok folTreeForms (lf := 100000) (k := 1000) (by kernel_rfl)
def hmTreeForms29 : List HE := hTreeForms28 :: hmTreeForms28
theorem hmTreeForms29_ok : ∀ x ∈ hmTreeForms29, HOk Try.prog x := hmemo_cons hTreeForms28_ok hmTreeForms28_ok
def hTreeForms29 : HE := ⟨26, [(.agg [(eI 2),(.lit (.int .i64 (Int.negSucc 0))),(.lit (.slice none 0 0))])], [], [((.val (eI 1)), [])]⟩
theorem hTreeForms29_ok : HOk Try.prog hTreeForms29 := hok_eq mmTreeForms_ok hmTreeForms29_ok folTreeForms (lf := 100000) (k := 1000) (by kernel_rfl)
def hmTreeForms30 : List HE := hTreeForms29 :: hmTreeForms29
theorem hmTreeForms30_ok : ∀ x ∈ hmTreeForms30, HOk Try.prog x := hmemo_cons hTreeForms29_ok hmTreeForms29_ok
def hTreeForms30 : HE := ⟨72, [(eS [32,40,41]),(.lit (.int .i32 32))], [], [((.val (eI 0)), [])]⟩
theorem hTreeForms30_ok : HOk Try.prog hTreeForms30 := hok_eq mmTreeForms_ok hmTreeForms30_ok folTreeForms (lf := 100000) (k := 1000) (by kernel_rfl)
def hmTreeForms31 : List HE := hTreeForms30 :: hmTreeForms30
theorem hmTreeForms31_ok : ∀ x ∈ hmTreeForms31, HOk Try.prog x := hmemo_cons hTreeForms30_ok hmTreeForms30_ok
def hTreeForms31 : HE := ⟨67, [(eS [83,32,98,41,41]),(eS [32,40,41])], [], [((.val (eI 1)), [])]⟩
theorem hTreeForms31_ok : HOk Try.prog hTreeForms31 := hok_eq mmTreeForms_ok hmTreeForms31_ok folTreeForms (lf := 100000) (k := 1000) (by kernel_rfl)
def hmTreeForms32 : List HE := hTreeForms31 :: hmTreeForms31
theorem hmTreeForms32_ok : ∀ x ∈ hmTreeForms32, HOk Try.prog x := hmemo_cons hTreeForms31_ok hmTreeForms31_ok
def hTreeForms32 : HE := ⟨67, [(eS [98,41,41]),(eS [32,40,41])], [], [((.val (eI 1)), [])]⟩
theorem hTreeForms32_ok : HOk Try.prog hTreeForms32 := hok_eq mmTreeForms_ok hmTreeForms32_ok folTreeForms (lf := 100000) (k := 1000) (by kernel_rfl)
def hmTreeForms33 : List HE := hTreeForms32 :: hmTreeForms32
theorem hmTreeForms33_ok : ∀ x ∈ hmTreeForms33, HOk Try.prog x := hmemo_cons hTreeForms32_ok hmTreeForms32_ok
def btreeForms9 : Blk := ⟨[(eI 2),(.lit (.int .i64 (Int.negSucc 0))),(.lit (.slice none 0 0))],33,[(0,3)],1,0,false,0,none⟩
def hTreeForms33 : HE := ⟨14, [(.agg [(.sl 0 2 0 3 none 1),(.sl 1 1 0 2 none 1),(.sl 2 3 0 4 none 2)]),(eS [40,83,32,98,41])], [btreeForms2, btreeForms3, btreeForms4, btreeForms5, btreeForms6, btreeForms7], [((.val (.tup [(.agg [(eI 100),(eI 1),(.sl 6 0 0 1 none 3)]),(eI 0)])), [btreeForms9])]⟩
theorem hTreeForms33_ok : HOk Try.prog hTreeForms33 := hok_eq mmTreeForms_ok hmTreeForms33_ok folTreeForms (lf := 100000) (k := 1000) (by kernel_rfl)
def hmTreeForms34 : List HE := hTreeForms33 :: hmTreeForms33
theorem hmTreeForms34_ok : ∀ x ∈ hmTreeForms34, HOk Try.prog x := hmemo_cons hTreeForms33_ok hmTreeForms33_ok
def hTreeForms34 : HE := ⟨22, [(.agg [(.sl 0 2 0 3 none 1),(.sl 1 1 0 2 none 1),(.sl 2 3 0 4 none 2)]),(.agg [(eI 100),(eI 1),(.sl 6 0 0 1 none 3)]),(eI 100)], [btreeForms2, btreeForms3, btreeForms4, btreeForms5, btreeForms6, btreeForms7, btreeForms9], [((.val eB1), [])]⟩
theorem hTreeForms34_ok : HOk Try.prog hTreeForms34 := hok_eq mmTreeForms_ok hmTreeForms34_ok folTreeForms (lf := 100000) (k := 1000) (by kernel_rfl)
def hmTreeForms35 : List HE := hTreeForms34 :: hmTreeForms34
theorem hmTreeForms35_ok : ∀ x ∈ hmTreeForms35, HOk Try.prog x := hmemo_cons hTreeForms34_ok hmTreeForms34_ok
def hTreeForms35 : HE := ⟨23, [(.agg [(.sl 0 2 0 3 none 1),(.sl 1 1 0 2 none 1),(.sl 2 3 0 4 none 2)]),(.agg [(eI 100),(eI 1),(.sl 6 0 0 1 none 3)])], [btreeForms2, btreeForms3, btreeForms4, btreeForms5, btreeForms6, btreeForms7, btreeForms9], [((.val (eS [40,83,32,98,41])), [])]⟩
theorem hTreeForms35_ok : HOk Try.prog hTreeForms35 := hok_eq mmTreeForms_ok hmTreeForms35_ok folTreeForms (lf := 100000) (k := 1000) (by kernel_rfl)
def hmTreeForms36 : List HE := hTreeForms35 :: hmTreeForms35
theorem hmTreeForms36_ok : ∀ x ∈ hmTreeForms36, HOk Try.prog x := hmemo_cons hTreeForms35_ok hmTreeForms35_ok
def hTreeForms36 : HE := ⟨25, [(.agg [(eI 100),(eI 1),(.sl 0 0 0 1 none 3)])], [btreeForms9], [((.val (.sl 1 0 0 1 none 1)), [btreeForms6])]⟩
theorem hTreeForms36_ok : HOk Try.prog hTreeForms36 := hok_eq mmTreeForms_ok hmTreeForms36_ok folTreeForms (lf := 100000) (k := 1000) (by kernel_rfl)
def hmTreeForms37 : List HE := hTreeForms36 :: hmTreeForms36
theorem hmTreeForms37_ok : ∀ x ∈ hmTreeForms37, HOk Try.prog x := hmemo_cons hTreeForms36_ok hmTreeForms36_ok
def hTreeForms37 : HE := ⟨24, [(.sl 0 0 0 1 none 1),(.sl 1 0 0 1 (some 1) 1)], [btreeForms6, btreeForms6], [((.val eB1), [])]⟩
theorem hTreeForms37_ok : HOk Try.prog hTreeForms37 := hok_eq mmTreeForms_ok hmTreeForms37_ok folTreeForms (lf := 100000) (k := 1000) (by kernel_rfl)
def hmTreeForms38 : List HE := hTreeForms37 :: hmTreeForms37
theorem hmTreeForms38_ok : ∀ x ∈ hmTreeForms38, HOk Try.prog x := hmemo_cons hTreeForms37_ok hmTreeForms37_ok
def hTreeForms38 : HE := ⟨26, [(.agg [(eI 100),(eI 1),(.sl 0 0 0 1 none 3)])], [btreeForms9], [((.val (eI 2)), [])]⟩
theorem hTreeForms38_ok : HOk Try.prog hTreeForms38 := hok_eq mmTreeForms_ok hmTreeForms38_ok folTreeForms (lf := 100000) (k := 1000) (by kernel_rfl)
def hmTreeForms39 : List HE := hTreeForms38 :: hmTreeForms38
theorem hmTreeForms39_ok : ∀ x ∈ hmTreeForms39, HOk Try.prog x := hmemo_cons hTreeForms38_ok hmTreeForms38_ok
def hTreeForms39 : HE := ⟨74, [(eS [32,40,41])], [], [((.val (.tup [(.agg [eB0,eB0,eB0,eB0,eB0,eB0,eB0,eB0,eB0,eB0,eB0,eB0,eB0,eB0,eB0,eB0,eB0,eB0,eB0,eB0,eB0,eB0,eB0,eB0,eB0,eB0,eB0,eB0,eB0,eB0,eB0,eB0,eB1,eB0,eB0,eB0,eB0,eB0,eB0,eB0,eB1,eB1,eB0,eB0,eB0,eB0,eB0,eB0,eB0,eB0,eB0,eB0,eB0,eB0,eB0,eB0,eB0,eB0,eB0,eB0,eB0,eB0,eB0,eB0,eB0,eB0,eB0,eB0,eB0,eB0,eB0,eB0,eB0,eB0,eB0,eB0,eB0,eB0,eB0,eB0,eB0,eB0,eB0,eB0,eB0,eB0,eB0,eB0,eB0,eB0,eB0,eB0,eB0,eB0,eB0,eB0,eB0,eB0,eB0,eB0,eB0,eB0,eB0,eB0,eB0,eB0,eB0,eB0,eB0,eB0,eB0,eB0,eB0,eB0,eB0,eB0,eB0,eB0,eB0,eB0,eB0,eB0,eB0,eB0,eB0,eB0,eB0,eB0,eB0,eB0,eB0,eB0,eB0,eB0,eB0,eB0,eB0,eB0,eB0,eB0,eB0,eB0,eB0,eB0,eB0,eB0,eB0,eB0,eB0,eB0,eB0,eB0,eB0,eB0,eB0,eB0,eB0,eB0,eB0,eB0,eB0,eB0,eB0,eB0,eB0,eB0,eB0,eB0,eB0,eB0,eB0,eB0,eB0,eB0,eB0,eB0,eB0,eB0,eB0,eB0,eB0,eB0,eB0,eB0,eB0,eB0,eB0,eB0,eB0,eB0,eB0,eB0,eB0,eB0,eB0,eB0,eB0,eB0,eB0,eB0,eB0,eB0,eB0,eB0,eB0,eB0,eB0,eB0,eB0,eB0,eB0,eB0,eB0,eB0,eB0,eB0,eB0,eB0,eB0,eB0,eB0,eB0,eB0,eB0,eB0,eB0,eB0,eB0,eB0,eB0,eB0,eB0,eB0,eB0,eB0,eB0,eB0,eB0,eB0,eB0,eB0,eB0,eB0,eB0,eB0,eB0,eB0,eB0,eB0,eB0,eB0,eB0,eB0,eB0,eB0,eB0]),eB1])), [])]⟩
theorem hTreeForms39_ok : HOk Try.prog hTreeForms39 := hok_eq mmTreeForms_ok hmTreeForms39_ok folTreeForms (lf := 100000) (k := 1000) (by kernel_rfl)
def hmTreeForms40 : List HE := hTreeForms39 :: hmTreeForms39
theorem hmTreeForms40_ok : ∀ x ∈ hmTreeForms40, HOk Try.prog x := hmemo_cons hTreeForms39_ok hmTreeForms39_ok
def hTreeForms40 : HE := ⟨67, [(eS [83,32,65,32,97,32,83,41,41]),(eS [32,40,41])], [], [((.val (eI 1)), [])]⟩
theorem hTreeForms40_ok : HOk Try.prog hTreeForms40 := hok_eq mmTreeForms_ok hmTreeForms40_ok folTreeForms (lf := 100000) (k := 1000) (by kernel_rfl)
def hmTreeForms41 : List HE := hTreeForms40 :: hmTreeForms40
theorem hmTreeForms41_ok : ∀ x ∈ hmTreeForms41, HOk Try.prog x := hmemo_cons hTreeForms40_ok hmTreeForms40_ok
def hTreeForms41 : HE := ⟨72, [(eS [32,40,41]),(.lit (.int .i32 65))], [], [((.val (.lit (.int .i64 (Int.negSucc 0)))), [])]⟩
theorem hTreeForms41_ok : HOk Try.prog hTreeForms41 := hok_eq mmTreeForms_ok hmTreeForms41_ok folTreeForms (lf := 100000) (k := 1000) (by kernel_rfl)
def hmTreeForms42 : List HE := hTreeForms41 :: hmTreeForms41
theorem hmTreeForms42_ok : ∀ x ∈ hmTreeForms42, HOk Try.prog x := hmemo_cons hTreeForms41_ok hmTreeForms41_ok
def hTreeForms42 : HE := ⟨67, [(eS [65,32,97,32,83,41,41]),(eS [32,40,41])], [], [((.val (eI 1)), [])]⟩
theorem hTreeForms42_ok : HOk Try.prog hTreeForms42 := hok_eq mmTreeForms_ok hmTreeForms42_ok folTreeForms (lf := 100000) (k := 1000) (by kernel_rfl)
def hmTreeForms43 : List HE := hTreeForms42 :: hmTreeForms42
theorem hmTreeForms43_ok : ∀ x ∈ hmTreeForms43, HOk Try.prog x := hmemo_cons hTreeForms42_ok hmTreeForms42_ok
def hTreeForms43 : HE := ⟨72, [(eS [32,40,41]),(.lit (.int .i32 97))], [], [((.val (.lit (.int .i64 (Int.negSucc 0)))), [])]⟩
theorem hTreeForms43_ok : HOk Try.prog hTreeForms43 := hok_eq mmTreeForms_ok hmTreeForms43_ok folTreeForms (lf := 100000) (k := 1000) (by kernel_rfl)
def hmTreeForms44 : List HE := hTreeForms43 :: hmTreeForms43
theorem hmTreeForms44_ok : ∀ x ∈ hmTreeForms44, HOk Try.prog x := hmemo_cons hTreeForms43_ok hmTreeForms43_ok
def hTreeForms44 : HE := ⟨67, [(eS [97,32,83,41,41]),(eS [32,40,41])], [], [((.val (eI 1)), [])]⟩
theorem hTreeForms44_ok : HOk Try.prog hTreeForms44 := hok_eq mmTreeForms_ok hmTreeForms44_ok folTreeForms (lf := 100000) (k := 1000) (by kernel_rfl)
def hmTreeForms45 : List HE := hTreeForms44 :: hmTreeForms44
theorem hmTreeForms45_ok : ∀ x ∈ hmTreeForms45, HOk Try.prog x := hmemo_cons hTreeForms44_ok hmTreeForms44_ok
def hTreeForms45 : HE := ⟨67, [(eS [83,41,41]),(eS [32,40,41])], [], [((.val (eI 1)), [])]⟩
theorem hTreeForms45_ok : HOk Try.prog hTreeForms45 := hok_eq mmTreeForms_ok hmTreeForms45_ok folTreeForms (lf := 100000) (k := 1000) (by kernel_rfl)
def hmTreeForms46 : List HE := hTreeForms45 :: hmTreeForms45
theorem hmTreeForms46_ok : ∀ x ∈ hmTreeForms46, HOk Try.prog x := hmemo_cons hTreeForms45_ok hmTreeForms45_ok
def btreeForms10 : Blk := ⟨[(eI 101),(.lit (.int .i64 (Int.negSucc 0))),(.lit (.slice none 0 0)),(eI 1),(.lit (.int .i64 (Int.negSucc 0))),(.lit (.slice none 0 0)),(eI 100),(.lit (.int .i64 (Int.negSucc 0))),(.lit (.slice none 0 0))],33,[(2,9),(1,6),(0,3)],3,0,false,2,none⟩
def hTreeForms46 : HE := ⟨14, [(.agg [(.sl 0 2 0 3 none 1),(.sl 1 1 0 2 none 1),(.sl 2 3 0 4 none 2)]),(eS [40,83,32,65,32,97,32,83,41])], [btreeForms2, btreeForms3, btreeForms4, btreeForms5, btreeForms6, btreeForms7], [((.val (.tup [(.agg [(eI 100),(eI 0),(.sl 6 2 0 3 none 3)]),(eI 0)])), [btreeForms10])]⟩
theorem hTreeForms46_ok : HOk Try.prog hTreeForms46 := hok_eq mmTreeForms_ok hmTreeForms46_ok folTreeForms (lf := 100000) (k := 1000) (by kernel_rfl)
def hmTreeForms47 : List HE := hTreeForms46 :: hmTreeForms46
theorem hmTreeForms47_ok : ∀ x ∈ hmTreeForms47, HOk Try.prog x := hmemo_cons hTreeForms46_ok hmTreeForms46_ok
def hTreeForms47 : HE := ⟨22, [(.agg [(.sl 0 2 0 3 none 1),(.sl 1 1 0 2 none 1),(.sl 2 3 0 4 none 2)]),(.agg [(eI 101),(.lit (.int .i64 (Int.negSucc 0))),(.lit (.slice none 0 0))]),(eI 101)], [btreeForms2, btreeForms3, btreeForms4, btreeForms5, btreeForms6, btreeForms7], [((.val eB1), [])]⟩
theorem hTreeForms47_ok : HOk Try.prog hTreeForms47 := hok_eq mmTreeForms_ok hmTreeForms47_ok folTreeForms (lf := 100000) (k := 1000) (by kernel_rfl)
def hmTreeForms48 : List HE := hTreeForms47 :: hmTreeForms47
theorem hmTreeForms48_ok : ∀ x ∈ hmTreeForms48, HOk Try.prog x := hmemo_cons hTreeForms47_ok hmTreeForms47_ok
def hTreeForms48 : HE := ⟨22, [(.agg [(.sl 0 2 0 3 none 1),(.sl 1 1 0 2 none 1),(.sl 2 3 0 4 none 2)]),(.agg [(eI 1),(.lit (.int .i64 (Int.negSucc 0))),(.lit (.slice none 0 0))]),(eI 1)], [btreeForms2, btreeForms3, btreeForms4, btreeForms5, btreeForms6, btreeForms7], [((.val eB1), [])]⟩
theorem hTreeForms48_ok : HOk Try.prog hTreeForms48 := hok_eq mmTreeForms_ok hmTreeForms48_ok folTreeForms (lf := 100000) (k := 1000) (by kernel_rfl)
def hmTreeForms49 : List HE := hTreeForms48 :: hmTreeForms48
theorem hmTreeForms49_ok : ∀ x ∈ hmTreeForms49, HOk Try.prog x := hmemo_cons hTreeForms48_ok hmTreeForms48_ok
def hTreeForms49 : HE := ⟨22, [(.agg [(.sl 0 2 0 3 none 1),(.sl 1 1 0 2 none 1),(.sl 2 3 0 4 none 2)]),(.agg [(eI 100),(eI 0),(.sl 6 2 0 3 none 3)]),(eI 100)], [btreeForms2, btreeForms3, btreeForms4, btreeForms5, btreeForms6, btreeForms7, btreeForms10], [((.val eB1), [])]⟩
theorem hTreeForms49_ok : HOk Try.prog hTreeForms49 := hok_eq mmTreeForms_ok hmTreeForms49_ok folTreeForms (lf := 100000) (k := 1000) (by kernel_rfl)
def hmTreeForms50 : List HE := hTreeForms49 :: hmTreeForms49
theorem hmTreeForms50_ok : ∀ x ∈ hmTreeForms50, HOk Try.prog x := hmemo_cons hTreeForms49_ok hmTreeForms49_ok
def hTreeForms50 : HE := ⟨23, [(.agg [(.sl 0 2 0 3 none 1),(.sl 1 1 0 2 none 1),(.sl 2 3 0 4 none 2)]),(.agg [(eI 100),(eI 0),(.sl 6 2 0 3 none 3)])], [btreeForms2, btreeForms3, btreeForms4, btreeForms5, btreeForms6, btreeForms7, btreeForms10], [((.val (eS [40,83,32,65,32,97,32,83,41])), [])]⟩
theorem hTreeForms50_ok : HOk Try.prog hTreeForms50 := hok_eq mmTreeForms_ok hmTreeForms50_ok folTreeForms (lf := 100000) (k := 1000) (by kernel_rfl)
def hmTreeForms51 : List HE := hTreeForms50 :: hmTreeForms50
theorem hmTreeForms51_ok : ∀ x ∈ hmTreeForms51, HOk Try.prog x := hmemo_cons hTreeForms50_ok hmTreeForms50_ok
def btreeForms11 : Blk := ⟨[(eI 101)],3,[(0,1)],1,0,false,0,none⟩
def hTreeForms51 : HE := ⟨25, [(.agg [(eI 101),(.lit (.int .i64 (Int.negSucc 0))),(.lit (.slice none 0 0))])], [], [((.val (.sl 0 0 0 1 (some 1) 1)), [btreeForms11])]⟩
theorem hTreeForms51_ok : HOk Try.prog hTreeForms51 := hok_eq mmTreeForms_ok hmTreeForms51_ok folTreeForms (lf := 100000) (k := 1000) (by kernel_rfl)
def hmTreeForms52 : List HE := hTreeForms51 :: hmTreeForms51
theorem hmTreeForms52_ok : ∀ x ∈ hmTreeForms52, HOk Try.prog x := hmemo_cons hTreeForms51_ok hmTreeForms51_ok
def btreeForms12 : Blk := ⟨[(eI 1)],3,[(0,1)],1,0,false,0,none⟩
def hTreeForms52 : HE := ⟨25, [(.agg [(eI 1),(.lit (.int .i64 (Int.negSucc 0))),(.lit (.slice none 0 0))])], [], [((.val (.sl 0 0 0 1 (some 1) 1)), [btreeForms12])]⟩
theorem hTreeForms52_ok : HOk Try.prog hTreeForms52 := hok_eq mmTreeForms_ok hmTreeForms52_ok folTreeForms (lf := 100000) (k := 1000) (by kernel_rfl)
def hmTreeForms53 : List HE := hTreeForms52 :: hmTreeForms52
theorem hmTreeForms53_ok : ∀ x ∈ hmTreeForms53, HOk Try.prog x := hmemo_cons hTreeForms52_ok hmTreeForms52_ok
def hTreeForms53 : HE := ⟨25, [(.agg [(eI 100),(eI 0),(.sl 0 2 0 3 none 3)])], [btreeForms10], [((.val (.sl 1 2 0 3 none 1)), [btreeForms5])]⟩
theorem hTreeForms53_ok : HOk Try.prog hTreeForms53 := hok_eq mmTreeForms_ok hmTreeForms53_ok folTreeForms (lf := 100000) (k := 1000) (by kernel_rfl)
def hmTreeForms54 : List HE := hTreeForms53 :: hmTreeForms53
theorem hmTreeForms54_ok : ∀ x ∈ hmTreeForms54, HOk Try.prog x := hmemo_cons hTreeForms53_ok hmTreeForms53_ok
def btreeForms13 : Blk := ⟨[(eI 101),(eI 1),(eI 100)],3,[(0,3)],1,0,false,0,none⟩
def hTreeForms54 : HE := ⟨24, [(.sl 0 2 0 3 none 1),(.sl 1 0 0 3 (some 3) 1)], [btreeForms5, btreeForms13], [((.val eB1), [])]⟩
theorem hTreeForms54_ok : HOk Try.prog hTreeForms54 := hok_eq mmTreeForms_ok hmTreeForms54_ok folTreeForms (lf := 100000) (k := 1000) (by kernel_rfl)
def hmTreeForms55 : List HE := hTreeForms54 :: hmTreeForms54
theorem hmTreeForms55_ok : ∀ x ∈ hmTreeForms55, HOk Try.prog x := hmemo_cons hTreeForms54_ok hmTreeForms54_ok
def hTreeForms55 : HE := ⟨26, [(.agg [(eI 101),(.lit (.int .i64 (Int.negSucc 0))),(.lit (.slice none 0 0))])], [], [((.val (eI 1)), [])]⟩
theorem hTreeForms55_ok : HOk Try.prog hTreeForms55 := hok_eq mmTreeForms_ok hmTreeForms55_ok folTreeForms (lf := 100000) (k := 1000) (by kernel_rfl)
def hmTreeForms56 : List HE := hTreeForms55 :: hmTreeForms55
theorem hmTreeForms56_ok : ∀ x ∈ hmTreeForms56, HOk Try.prog x := hmemo_cons hTreeForms55_ok hmTreeForms55_ok
def hTreeForms56 : HE := ⟨26, [(.agg [(eI 1),(.lit (.int .i64 (Int.negSucc 0))),(.lit (.slice none 0 0))])], [], [((.val (eI 1)), [])]⟩
theorem hTreeForms56_ok : HOk Try.prog hTreeForms56 := hok_eq mmTreeForms_ok hmTreeForms56_ok folTreeForms (lf := 100000) (k := 1000) (by kernel_rfl)
def hmTreeForms57 : List HE := hTreeForms56 :: hmTreeForms56
theorem hmTreeForms57_ok : ∀ x ∈ hmTreeForms57, HOk Try.prog x := hmemo_cons hTreeForms56_ok hmTreeForms56_ok
def hTreeForms57 : HE := ⟨26, [(.agg [(eI 100),(eI 0),(.sl 0 2 0 3 none 3)])], [btreeForms10], [((.val (eI 4)), [])]⟩
theorem hTreeForms57_ok : HOk Try.prog hTreeForms57 := hok_eq mmTreeForms_ok hmTreeForms57_ok folTreeForms (lf := 100000) (k := 1000) (by kernel_rfl)
def hmTreeForms58 : List HE := hTreeForms57 :: hmTreeForms57
theorem hmTreeForms58_ok : ∀ x ∈ hmTreeForms58, HOk Try.prog x := hmemo_cons hTreeForms57_ok hmTreeForms57_ok
def hTreeForms58 : HE := ⟨67, [(eS [83,32,40,65,41,32,97,32,40,83,32,98,41,41,41]),(eS [32,40,41])], [], [((.val (eI 1)), [])]⟩
theorem hTreeForms58_ok : HOk Try.prog hTreeForms58 := hok_eq mmTreeForms_ok hmTreeForms58_ok folTreeForms (lf := 100000) (k := 1000) (by kernel_rfl)
def hmTreeForms59 : List HE := hTreeForms58 :: hmTreeForms58
theorem hmTreeForms59_ok : ∀ x ∈ hmTreeForms59, HOk Try.prog x := hmemo_cons hTreeForms58_ok hmTreeForms58_ok
def hTreeForms59 : HE := ⟨67, [(eS [65,41,32,97,32,40,83,32,98,41,41,41]),(eS [32,40,41])], [], [((.val (eI 1)), [])]⟩
theorem hTreeForms59_ok : HOk Try.prog hTreeForms59 := hok_eq mmTreeForms_ok hmTreeForms59_ok folTreeForms (lf := 100000) (k := 1000) (by kernel_rfl)
def hmTreeForms60 : List HE := hTreeForms59 :: hmTreeForms59
theorem hmTreeForms60_ok : ∀ x ∈ hmTreeForms60, HOk Try.prog x := hmemo_cons hTreeForms59_ok hmTreeForms59_ok
def hTreeForms60 : HE := ⟨67, [(eS [97,32,40,83,32,98,41,41,41]),(eS [32,40,41])], [], [((.val (eI 1)), [])]⟩
theorem hTreeForms60_ok : HOk Try.prog hTreeForms60 := hok_eq mmTreeForms_ok hmTreeForms60_ok folTreeForms (lf := 100000) (k := 1000) (by kernel_rfl)
def hmTreeForms61 : List HE := hTreeForms60 :: hmTreeForms60
theorem hmTreeForms61_ok : ∀ x ∈ hmTreeForms61, HOk Try.prog x := hmemo_cons hTreeForms60_ok hmTreeForms60_ok
def hTreeForms61 : HE := ⟨67, [(eS [83,32,98,41,41,41]),(eS [32,40,41])], [], [((.val (eI 1)), [])]⟩
theorem hTreeForms61_ok : HOk Try.prog hTreeForms61 := hok_eq mmTreeForms_ok hmTreeForms61_ok folTreeForms (lf := 100000) (k := 1000) (by kernel_rfl)
def hmTreeForms62 : List HE := hTreeForms61 :: hmTreeForms61
theorem hmTreeForms62_ok : ∀ x ∈ hmTreeForms62, HOk Try.prog x := hmemo_cons hTreeForms61_ok hmTreeForms61_ok
def hTreeForms62 : HE := ⟨67, [(eS [98,41,41,41]),(eS [32,40,41])], [], [((.val (eI 1)), [])]⟩
theorem hTreeForms62_ok : HOk Try.prog hTreeForms62 := hok_eq mmTreeForms_ok hmTreeForms62_ok folTreeForms (lf := 100000) (k := 1000) (by kernel_rfl)
def hmTreeForms63 : List HE := hTreeForms62 :: hmTreeForms62
theorem hmTreeForms63_ok : ∀ x ∈ hmTreeForms63, HOk Try.prog x := hmemo_cons hTreeForms62_ok hmTreeForms62_ok
def btreeForms14 : Blk := ⟨[(eI 101),(eI 2),(.lit (.slice none 0 0)),(eI 1),(.lit (.int .i64 (Int.negSucc 0))),(.lit (.slice none 0 0)),(eI 100),(eI 1),(.sl 7 0 0 1 none 3)],33,[(2,9),(1,6),(0,3)],3,0,false,2,none⟩
def hTreeForms63 : HE := ⟨14, [(.agg [(.sl 0 2 0 3 none 1),(.sl 1 1 0 2 none 1),(.sl 2 3 0 4 none 2)]),(eS [40,83,32,40,65,41,32,97,32,40,83,32,98,41,41])], [btreeForms2, btreeForms3, btreeForms4, btreeForms5, btreeForms6, btreeForms7], [((.val (.tup [(.agg [(eI 100),(eI 0),(.sl 6 2 0 3 none 3)]),(eI 0)])), [btreeForms14, btreeForms9])]⟩
theorem hTreeForms63_ok : HOk Try.prog hTreeForms63 := hok_eq mmTreeForms_ok hmTreeForms63_ok folTreeForms (lf := 100000) (k := 1000) (by kernel_rfl)
def hmTreeForms64 : List HE := hTreeForms63 :: hmTreeForms63
theorem hmTreeForms64_ok : ∀ x ∈ hmTreeForms64, HOk Try.prog x := hmemo_cons hTreeForms63_ok hmTreeForms63_ok
def hTreeForms64 : HE := ⟨22, [(.agg [(.sl 0 2 0 3 none 1),(.sl 1 1 0 2 none 1),(.sl 2 3 0 4 none 2)]),(.agg [(eI 101),(eI 2),(.lit (.slice none 0 0))]),(eI 101)], [btreeForms2, btreeForms3, btreeForms4, btreeForms5, btreeForms6, btreeForms7], [((.val eB1), [])]⟩
theorem hTreeForms64_ok : HOk Try.prog hTreeForms64 := hok_eq mmTreeForms_ok hmTreeForms64_ok folTreeForms (lf := 100000) (k := 1000) (by kernel_rfl)
def hmTreeForms65 : List HE := hTreeForms64 :: hmTreeForms64
theorem hmTreeForms65_ok : ∀ x ∈ hmTreeForms65, HOk Try.prog x := hmemo_cons hTreeForms64_ok hmTreeForms64_ok
def hTreeForms65 : HE := ⟨22, [(.agg [(.sl 0 2 0 3 none 1),(.sl 1 1 0 2 none 1),(.sl 2 3 0 4 none 2)]),(.agg [(eI 100),(eI 0),(.sl 6 2 0 3 none 3)]),(eI 100)], [btreeForms2, btreeForms3, btreeForms4, btreeForms5, btreeForms6, btreeForms7, btreeForms14, btreeForms9], [((.val eB1), [])]⟩
theorem hTreeForms65_ok : HOk Try.prog hTreeForms65 := hok_eq mmTreeForms_ok hmTreeForms65_ok folTreeForms (lf := 100000) (k := 1000) (by kernel_rfl)
def hmTreeForms66 : List HE := hTreeForms65 :: hmTreeForms65
theorem hmTreeForms66_ok : ∀ x ∈ hmTreeForms66, HOk Try.prog x := hmemo_cons hTreeForms65_ok hmTreeForms65_ok
def hTreeForms66 : HE := ⟨23, [(.agg [(.sl 0 2 0 3 none 1),(.sl 1 1 0 2 none 1),(.sl 2 3 0 4 none 2)]),(.agg [(eI 100),(eI 0),(.sl 6 2 0 3 none 3)])], [btreeForms2, btreeForms3, btreeForms4, btreeForms5, btreeForms6, btreeForms7, btreeForms14, btreeForms9], [((.val (eS [40,83,32,40,65,41,32,97,32,40,83,32,98,41,41])), [])]⟩
theorem hTreeForms66_ok : HOk Try.prog hTreeForms66 := hok_eq mmTreeForms_ok hmTreeForms66_ok folTreeForms (lf := 100000) (k := 1000) (by kernel_rfl)
def hmTreeForms67 : List HE := hTreeForms66 :: hmTreeForms66
theorem hmTreeForms67_ok : ∀ x ∈ hmTreeForms67, HOk Try.prog x := hmemo_cons hTreeForms66_ok hmTreeForms66_ok
def hTreeForms67 : HE := ⟨25, [(.agg [(eI 101),(eI 2),(.lit (.slice none 0 0))])], [], [((.val (.lit (.slice none 0 0))), [])]⟩
theorem hTreeForms67_ok : HOk Try.prog hTreeForms67 := hok_eq mmTreeForms_ok hmTreeForms67_ok folTreeForms (lf := 100000) (k := 1000) (by kernel_rfl)
def hmTreeForms68 : List HE := hTreeForms67 :: hmTreeForms67
theorem hmTreeForms68_ok : ∀ x ∈ hmTreeForms68, HOk Try.prog x := hmemo_cons hTreeForms67_ok hmTreeForms67_ok
def btreeForms15 : Blk := ⟨[(eI 101),(eI 2),(.lit (.slice none 0 0)),(eI 1),(.lit (.int .i64 (Int.negSucc 0))),(.lit (.slice none 0 0)),(eI 100),(eI 1),(.sl 1 0 0 1 none 3)],33,[(2,9),(1,6),(0,3)],3,0,false,2,none⟩
def btreeForms16 : Blk := ⟨[(eI 1),(eI 2)],3,[(1,2),(0,1)],2,0,false,1,none⟩
def hTreeForms68 : HE := ⟨25, [(.agg [(eI 100),(eI 0),(.sl 0 2 0 3 none 3)])], [btreeForms15, btreeForms9], [((.val (.sl 2 1 0 2 none 1)), [btreeForms16])]⟩
theorem hTreeForms68_ok : HOk Try.prog hTreeForms68 := hok_eq mmTreeForms_ok hmTreeForms68_ok folTreeForms (lf := 100000) (k := 1000) (by kernel_rfl)
def hmTreeForms69 : List HE := hTreeForms68 :: hmTreeForms68
theorem hmTreeForms69_ok : ∀ x ∈ hmTreeForms69, HOk Try.prog x := hmemo_cons hTreeForms68_ok hmTreeForms68_ok
def btreeForms17 : Blk := ⟨[(eI 1),(eI 2)],3,[(0,2)],1,0,false,0,none⟩
def hTreeForms69 : HE := ⟨24, [(.sl 0 1 0 2 none 1),(.sl 1 0 0 2 (some 2) 1)], [btreeForms16, btreeForms17], [((.val eB1), [])]⟩
theorem hTreeForms69_ok : HOk Try.prog hTreeForms69 := hok_eq mmTreeForms_ok hmTreeForms69_ok folTreeForms (lf := 100000) (k := 1000) (by kernel_rfl)
def hmTreeForms70 : List HE := hTreeForms69 :: hmTreeForms69
theorem hmTreeForms70_ok : ∀ x ∈ hmTreeForms70, HOk Try.prog x := hmemo_cons hTreeForms69_ok hmTreeForms69_ok
def hTreeForms70 : HE := ⟨26, [(.agg [(eI 101),(eI 2),(.lit (.slice none 0 0))])], [], [((.val (eI 1)), [])]⟩
theorem hTreeForms70_ok : HOk Try.prog hTreeForms70 := hok_eq mmTreeForms_ok hmTreeForms70_ok folTreeForms (lf := 100000) (k := 1000) (by kernel_rfl)
def hmTreeForms71 : List HE := hTreeForms70 :: hmTreeForms70
theorem hmTreeForms71_ok : ∀ x ∈ hmTreeForms71, HOk Try.prog x := hmemo_cons hTreeForms70_ok hmTreeForms70_ok
def hTreeForms71 : HE := ⟨26, [(.agg [(eI 100),(eI 0),(.sl 0 2 0 3 none 3)])], [btreeForms15, btreeForms9], [((.val (eI 5)), [])]⟩
theorem hTreeForms71_ok : HOk Try.prog hTreeForms71 := hok_eq mmTreeForms_ok hmTreeForms71_ok folTreeForms (lf := 100000) (k := 1000) (by kernel_rfl)
def hmTreeForms72 : List HE := hTreeForms71 :: hmTreeForms71
theorem hmTreeForms72_ok : ∀ x ∈ hmTreeForms72, HOk Try.prog x := hmemo_cons hTreeForms71_ok hmTreeForms71_ok
def hTreeForms72 : HE := ⟨67, [(eS [83,32,40,65,32,99,41,32,97,32,83,41,41]),(eS [32,40,41])], [], [((.val (eI 1)), [])]⟩
theorem hTreeForms72_ok : HOk Try.prog hTreeForms72 := hok_eq mmTreeForms_ok hmTreeForms72_ok folTreeForms (lf := 100000) (k := 1000) (by kernel_rfl)
def hmTreeForms73 : List HE := hTreeForms72 :: hmTreeForms72
theorem hmTreeForms73_ok : ∀ x ∈ hmTreeForms73, HOk Try.prog x := hmemo_cons hTreeForms72_ok hmTreeForms72_ok
def hTreeForms73 : HE := ⟨67, [(eS [65,32,99,41,32,97,32,83,41,41]),(eS [32,40,41])], [], [((.val (eI 1)), [])]⟩
theorem hTreeForms73_ok : HOk Try.prog hTreeForms73 := hok_eq mmTreeForms_ok hmTreeForms73_ok folTreeForms (lf := 100000) (k := 1000) (by kernel_rfl)
def hmTreeForms74 : List HE := hTreeForms73 :: hmTreeForms73
theorem hmTreeForms74_ok : ∀ x ∈ hmTreeForms74, HOk Try.prog x := hmemo_cons hTreeForms73_ok hmTreeForms73_ok
def hTreeForms74 : HE := ⟨72, [(eS [32,40,41]),(.lit (.int .i32 99))], [], [((.val (.lit (.int .i64 (Int.negSucc 0)))), [])]⟩
theorem hTreeForms74_ok : HOk Try.prog hTreeForms74 := hok_eq mmTreeForms_ok hmTreeForms74_ok folTreeForms (lf := 100000) (k := 1000) (by kernel_rfl)
def hmTreeForms75 : List HE := hTreeForms74 :: hmTreeForms74
theorem hmTreeForms75_ok : ∀ x ∈ hmTreeForms75, HOk Try.prog x := hmemo_cons hTreeForms74_ok hmTreeForms74_ok
def hTreeForms75 : HE := ⟨67, [(eS [99,41,32,97,32,83,41,41]),(eS [32,40,41])], [], [((.val (eI 1)), [])]⟩
theorem hTreeForms75_ok : HOk Try.prog hTreeForms75 := hok_eq mmTreeForms_ok hmTreeForms75_ok folTreeForms (lf := 100000) (k := 1000) (by kernel_rfl)
def hmTreeForms76 : List HE := hTreeForms75 :: hmTreeForms75
theorem hmTreeForms76_ok : ∀ x ∈ hmTreeForms76, HOk Try.prog x := hmemo_cons hTreeForms75_ok hmTreeForms75_ok
def btreeForms18 : Blk := ⟨[(eI 101),(eI 3),(.sl 7 0 0 1 none 3),(eI 1),(.lit (.int .i64 (Int.negSucc 0))),(.lit (.slice none 0 0)),(eI 100),(.lit (.int .i64 (Int.negSucc 0))),(.lit (.slice none 0 0))],33,[(2,9),(1,6),(0,3)],3,0,false,2,none⟩
def btreeForms19 : Blk := ⟨[(eI 3),(.lit (.int .i64 (Int.negSucc 0))),(.lit (.slice none 0 0))],33,[(0,3)],1,0,false,0,none⟩
def hTreeForms76 : HE := ⟨14, [(.agg [(.sl 0 2 0 3 none 1),(.sl 1 1 0 2 none 1),(.sl 2 3 0 4 none 2)]),(eS [40,83,32,40,65,32,99,41,32,97,32,83,41])], [btreeForms2, btreeForms3, btreeForms4, btreeForms5, btreeForms6, btreeForms7], [((.val (.tup [(.agg [(eI 100),(eI 0),(.sl 6 2 0 3 none 3)]),(eI 0)])), [btreeForms18, btreeForms19])]⟩
theorem hTreeForms76_ok : HOk Try.prog hTreeForms76 := hok_eq mmTreeForms_ok hmTreeForms76_ok folTreeForms (lf := 100000) (k := 1000) (by kernel_rfl)
def hmTreeForms77 : List HE := hTreeForms76 :: hmTreeForms76
theorem hmTreeForms77_ok : ∀ x ∈ hmTreeForms77, HOk Try.prog x := hmemo_cons hTreeForms76_ok hmTreeForms76_ok
def hTreeForms77 : HE := ⟨22, [(.agg [(.sl 0 2 0 3 none 1),(.sl 1 1 0 2 none 1),(.sl 2 3 0 4 none 2)]),(.agg [(eI 3),(.lit (.int .i64 (Int.negSucc 0))),(.lit (.slice none 0 0))]),(eI 3)], [btreeForms2, btreeForms3, btreeForms4, btreeForms5, btreeForms6, btreeForms7], [((.val eB1), [])]⟩
theorem hTreeForms77_ok : HOk Try.prog hTreeForms77 := hok_eq mmTreeForms_ok hmTreeForms77_ok folTreeForms (lf := 100000) (k := 1000) (by kernel_rfl)
def hmTreeForms78 : List HE := hTreeForms77 :: hmTreeForms77
theorem hmTreeForms78_ok : ∀ x ∈ hmTreeForms78, HOk Try.prog x := hmemo_cons hTreeForms77_ok hmTreeForms77_ok
def hTreeForms78 : HE := ⟨22, [(.agg [(.sl 0 2 0 3 none 1),(.sl 1 1 0 2 none 1),(.sl 2 3 0 4 none 2)]),(.agg [(eI 101),(eI 3),(.sl 6 0 0 1 none 3)]),(eI 101)], [btreeForms2, btreeForms3, btreeForms4, btreeForms5, btreeForms6, btreeForms7, btreeForms19], [((.val eB1), [])]⟩
theorem hTreeForms78_ok : HOk Try.prog hTreeForms78 := hok_eq mmTreeForms_ok hmTreeForms78_ok folTreeForms (lf := 100000) (k := 1000) (by kernel_rfl)
def hmTreeForms79 : List HE := hTreeForms78 :: hmTreeForms78
theorem hmTreeForms79_ok : ∀ x ∈ hmTreeForms79, HOk Try.prog x := hmemo_cons hTreeForms78_ok hmTreeForms78_ok
def hTreeForms79 : HE := ⟨22, [(.agg [(.sl 0 2 0 3 none 1),(.sl 1 1 0 2 none 1),(.sl 2 3 0 4 none 2)]),(.agg [(eI 100),(eI 0),(.sl 6 2 0 3 none 3)]),(eI 100)], [btreeForms2, btreeForms3, btreeForms4, btreeForms5, btreeForms6, btreeForms7, btreeForms18, btreeForms19], [((.val eB1), [])]⟩
theorem hTreeForms79_ok : HOk Try.prog hTreeForms79 := hok_eq mmTreeForms_ok hmTreeForms79_ok folTreeForms (lf := 100000) (k := 1000) (by kernel_rfl)
def hmTreeForms80 : List HE := hTreeForms79 :: hmTreeForms79
theorem hmTreeForms80_ok : ∀ x ∈ hmTreeForms80, HOk Try.prog x := hmemo_cons hTreeForms79_ok hmTreeForms79_ok
def hTreeForms80 : HE := ⟨23, [(.agg [(.sl 0 2 0 3 none 1),(.sl 1 1 0 2 none 1),(.sl 2 3 0 4 none 2)]),(.agg [(eI 100),(eI 0),(.sl 6 2 0 3 none 3)])], [btreeForms2, btreeForms3, btreeForms4, btreeForms5, btreeForms6, btreeForms7, btreeForms18, btreeForms19], [((.val (eS [40,83,32,40,65,32,99,41,32,97,32,83,41])), [])]⟩
theorem hTreeForms80_ok : HOk Try.prog hTreeForms80 := hok_eq mmTreeForms_ok hmTreeForms80_ok folTreeForms (lf := 100000) (k := 1000) (by kernel_rfl)
def hmTreeForms81 : List HE := hTreeForms80 :: hmTreeForms80
theorem hmTreeForms81_ok : ∀ x ∈ hmTreeForms81, HOk Try.prog x := hmemo_cons hTreeForms80_ok hmTreeForms80_ok
def hTreeForms81 : HE := ⟨25, [(.agg [(eI 3),(.lit (.int .i64 (Int.negSucc 0))),(.lit (.slice none 0 0))])], [], [((.val (.sl 0 0 0 1 (some 1) 1)), [btreeForms7])]⟩
theorem hTreeForms81_ok : HOk Try.prog hTreeForms81 := hok_eq mmTreeForms_ok hmTreeForms81_ok folTreeForms (lf := 100000) (k := 1000) (by kernel_rfl)
def hmTreeForms82 : List HE := hTreeForms81 :: hmTreeForms81
theorem hmTreeForms82_ok : ∀ x ∈ hmTreeForms82, HOk Try.prog x := hmemo_cons hTreeForms81_ok hmTreeForms81_ok
def hTreeForms82 : HE := ⟨25, [(.agg [(eI 101),(eI 3),(.sl 0 0 0 1 none 3)])], [btreeForms19], [((.val (.sl 1 0 0 1 none 1)), [btreeForms7])]⟩
theorem hTreeForms82_ok : HOk Try.prog hTreeForms82 := hok_eq mmTreeForms_ok hmTreeForms82_ok folTreeForms (lf := 100000) (k := 1000) (by kernel_rfl)
def hmTreeForms83 : List HE := hTreeForms82 :: hmTreeForms82
theorem hmTreeForms83_ok : ∀ x ∈ hmTreeForms83, HOk Try.prog x := hmemo_cons hTreeForms82_ok hmTreeForms82_ok
def btreeForms20 : Blk := ⟨[(eI 101),(eI 3),(.sl 1 0 0 1 none 3),(eI 1),(.lit (.int .i64 (Int.negSucc 0))),(.lit (.slice none 0 0)),(eI 100),(.lit (.int .i64 (Int.negSucc 0))),(.lit (.slice none 0 0))],33,[(2,9),(1,6),(0,3)],3,0,false,2,none⟩
def btreeForms21 : Blk := ⟨[(eI 3),(eI 1),(eI 100)],3,[(2,3),(1,2),(0,1)],3,0,false,2,none⟩
def hTreeForms83 : HE := ⟨25, [(.agg [(eI 100),(eI 0),(.sl 0 2 0 3 none 3)])], [btreeForms20, btreeForms19], [((.val (.sl 2 2 0 3 none 1)), [btreeForms21])]⟩
theorem hTreeForms83_ok : HOk Try.prog hTreeForms83 := hok_eq mmTreeForms_ok hmTreeForms83_ok folTreeForms (lf := 100000) (k := 1000) (by kernel_rfl)
def hmTreeForms84 : List HE := hTreeForms83 :: hmTreeForms83
theorem hmTreeForms84_ok : ∀ x ∈ hmTreeForms84, HOk Try.prog x := hmemo_cons hTreeForms83_ok hmTreeForms83_ok
def btreeForms22 : Blk := ⟨[(eI 3),(eI 1),(eI 100)],3,[(0,3)],1,0,false,0,none⟩
def hTreeForms84 : HE := ⟨24, [(.sl 0 2 0 3 none 1),(.sl 1 0 0 3 (some 3) 1)], [btreeForms21, btreeForms22], [((.val eB1), [])]⟩
theorem hTreeForms84_ok : HOk Try.prog hTreeForms84 := hok_eq mmTreeForms_ok hmTreeForms84_ok folTreeForms (lf := 100000) (k := 1000) (by kernel_rfl)
def hmTreeForms85 : List HE := hTreeForms84 :: hmTreeForms84
theorem hmTreeForms85_ok : ∀ x ∈ hmTreeForms85, HOk Try.prog x := hmemo_cons hTreeForms84_ok hmTreeForms84_ok
def hTreeForms85 : HE := ⟨26, [(.agg [(eI 3),(.lit (.int .i64 (Int.negSucc 0))),(.lit (.slice none 0 0))])], [], [((.val (eI 1)), [])]⟩
theorem hTreeForms85_ok : HOk Try.prog hTreeForms85 := hok_eq mmTreeForms_ok hmTreeForms85_ok folTreeForms (lf := 100000) (k := 1000) (by kernel_rfl)
def hmTreeForms86 : List HE := hTreeForms85 :: hmTreeForms85
theorem hmTreeForms86_ok : ∀ x ∈ hmTreeForms86, HOk Try.prog x := hmemo_cons hTreeForms85_ok hmTreeForms85_ok
def hTreeForms86 : HE := ⟨26, [(.agg [(eI 101),(eI 3),(.sl 0 0 0 1 none 3)])], [btreeForms19], [((.val (eI 2)), [])]⟩
theorem hTreeForms86_ok : HOk Try.prog hTreeForms86 := hok_eq mmTreeForms_ok hmTreeForms86_ok folTreeForms (lf := 100000) (k := 1000) (by kernel_rfl)
def hmTreeForms87 : List HE := hTreeForms86 :: hmTreeForms86
theorem hmTreeForms87_ok : ∀ x ∈ hmTreeForms87, HOk Try.prog x := hmemo_cons hTreeForms86_ok hmTreeForms86_ok
def hTreeForms87 : HE := ⟨26, [(.agg [(eI 100),(eI 0),(.sl 0 2 0 3 none 3)])], [btreeForms20, btreeForms19], [((.val (eI 5)), [])]⟩
theorem hTreeForms87_ok : HOk Try.prog hTreeForms87 := hok_eq mmTreeForms_ok hmTreeForms87_ok folTreeForms (lf := 100000) (k := 1000) (by kernel_rfl)
def hmTreeForms88 : List HE := hTreeForms87 :: hmTreeForms87
theorem hmTreeForms88_ok : ∀ x ∈ hmTreeForms88, HOk Try.prog x := hmemo_cons hTreeForms87_ok hmTreeForms87_ok
def hTreeForms88 : HE := ⟨67, [(eS [65,41,41]),(eS [32,40,41])], [], [((.val (eI 1)), [])]⟩
theorem hTreeForms88_ok : HOk Try.prog hTreeForms88 := hok_eq mmTreeForms_ok hmTreeForms88_ok folTreeForms (lf := 100000) (k := 1000) (by kernel_rfl)
def hmTreeForms89 : List HE := hTreeForms88 :: hmTreeForms88
theorem hmTreeForms89_ok : ∀ x ∈ hmTreeForms89, HOk Try.prog x := hmemo_cons hTreeForms88_ok hmTreeForms88_ok
def hTreeForms89 : HE := ⟨14, [(.agg [(.sl 0 2 0 3 none 1),(.sl 1 1 0 2 none 1),(.sl 2 3 0 4 none 2)]),(eS [40,65,41])], [btreeForms2, btreeForms3, btreeForms4, btreeForms5, btreeForms6, btreeForms7], [((.val (.tup [(.agg [(eI 101),(eI 2),(.lit (.slice none 0 0))]),(eI 0)])), [])]⟩
theorem hTreeForms89_ok : HOk Try.prog hTreeForms89 := hok_eq mmTreeForms_ok hmTreeForms89_ok folTreeForms (lf := 100000) (k := 1000) (by kernel_rfl)
def hmTreeForms90 : List HE := hTreeForms89 :: hmTreeForms89
theorem hmTreeForms90_ok : ∀ x ∈ hmTreeForms90, HOk Try.prog x := hmemo_cons hTreeForms89_ok hmTreeForms89_ok
def hTreeForms90 : HE := ⟨23, [(.agg [(.sl 0 2 0 3 none 1),(.sl 1 1 0 2 none 1),(.sl 2 3 0 4 none 2)]),(.agg [(eI 101),(eI 2),(.lit (.slice none 0 0))])], [btreeForms2, btreeForms3, btreeForms4, btreeForms5, btreeForms6, btreeForms7], [((.val (eS [40,65,41])), [])]⟩
theorem hTreeForms90_ok : HOk Try.prog hTreeForms90 := hok_eq mmTreeForms_ok hmTreeForms90_ok folTreeForms (lf := 100000) (k := 1000) (by kernel_rfl)
def hmTreeForms91 : List HE := hTreeForms90 :: hmTreeForms90
theorem hmTreeForms91_ok : ∀ x ∈ hmTreeForms91, HOk Try.prog x := hmemo_cons hTreeForms90_ok hmTreeForms90_ok
def hTreeForms91 : HE := ⟨24, [(.lit (.slice none 0 0)),(.lit (.slice none 0 0))], [], [((.val eB1), [])]⟩
theorem hTreeForms91_ok : HOk Try.prog hTreeForms91 := hok_eq mmTreeForms_ok hmTreeForms91_ok folTreeForms (lf := 100000) (k := 1000) (by kernel_rfl)
def hmTreeForms92 : List HE := hTreeForms91 :: hmTreeForms91
theorem hmTreeForms92_ok : ∀ x ∈ hmTreeForms92, HOk Try.prog x := hmemo_cons hTreeForms91_ok hmTreeForms91_ok
def ttreeForms2 : List Nat := [83,32,40,65,41,32,97,32,40,83,32,40,65,32,99,41,32,97,32,40,83,32,98,41,41,41,41]
def hTreeForms92 : HE := ⟨67, [(eT ttreeForms2),(eS [32,40,41])], [], [((.val (eI 1)), [])]⟩
theorem hTreeForms92_ok : HOk Try.prog hTreeForms92 := hok_eq mmTreeForms_ok hmTreeForms92_ok folTreeForms (lf := 100000) (k := 1000) (by kernel_rfl)
def hmTreeForms93 : List HE := hTreeForms92 :: hmTreeForms92
theorem hmTreeForms93_ok : ∀ x ∈ hmTreeForms93, HOk Try.prog x := hmemo_cons hTreeForms92_ok hmTreeForms92_ok
def ttreeForms3 : List Nat := [65,41,32,97,32,40,83,32,40,65,32,99,41,32,97,32,40,83,32,98,41,41,41,41]
def hTreeForms93 : HE := ⟨67, [(eT ttreeForms3),(eS [32,40,41])], [], [((.val (eI 1)), [])]⟩
theorem hTreeForms93_ok : HOk Try.prog hTreeForms93 := hok_eq mmTreeForms_ok hmTreeForms93_ok folTreeForms (lf := 100000) (k := 1000) (by kernel_rfl)
def hmTreeForms94 : List HE := hTreeForms93 :: hmTreeForms93
theorem hmTreeForms94_ok : ∀ x ∈ hmTreeForms94, HOk Try.prog x := hmemo_cons hTreeForms93_ok hmTreeForms93_ok
def ttreeForms4 : List Nat := [97,32,40,83,32,40,65,32,99,41,32,97,32,40,83,32,98,41,41,41,41]
def hTreeForms94 : HE := ⟨67, [(eT ttreeForms4),(eS [32,40,41])], [], [((.val (eI 1)), [])]⟩
theorem hTreeForms94_ok : HOk Try.prog hTreeForms94 := hok_eq mmTreeForms_ok hmTreeForms94_ok folTreeForms (lf := 100000) (k := 1000) (by kernel_rfl)
def hmTreeForms95 : List HE := hTreeForms94 :: hmTreeForms94
theorem hmTreeForms95_ok : ∀ x ∈ hmTreeForms95, HOk Try.prog x := hmemo_cons hTreeForms94_ok hmTreeForms94_ok
def hTreeForms95 : HE := ⟨67, [(eS [83,32,40,65,32,99,41,32,97,32,40,83,32,98,41,41,41,41]),(eS [32,40,41])], [], [((.val (eI 1)), [])]⟩
theorem hTreeForms95_ok : HOk Try.prog hTreeForms95 := hok_eq mmTreeForms_ok hmTreeForms95_ok folTreeForms (lf := 100000) (k := 1000) (by kernel_rfl)
def hmTreeForms96 : List HE := hTreeForms95 :: hmTreeForms95
theorem hmTreeForms96_ok : ∀ x ∈ hmTreeForms96, HOk Try.prog x := hmemo_cons hTreeForms95_ok hmTreeForms95_ok
def hTreeForms96 : HE := ⟨67, [(eS [65,32,99,41,32,97,32,40,83,32,98,41,41,41,41]),(eS [32,40,41])], [], [((.val (eI 1)), [])]⟩
theorem hTreeForms96_ok : HOk Try.prog hTreeForms96 := hok_eq mmTreeForms_ok hmTreeForms96_ok folTreeForms (lf := 100000) (k := 1000) (by kernel_rfl)
def hmTreeForms97 : List HE := hTreeForms96 :: hmTreeForms96
theorem hmTreeForms97_ok : ∀ x ∈ hmTreeForms97, HOk Try.prog x := hmemo_cons hTreeForms96_ok hmTreeForms96_ok
def hTreeForms97 : HE := ⟨67, [(eS [99,41,32,97,32,40,83,32,98,41,41,41,41]),(eS [32,40,41])], [], [((.val (eI 1)), [])]⟩
theorem hTreeForms97_ok : HOk Try.prog hTreeForms97 := hok_eq mmTreeForms_ok hmTreeForms97_ok folTreeForms (lf := 100000) (k := 1000) (by kernel_rfl)
def hmTreeForms98 : List HE := hTreeForms97 :: hmTreeForms97
theorem hmTreeForms98_ok : ∀ x ∈ hmTreeForms98, HOk Try.prog x := hmemo_cons hTreeForms97_ok hmTreeForms97_ok
def hTreeForms98 : HE := ⟨67, [(eS [97,32,40,83,32,98,41,41,41,41]),(eS [32,40,41])], [], [((.val (eI 1)), [])]⟩
theorem hTreeForms98_ok : HOk Try.prog hTreeForms98 := hok_eq mmTreeForms_ok hmTreeForms98_ok folTreeForms (lf := 100000) (k := 1000) (by kernel_rfl)
def hmTreeForms99 : List HE := hTreeForms98 :: hmTreeForms98
theorem hmTreeForms99_ok : ∀ x ∈ hmTreeForms99, HOk Try.prog x := hmemo_cons hTreeForms98_ok hmTreeForms98_ok
def hTreeForms99 : HE := ⟨67, [(eS [83,32,98,41,41,41,41]),(eS [32,40,41])], [], [((.val (eI 1)), [])]⟩
theorem hTreeForms99_ok : HOk Try.prog hTreeForms99 := hok_eq mmTreeForms_ok hmTreeForms99_ok folTreeForms (lf := 100000) (k := 1000) (by kernel_rfl)
def hmTreeForms100 : List HE := hTreeForms99 :: hmTreeForms99
theorem hmTreeForms100_ok : ∀ x ∈ hmTreeForms100, HOk Try.prog x := hmemo_cons hTreeForms99_ok hmTreeForms99_ok
def hTreeForms100 : HE := ⟨67, [(eS [98,41,41,41,41]),(eS [32,40,41])], [], [((.val (eI 1)), [])]⟩
theorem hTreeForms100_ok : HOk Try.prog hTreeForms100 := hok_eq mmTreeForms_ok hmTreeForms100_ok folTreeForms (lf := 100000) (k := 1000) (by kernel_rfl)
def hmTreeForms101 : List HE := hTreeForms100 :: hmTreeForms100
theorem hmTreeForms101_ok : ∀ x ∈ hmTreeForms101, HOk Try.prog x := hmemo_cons hTreeForms100_ok hmTreeForms100_ok
def btreeForms23 : Blk := ⟨[(eI 101),(eI 2),(.lit (.slice none 0 0)),(eI 1),(.lit (.int .i64 (Int.negSucc 0))),(.lit (.slice none 0 0)),(eI 100),(eI 0),(.sl 7 2 0 3 none 3)],33,[(2,9),(1,6),(0,3)],3,0,false,2,none⟩
def btreeForms24 : Blk := ⟨[(eI 101),(eI 3),(.sl 8 0 0 1 none 3),(eI 1),(.lit (.int .i64 (Int.negSucc 0))),(.lit (.slice none 0 0)),(eI 100),(eI 1),(.sl 9 0 0 1 none 3)],33,[(2,9),(1,6),(0,3)],3,0,false,2,none⟩
def ttreeForms5 : List Nat := [40,83,32,40,65,41,32,97,32,40,83,32,40,65,32,99,41,32,97,32,40,83,32,98,41,41,41]
def hTreeForms101 : HE := ⟨14, [(.agg [(.sl 0 2 0 3 none 1),(.sl 1 1 0 2 none 1),(.sl 2 3 0 4 none 2)]),(eT ttreeForms5)], [btreeForms2, btreeForms3, btreeForms4, btreeForms5, btreeForms6, btreeForms7], [((.val (.tup [(.agg [(eI 100),(eI 0),(.sl 6 2 0 3 none 3)]),(eI 0)])), [btreeForms23, btreeForms24, btreeForms19, btreeForms9])]⟩
theorem hTreeForms101_ok : HOk Try.prog hTreeForms101 := hok_eq mmTreeForms_ok hmTreeForms101_ok folTreeForms (lf := 100000) (k := 1000) (by kernel_rfl)
def hmTreeForms102 : List HE := hTreeForms101 :: hmTreeForms101
theorem hmTreeForms102_ok : ∀ x ∈ hmTreeForms102, HOk Try.prog x := hmemo_cons hTreeForms101_ok hmTreeForms101_ok
def btreeForms25 : Blk := ⟨[(eI 101),(eI 3),(.sl 7 0 0 1 none 3),(eI 1),(.lit (.int .i64 (Int.negSucc 0))),(.lit (.slice none 0 0)),(eI 100),(eI 1),(.sl 8 0 0 1 none 3)],33,[(2,9),(1,6),(0,3)],3,0,false,2,none⟩
def hTreeForms102 : HE := ⟨22, [(.agg [(.sl 0 2 0 3 none 1),(.sl 1 1 0 2 none 1),(.sl 2 3 0 4 none 2)]),(.agg [(eI 100),(eI 0),(.sl 6 2 0 3 none 3)]),(eI 100)], [btreeForms2, btreeForms3, btreeForms4, btreeForms5, btreeForms6, btreeForms7, btreeForms25, btreeForms19, btreeForms9], [((.val eB1), [])]⟩
theorem hTreeForms102_ok : HOk Try.prog hTreeForms102 := hok_eq mmTreeForms_ok hmTreeForms102_ok folTreeForms (lf := 100000) (k := 1000) (by kernel_rfl)
def hmTreeForms103 : List HE := hTreeForms102 :: hmTreeForms102
theorem hmTreeForms103_ok : ∀ x ∈ hmTreeForms103, HOk Try.prog x := hmemo_cons hTreeForms102_ok hmTreeForms102_ok
def hTreeForms103 : HE := ⟨22, [(.agg [(.sl 0 2 0 3 none 1),(.sl 1 1 0 2 none 1),(.sl 2 3 0 4 none 2)]),(.agg [(eI 100),(eI 0),(.sl 6 2 0 3 none 3)]),(eI 100)], [btreeForms2, btreeForms3, btreeForms4, btreeForms5, btreeForms6, btreeForms7, btreeForms23, btreeForms24, btreeForms19, btreeForms9], [((.val eB1), [])]⟩
theorem hTreeForms103_ok : HOk Try.prog hTreeForms103 := hok_eq mmTreeForms_ok hmTreeForms103_ok folTreeForms (lf := 100000) (k := 1000) (by kernel_rfl)
def hmTreeForms104 : List HE := hTreeForms103 :: hmTreeForms103
theorem hmTreeForms104_ok : ∀ x ∈ hmTreeForms104, HOk Try.prog x := hmemo_cons hTreeForms103_ok hmTreeForms103_ok
def hTreeForms104 : HE := ⟨23, [(.agg [(.sl 0 2 0 3 none 1),(.sl 1 1 0 2 none 1),(.sl 2 3 0 4 none 2)]),(.agg [(eI 100),(eI 0),(.sl 6 2 0 3 none 3)])], [btreeForms2, btreeForms3, btreeForms4, btreeForms5, btreeForms6, btreeForms7, btreeForms23, btreeForms24, btreeForms19, btreeForms9], [((.val (eT ttreeForms5)), [])]⟩
theorem hTreeForms104_ok : HOk Try.prog hTreeForms104 := hok_eq mmTreeForms_ok hmTreeForms104_ok folTreeForms (lf := 100000) (k := 1000) (by kernel_rfl)
def hmTreeForms105 : List HE := hTreeForms104 :: hmTreeForms104
theorem hmTreeForms105_ok : ∀ x ∈ hmTreeForms105, HOk Try.prog x := hmemo_cons hTreeForms104_ok hmTreeForms104_ok
def btreeForms26 : Blk := ⟨[(eI 101),(eI 3),(.sl 1 0 0 1 none 3),(eI 1),(.lit (.int .i64 (Int.negSucc 0))),(.lit (.slice none 0 0)),(eI 100),(eI 1),(.sl 2 0 0 1 none 3)],33,[(2,9),(1,6),(0,3)],3,0,false,2,none⟩
def btreeForms27 : Blk := ⟨[(eI 3),(eI 1),(eI 2)],3,[(2,3),(1,2),(0,1)],3,0,false,2,none⟩
def hTreeForms105 : HE := ⟨25, [(.agg [(eI 100),(eI 0),(.sl 0 2 0 3 none 3)])], [btreeForms26, btreeForms19, btreeForms9], [((.val (.sl 3 2 0 3 none 1)), [btreeForms27])]⟩
theorem hTreeForms105_ok : HOk Try.prog hTreeForms105 := hok_eq mmTreeForms_ok hmTreeForms105_ok folTreeForms (lf := 100000) (k := 1000) (by kernel_rfl)
def hmTreeForms106 : List HE := hTreeForms105 :: hmTreeForms105
theorem hmTreeForms106_ok : ∀ x ∈ hmTreeForms106, HOk Try.prog x := hmemo_cons hTreeForms105_ok hmTreeForms105_ok
def btreeForms28 : Blk := ⟨[(eI 101),(eI 2),(.lit (.slice none 0 0)),(eI 1),(.lit (.int .i64 (Int.negSucc 0))),(.lit (.slice none 0 0)),(eI 100),(eI 0),(.sl 1 2 0 3 none 3)],33,[(2,9),(1,6),(0,3)],3,0,false,2,none⟩
def btreeForms29 : Blk := ⟨[(eI 101),(eI 3),(.sl 2 0 0 1 none 3),(eI 1),(.lit (.int .i64 (Int.negSucc 0))),(.lit (.slice none 0 0)),(eI 100),(eI 1),(.sl 3 0 0 1 none 3)],33,[(2,9),(1,6),(0,3)],3,0,false,2,none⟩
def btreeForms30 : Blk := ⟨[(eI 1),(eI 3),(eI 1),(eI 2)],3,[(1,4),(0,1)],2,0,false,1,none⟩
def hTreeForms106 : HE := ⟨25, [(.agg [(eI 100),(eI 0),(.sl 0 2 0 3 none 3)])], [btreeForms28, btreeForms29, btreeForms19, btreeForms9], [((.val (.sl 4 1 0 4 none 1)), [btreeForms30])]⟩
theorem hTreeForms106_ok : HOk Try.prog hTreeForms106 := hok_eq mmTreeForms_ok hmTreeForms106_ok folTreeForms (lf := 100000) (k := 1000) (by kernel_rfl)
def hmTreeForms107 : List HE := hTreeForms106 :: hmTreeForms106
theorem hmTreeForms107_ok : ∀ x ∈ hmTreeForms107, HOk Try.prog x := hmemo_cons hTreeForms106_ok hmTreeForms106_ok
def btreeForms31 : Blk := ⟨[(eI 1),(eI 3),(eI 1),(eI 2)],3,[(0,4)],1,0,false,0,none⟩
def hTreeForms107 : HE := ⟨24, [(.sl 0 1 0 4 none 1),(.sl 1 0 0 4 (some 4) 1)], [btreeForms30, btreeForms31], [((.val eB1), [])]⟩
theorem hTreeForms107_ok : HOk Try.prog hTreeForms107 := hok_eq mmTreeForms_ok hmTreeForms107_ok folTreeForms (lf := 100000) (k := 1000) (by kernel_rfl)
def hmTreeForms108 : List HE := hTreeForms107 :: hmTreeForms107
theorem hmTreeForms108_ok : ∀ x ∈ hmTreeForms108, HOk Try.prog x := hmemo_cons hTreeForms107_ok hmTreeForms107_ok
def hTreeForms108 : HE := ⟨26, [(.agg [(eI 100),(eI 0),(.sl 0 2 0 3 none 3)])], [btreeForms26, btreeForms19, btreeForms9], [((.val (eI 6)), [])]⟩
theorem hTreeForms108_ok : HOk Try.prog hTreeForms108 := hok_eq mmTreeForms_ok hmTreeForms108_ok folTreeForms (lf := 100000) (k := 1000) (by kernel_rfl)
def hmTreeForms109 : List HE := hTreeForms108 :: hmTreeForms108
theorem hmTreeForms109_ok : ∀ x ∈ hmTreeForms109, HOk Try.prog x := hmemo_cons hTreeForms108_ok hmTreeForms108_ok
def hTreeForms109 : HE := ⟨26, [(.agg [(eI 100),(eI 0),(.sl 0 2 0 3 none 3)])], [btreeForms28, btreeForms29, btreeForms19, btreeForms9], [((.val (eI 9)), [])]⟩
theorem hTreeForms109_ok : HOk Try.prog hTreeForms109 := hok_eq mmTreeForms_ok hmTreeForms109_ok folTreeForms (lf := 100000) (k := 1000) (by kernel_rfl)
def hmTreeForms110 : List HE := hTreeForms109 :: hmTreeForms109
theorem hmTreeForms110_ok : ∀ x ∈ hmTreeForms110, HOk Try.prog x := hmemo_cons hTreeForms109_ok hmTreeForms109_ok
def hTreeForms110 : HE := ⟨67, [(eS [83,32,41]),(eS [32,40,41])], [], [((.val (eI 1)), [])]⟩
theorem hTreeForms110_ok : HOk Try.prog hTreeForms110 := hok_eq mmTreeForms_ok hmTreeForms110_ok folTreeForms (lf := 100000) (k := 1000) (by kernel_rfl)
def hmTreeForms111 : List HE := hTreeForms110 :: hmTreeForms110
theorem hmTreeForms111_ok : ∀ x ∈ hmTreeForms111, HOk Try.prog x := hmemo_cons hTreeForms110_ok hmTreeForms110_ok
def hTreeForms111 : HE := ⟨14, [(.agg [(.sl 0 2 0 3 none 1),(.sl 1 1 0 2 none 1),(.sl 2 3 0 4 none 2)]),(eS [83,32])], [btreeForms2, btreeForms3, btreeForms4, btreeForms5, btreeForms6, btreeForms7], [((.val (.tup [(.agg [(eI 0),(eI 0),(.lit (.slice none 0 0))]),(eI 2)])), [])]⟩
theorem hTreeForms111_ok : HOk Try.prog hTreeForms111 := hok_eq mmTreeForms_ok hmTreeForms111_ok folTreeForms (lf := 100000) (k := 1000) (by kernel_rfl)
def hmTreeForms112 : List HE := hTreeForms111 :: hmTreeForms111
theorem hmTreeForms112_ok : ∀ x ∈ hmTreeForms112, HOk Try.prog x := hmemo_cons hTreeForms111_ok hmTreeForms111_ok
def hTreeForms112 : HE := ⟨67, [(eS [32,83,41]),(eS [32,40,41])], [], [((.val (eI 0)), [])]⟩
theorem hTreeForms112_ok : HOk Try.prog hTreeForms112 := hok_eq mmTreeForms_ok hmTreeForms112_ok folTreeForms (lf := 100000) (k := 1000) (by kernel_rfl)
def hmTreeForms113 : List HE := hTreeForms112 :: hmTreeForms112
theorem hmTreeForms113_ok : ∀ x ∈ hmTreeForms113, HOk Try.prog x := hmemo_cons hTreeForms112_ok hmTreeForms112_ok
def hTreeForms113 : HE := ⟨14, [(.agg [(.sl 0 2 0 3 none 1),(.sl 1 1 0 2 none 1),(.sl 2 3 0 4 none 2)]),(eS [32,83])], [btreeForms2, btreeForms3, btreeForms4, btreeForms5, btreeForms6, btreeForms7], [((.val (.tup [(.agg [(eI 0),(eI 0),(.lit (.slice none 0 0))]),(eI 2)])), [])]⟩
theorem hTreeForms113_ok : HOk Try.prog hTreeForms113 := hok_eq mmTreeForms_ok hmTreeForms113_ok folTreeForms (lf := 100000) (k := 1000) (by kernel_rfl)
def hmTreeForms114 : List HE := hTreeForms113 :: hmTreeForms113
theorem hmTreeForms114_ok : ∀ x ∈ hmTreeForms114, HOk Try.prog x := hmemo_cons hTreeForms113_ok hmTreeForms113_ok
def hTreeForms114 : HE := ⟨67, [(eS [83,32,65,32,83,32,97,41,41]),(eS [32,40,41])], [], [((.val (eI 1)), [])]⟩
theorem hTreeForms114_ok : HOk Try.prog hTreeForms114 := hok_eq mmTreeForms_ok hmTreeForms114_ok folTreeForms (lf := 100000) (k := 1000) (by kernel_rfl)
def hmTreeForms115 : List HE := hTreeForms114 :: hmTreeForms114
theorem hmTreeForms115_ok : ∀ x ∈ hmTreeForms115, HOk Try.prog x := hmemo_cons hTreeForms114_ok hmTreeForms114_ok
def hTreeForms115 : HE := ⟨67, [(eS [65,32,83,32,97,41,41]),(eS [32,40,41])], [], [((.val (eI 1)), [])]⟩
theorem hTreeForms115_ok : HOk Try.prog hTreeForms115 := hok_eq mmTreeForms_ok hmTreeForms115_ok folTreeForms (lf := 100000) (k := 1000) (by kernel_rfl)
def hmTreeForms116 : List HE := hTreeForms115 :: hmTreeForms115
theorem hmTreeForms116_ok : ∀ x ∈ hmTreeForms116, HOk Try.prog x := hmemo_cons hTreeForms115_ok hmTreeForms115_ok
def hTreeForms116 : HE := ⟨67, [(eS [83,32,97,41,41]),(eS [32,40,41])], [], [((.val (eI 1)), [])]⟩
theorem hTreeForms116_ok : HOk Try.prog hTreeForms116 := hok_eq mmTreeForms_ok hmTreeForms116_ok folTreeForms (lf := 100000) (k := 1000) (by kernel_rfl)
def hmTreeForms117 : List HE := hTreeForms116 :: hmTreeForms116
theorem hmTreeForms117_ok : ∀ x ∈ hmTreeForms117, HOk Try.prog x := hmemo_cons hTreeForms116_ok hmTreeForms116_ok
def hTreeForms117 : HE := ⟨67, [(eS [97,41,41]),(eS [32,40,41])], [], [((.val (eI 1)), [])]⟩
theorem hTreeForms117_ok : HOk Try.prog hTreeForms117 := hok_eq mmTreeForms_ok hmTreeForms117_ok folTreeForms (lf := 100000) (k := 1000) (by kernel_rfl)
def hmTreeForms118 : List HE := hTreeForms117 :: hmTreeForms117
theorem hmTreeForms118_ok : ∀ x ∈ hmTreeForms118, HOk Try.prog x := hmemo_cons hTreeForms117_ok hmTreeForms117_ok
def hTreeForms118 : HE := ⟨14, [(.agg [(.sl 0 2 0 3 none 1),(.sl 1 1 0 2 none 1),(.sl 2 3 0 4 none 2)]),(eS [40,83,32,65,32,83,32,97,41])], [btreeForms2, btreeForms3, btreeForms4, btreeForms5, btreeForms6, btreeForms7], [((.val (.tup [(.agg [(eI 0),(eI 0),(.lit (.slice none 0 0))]),(eI 2)])), [])]⟩
theorem hTreeForms118_ok : HOk Try.prog hTreeForms118 := hok_eq mmTreeForms_ok hmTreeForms118_ok folTreeForms (lf := 100000) (k := 1000) (by kernel_rfl)
def hmTreeForms119 : List HE := hTreeForms118 :: hmTreeForms118
theorem hmTreeForms119_ok : ∀ x ∈ hmTreeForms119, HOk Try.prog x := hmemo_cons hTreeForms118_ok hmTreeForms118_ok
def hTreeForms119 : HE := ⟨72, [(eS [32,40,41]),(.lit (.int .i32 36))], [], [((.val (.lit (.int .i64 (Int.negSucc 0)))), [])]⟩
theorem hTreeForms119_ok : HOk Try.prog hTreeForms119 := hok_eq mmTreeForms_ok hmTreeForms119_ok folTreeForms (lf := 100000) (k := 1000) (by kernel_rfl)
def hmTreeForms120 : List HE := hTreeForms119 :: hmTreeForms119
theorem hmTreeForms120_ok : ∀ x ∈ hmTreeForms120, HOk Try.prog x := hmemo_cons hTreeForms119_ok hmTreeForms119_ok
def hTreeForms120 : HE := ⟨67, [(eS [36,41]),(eS [32,40,41])], [], [((.val (eI 1)), [])]⟩
theorem hTreeForms120_ok : HOk Try.prog hTreeForms120 := hok_eq mmTreeForms_ok hmTreeForms120_ok folTreeForms (lf := 100000) (k := 1000) (by kernel_rfl)
def hmTreeForms121 : List HE := hTreeForms120 :: hmTreeForms120
theorem hmTreeForms121_ok : ∀ x ∈ hmTreeForms121, HOk Try.prog x := hmemo_cons hTreeForms120_ok hmTreeForms120_ok
def hTreeForms121 : HE := ⟨14, [(.agg [(.sl 0 2 0 3 none 1),(.sl 1 1 0 2 none 1),(.sl 2 3 0 4 none 2)]),(eS [36])], [btreeForms2, btreeForms3, btreeForms4, btreeForms5, btreeForms6, btreeForms7], [((.val (.tup [(.agg [(eI 0),(eI 0),(.lit (.slice none 0 0))]),(eI 2)])), [])]⟩
theorem hTreeForms121_ok : HOk Try.prog hTreeForms121 := hok_eq mmTreeForms_ok hmTreeForms121_ok folTreeForms (lf := 100000) (k := 1000) (by kernel_rfl)
def hmTreeForms122 : List HE := hTreeForms121 :: hmTreeForms121
theorem hmTreeForms122_ok : ∀ x ∈ hmTreeForms122, HOk Try.prog x := hmemo_cons hTreeForms121_ok hmTreeForms121_ok
def hTreeForms122 : HE := ⟨72, [(eS [32,40,41]),(.lit (.int .i32 120))], [], [((.val (.lit (.int .i64 (Int.negSucc 0)))), [])]⟩
theorem hTreeForms122_ok : HOk Try.prog hTreeForms122 := hok_eq mmTreeForms_ok hmTreeForms122_ok folTreeForms (lf := 100000) (k := 1000) (by kernel_rfl)
def hmTreeForms123 : List HE := hTreeForms122 :: hmTreeForms122
theorem hmTreeForms123_ok : ∀ x ∈ hmTreeForms123, HOk Try.prog x := hmemo_cons hTreeForms122_ok hmTreeForms122_ok
def hTreeForms123 : HE := ⟨67, [(eS [120,41]),(eS [32,40,41])], [], [((.val (eI 1)), [])]⟩
theorem hTreeForms123_ok : HOk Try.prog hTreeForms123 := hok_eq mmTreeForms_ok hmTreeForms123_ok folTreeForms (lf := 100000) (k := 1000) (by kernel_rfl)
def hmTreeForms124 : List HE := hTreeForms123 :: hmTreeForms123
theorem hmTreeForms124_ok : ∀ x ∈ hmTreeForms124, HOk Try.prog x := hmemo_cons hTreeForms123_ok hmTreeForms123_ok
def hTreeForms124 : HE := ⟨14, [(.agg [(.sl 0 2 0 3 none 1),(.sl 1 1 0 2 none 1),(.sl 2 3 0 4 none 2)]),(eS [120])], [btreeForms2, btreeForms3, btreeForms4, btreeForms5, btreeForms6, btreeForms7], [((.val (.tup [(.agg [(eI 0),(eI 0),(.lit (.slice none 0 0))]),(eI 2)])), [])]⟩
theorem hTreeForms124_ok : HOk Try.prog hTreeForms124 := hok_eq mmTreeForms_ok hmTreeForms124_ok folTreeForms (lf := 100000) (k := 1000) (by kernel_rfl)
def hmTreeForms125 : List HE := hTreeForms124 :: hmTreeForms124
theorem hmTreeForms125_ok : ∀ x ∈ hmTreeForms125, HOk Try.prog x := hmemo_cons hTreeForms124_ok hmTreeForms124_ok
def hTreeForms125 : HE := ⟨67, [(eS [83,32,40,65,41,32,97,32,83,41,41,41]),(eS [32,40,41])], [], [((.val (eI 1)), [])]⟩
theorem hTreeForms125_ok : HOk Try.prog hTreeForms125 := hok_eq mmTreeForms_ok hmTreeForms125_ok folTreeForms (lf := 100000) (k := 1000) (by kernel_rfl)
def hmTreeForms126 : List HE := hTreeForms125 :: hmTreeForms125
theorem hmTreeForms126_ok : ∀ x ∈ hmTreeForms126, HOk Try.prog x := hmemo_cons hTreeForms125_ok hmTreeForms125_ok
def hTreeForms126 : HE := ⟨67, [(eS [65,41,32,97,32,83,41,41,41]),(eS [32,40,41])], [], [((.val (eI 1)), [])]⟩
theorem hTreeForms126_ok : HOk Try.prog hTreeForms126 := hok_eq mmTreeForms_ok hmTreeForms126_ok folTreeForms (lf := 100000) (k := 1000) (by kernel_rfl)
def hmTreeForms127 : List HE := hTreeForms126 :: hmTreeForms126
theorem hmTreeForms127_ok : ∀ x ∈ hmTreeForms127, HOk Try.prog x := hmemo_cons hTreeForms126_ok hmTreeForms126_ok
def hTreeForms127 : HE := ⟨67, [(eS [97,32,83,41,41,41]),(eS [32,40,41])], [], [((.val (eI 1)), [])]⟩
theorem hTreeForms127_ok : HOk Try.prog hTreeForms127 := hok_eq mmTreeForms_ok hmTreeForms127_ok folTreeForms (lf := 100000) (k := 1000) (by kernel_rfl)
def hmTreeForms128 : List HE := hTreeForms127 :: hmTreeForms127
theorem hmTreeForms128_ok : ∀ x ∈ hmTreeForms128, HOk Try.prog x := hmemo_cons hTreeForms127_ok hmTreeForms127_ok
def hTreeForms128 : HE := ⟨67, [(eS [83,41,41,41]),(eS [32,40,41])], [], [((.val (eI 1)), [])]⟩
theorem hTreeForms128_ok : HOk Try.prog hTreeForms128 := hok_eq mmTreeForms_ok hmTreeForms128_ok folTreeForms (lf := 100000) (k := 1000) (by kernel_rfl)
def hmTreeForms129 : List HE := hTreeForms128 :: hmTreeForms128
theorem hmTreeForms129_ok : ∀ x ∈ hmTreeForms129, HOk Try.prog x := hmemo_cons hTreeForms128_ok hmTreeForms128_ok
def hTreeForms129 : HE := ⟨14, [(.agg [(.sl 0 2 0 3 none 1),(.sl 1 1 0 2 none 1),(.sl 2 3 0 4 none 2)]),(eS [40,83,32,40,65,41,32,97,32,83,41,41])], [btreeForms2, btreeForms3, btreeForms4, btreeForms5, btreeForms6, btreeForms7], [((.val (.tup [(.agg [(eI 0),(eI 0),(.lit (.slice none 0 0))]),(eI 2)])), [])]⟩
theorem hTreeForms129_ok : HOk Try.prog hTreeForms129 := hok_eq mmTreeForms_ok hmTreeForms129_ok folTreeForms (lf := 100000) (k := 1000) (by kernel_rfl)
def hmTreeForms130 : List HE := hTreeForms129 :: hmTreeForms129
theorem hmTreeForms130_ok : ∀ x ∈ hmTreeForms130, HOk Try.prog x := hmemo_cons hTreeForms129_ok hmTreeForms129_ok
def hTreeForms130 : HE := ⟨67, [(eS [65,32,98,41,41]),(eS [32,40,41])], [], [((.val (eI 1)), [])]⟩
theorem hTreeForms130_ok : HOk Try.prog hTreeForms130 := hok_eq mmTreeForms_ok hmTreeForms130_ok folTreeForms (lf := 100000) (k := 1000) (by kernel_rfl)
def hmTreeForms131 : List HE := hTreeForms130 :: hmTreeForms130
theorem hmTreeForms131_ok : ∀ x ∈ hmTreeForms131, HOk Try.prog x := hmemo_cons hTreeForms130_ok hmTreeForms130_ok
def hTreeForms131 : HE := ⟨14, [(.agg [(.sl 0 2 0 3 none 1),(.sl 1 1 0 2 none 1),(.sl 2 3 0 4 none 2)]),(eS [40,65,32,98,41])], [btreeForms2, btreeForms3, btreeForms4, btreeForms5, btreeForms6, btreeForms7], [((.val (.tup [(.agg [(eI 0),(eI 0),(.lit (.slice none 0 0))]),(eI 2)])), [])]⟩
theorem hTreeForms131_ok : HOk Try.prog hTreeForms131 := hok_eq mmTreeForms_ok hmTreeForms131_ok folTreeForms (lf := 100000) (k := 1000) (by kernel_rfl)
def hmTreeForms132 : List HE := hTreeForms131 :: hmTreeForms131
theorem hmTreeForms132_ok : ∀ x ∈ hmTreeForms132, HOk Try.prog x := hmemo_cons hTreeForms131_ok hmTreeForms131_ok
def hTreeForms132 : HE := ⟨14, [(.agg [(.sl 0 2 0 3 none 1),(.sl 1 1 0 2 none 1),(.sl 2 3 0 4 none 2)]),(eS [40,98,41])], [btreeForms2, btreeForms3, btreeForms4, btreeForms5, btreeForms6, btreeForms7], [((.val (.tup [(.agg [(eI 0),(eI 0),(.lit (.slice none 0 0))]),(eI 2)])), [])]⟩
theorem hTreeForms132_ok : HOk Try.prog hTreeForms132 := hok_eq mmTreeForms_ok hmTreeForms132_ok folTreeForms (lf := 100000) (k := 1000) (by kernel_rfl)
def hmTreeForms133 : List HE := hTreeForms132 :: hmTreeForms132
theorem hmTreeForms133_ok : ∀ x ∈ hmTreeForms133, HOk Try.prog x := hmemo_cons hTreeForms132_ok hmTreeForms132_ok
def hTreeForms133 : HE := ⟨67, [(eS [83,32,98,41]),(eS [32,40,41])], [], [((.val (eI 1)), [])]⟩
theorem hTreeForms133_ok : HOk Try.prog hTreeForms133 := hok_eq mmTreeForms_ok hmTreeForms133_ok folTreeForms (lf := 100000) (k := 1000) (by kernel_rfl)
def hmTreeForms134 : List HE := hTreeForms133 :: hmTreeForms133
theorem hmTreeForms134_ok : ∀ x ∈ hmTreeForms134, HOk Try.prog x := hmemo_cons hTreeForms133_ok hmTreeForms133_ok
def hTreeForms134 : HE := ⟨14, [(.agg [(.sl 0 2 0 3 none 1),(.sl 1 1 0 2 none 1),(.sl 2 3 0 4 none 2)]),(eS [83,32,98])], [btreeForms2, btreeForms3, btreeForms4, btreeForms5, btreeForms6, btreeForms7], [((.val (.tup [(.agg [(eI 0),(eI 0),(.lit (.slice none 0 0))]),(eI 2)])), [])]⟩
theorem hTreeForms134_ok : HOk Try.prog hTreeForms134 := hok_eq mmTreeForms_ok hmTreeForms134_ok folTreeForms (lf := 100000) (k := 1000) (by kernel_rfl)
def hmTreeForms135 : List HE := hTreeForms134 :: hmTreeForms134
theorem hmTreeForms135_ok : ∀ x ∈ hmTreeForms135, HOk Try.prog x := hmemo_cons hTreeForms134_ok hmTreeForms134_ok
def hTreeForms135 : HE := ⟨14, [(.agg [(.sl 0 2 0 3 none 1),(.sl 1 1 0 2 none 1),(.sl 2 3 0 4 none 2)]),(eS [40,83,32,98])], [btreeForms2, btreeForms3, btreeForms4, btreeForms5, btreeForms6, btreeForms7], [((.val (.tup [(.agg [(eI 0),(eI 0),(.lit (.slice none 0 0))]),(eI 2)])), [])]⟩
theorem hTreeForms135_ok : HOk Try.prog hTreeForms135 := hok_eq mmTreeForms_ok hmTreeForms135_ok folTreeForms (lf := 100000) (k := 1000) (by kernel_rfl)
def hmTreeForms136 : List HE := hTreeForms135 :: hmTreeForms135
theorem hmTreeForms136_ok : ∀ x ∈ hmTreeForms136, HOk Try.prog x := hmemo_cons hTreeForms135_ok hmTreeForms135_ok
def hTreeForms136 : HE := ⟨67, [(eS [83,32,98,32,41,41]),(eS [32,40,41])], [], [((.val (eI 1)), [])]⟩
theorem hTreeForms136_ok : HOk Try.prog hTreeForms136 := hok_eq mmTreeForms_ok hmTreeForms136_ok folTreeForms (lf := 100000) (k := 1000) (by kernel_rfl)
def hmTreeForms137 : List HE := hTreeForms136 :: hmTreeForms136
theorem hmTreeForms137_ok : ∀ x ∈ hmTreeForms137, HOk Try.prog x := hmemo_cons hTreeForms136_ok hmTreeForms136_ok
def hTreeForms137 : HE := ⟨67, [(eS [98,32,41,41]),(eS [32,40,41])], [], [((.val (eI 1)), [])]⟩
theorem hTreeForms137_ok : HOk Try.prog hTreeForms137 := hok_eq mmTreeForms_ok hmTreeForms137_ok folTreeForms (lf := 100000) (k := 1000) (by kernel_rfl)
def hmTreeForms138 : List HE := hTreeForms137 :: hmTreeForms137
theorem hmTreeForms138_ok : ∀ x ∈ hmTreeForms138, HOk Try.prog x := hmemo_cons hTreeForms137_ok hmTreeForms137_ok
def hTreeForms138 : HE := ⟨67, [(eS [41,41]),(eS [32,40,41])], [], [((.val (eI 0)), [])]⟩
theorem hTreeForms138_ok : HOk Try.prog hTreeForms138 := hok_eq mmTreeForms_ok hmTreeForms138_ok folTreeForms (lf := 100000) (k := 1000) (by kernel_rfl)
def hmTreeForms139 : List HE := hTreeForms138 :: hmTreeForms138
theorem hmTreeForms139_ok : ∀ x ∈ hmTreeForms139, HOk Try.prog x := hmemo_cons hTreeForms138_ok hmTreeForms138_ok
def hTreeForms139 : HE := ⟨14, [(.agg [(.sl 0 2 0 3 none 1),(.sl 1 1 0 2 none 1),(.sl 2 3 0 4 none 2)]),(eS [40,83,32,98,32,41])], [btreeForms2, btreeForms3, btreeForms4, btreeForms5, btreeForms6, btreeForms7], [((.val (.tup [(.agg [(eI 0),(eI 0),(.lit (.slice none 0 0))]),(eI 2)])), [])]⟩
theorem hTreeForms139_ok : HOk Try.prog hTreeForms139 := hok_eq mmTreeForms_ok hmTreeForms139_ok folTreeForms (lf := 100000) (k := 1000) (by kernel_rfl)
def hmTreeForms140 : List HE := hTreeForms139 :: hmTreeForms139
theorem hmTreeForms140_ok : ∀ x ∈ hmTreeForms140, HOk Try.prog x := hmemo_cons hTreeForms139_ok hmTreeForms139_ok
def hTreeForms140 : HE := ⟨67, [(eS [32,83,32,98,41,41]),(eS [32,40,41])], [], [((.val (eI 0)), [])]⟩
theorem hTreeForms140_ok : HOk Try.prog hTreeForms140 := hok_eq mmTreeForms_ok hmTreeForms140_ok folTreeForms (lf := 100000) (k := 1000) (by kernel_rfl)
def hmTreeForms141 : List HE := hTreeForms140 :: hmTreeForms140
theorem hmTreeForms141_ok : ∀ x ∈ hmTreeForms141, HOk Try.prog x := hmemo_cons hTreeForms140_ok hmTreeForms140_ok
def hTreeForms141 : HE := ⟨14, [(.agg [(.sl 0 2 0 3 none 1),(.sl 1 1 0 2 none 1),(.sl 2 3 0 4 none 2)]),(eS [40,32,83,32,98,41])], [btreeForms2, btreeForms3, btreeForms4, btreeForms5, btreeForms6, btreeForms7], [((.val (.tup [(.agg [(eI 0),(eI 0),(.lit (.slice none 0 0))]),(eI 2)])), [])]⟩
theorem hTreeForms141_ok : HOk Try.prog hTreeForms141 := hok_eq mmTreeForms_ok hmTreeForms141_ok folTreeForms (lf := 100000) (k := 1000) (by kernel_rfl)
def hmTreeForms142 : List HE := hTreeForms141 :: hmTreeForms141
theorem hmTreeForms142_ok : ∀ x ∈ hmTreeForms142, HOk Try.prog x := hmemo_cons hTreeForms141_ok hmTreeForms141_ok
def hTreeForms142 : HE := ⟨67, [(eS [83,32,32,98,41,41]),(eS [32,40,41])], [], [((.val (eI 1)), [])]⟩
theorem hTreeForms142_ok : HOk Try.prog hTreeForms142 := hok_eq mmTreeForms_ok hmTreeForms142_ok folTreeForms (lf := 100000) (k := 1000) (by kernel_rfl)
def hmTreeForms143 : List HE := hTreeForms142 :: hmTreeForms142
theorem hmTreeForms143_ok : ∀ x ∈ hmTreeForms143, HOk Try.prog x := hmemo_cons hTreeForms142_ok hmTreeForms142_ok
def hTreeForms143 : HE := ⟨67, [(eS [32,98,41,41]),(eS [32,40,41])], [], [((.val (eI 0)), [])]⟩
theorem hTreeForms143_ok : HOk Try.prog hTreeForms143 := hok_eq mmTreeForms_ok hmTreeForms143_ok folTreeForms (lf := 100000) (k := 1000) (by kernel_rfl)
def hmTreeForms144 : List HE := hTreeForms143 :: hmTreeForms143
theorem hmTreeForms144_ok : ∀ x ∈ hmTreeForms144, HOk Try.prog x := hmemo_cons hTreeForms143_ok hmTreeForms143_ok
def hTreeForms144 : HE := ⟨14, [(.agg [(.sl 0 2 0 3 none 1),(.sl 1 1 0 2 none 1),(.sl 2 3 0 4 none 2)]),(eS [40,83,32,32,98,41])], [btreeForms2, btreeForms3, btreeForms4, btreeForms5, btreeForms6, btreeForms7], [((.val (.tup [(.agg [(eI 0),(eI 0),(.lit (.slice none 0 0))]),(eI 2)])), [])]⟩
theorem hTreeForms144_ok : HOk Try.prog hTreeForms144 := hok_eq mmTreeForms_ok hmTreeForms144_ok folTreeForms (lf := 100000) (k := 1000) (by kernel_rfl)
def hmTreeForms145 : List HE := hTreeForms144 :: hmTreeForms144
theorem hmTreeForms145_ok : ∀ x ∈ hmTreeForms145, HOk Try.prog x := hmemo_cons hTreeForms144_ok hmTreeForms144_ok
def hTreeForms145 : HE := ⟨67, [(eS [83,32,98,32,98,41,41]),(eS [32,40,41])], [], [((.val (eI 1)), [])]⟩
theorem hTreeForms145_ok : HOk Try.prog hTreeForms145 := hok_eq mmTreeForms_ok hmTreeForms145_ok folTreeForms (lf := 100000) (k := 1000) (by kernel_rfl)
def hmTreeForms146 : List HE := hTreeForms145 :: hmTreeForms145
theorem hmTreeForms146_ok : ∀ x ∈ hmTreeForms146, HOk Try.prog x := hmemo_cons hTreeForms145_ok hmTreeForms145_ok
def hTreeForms146 : HE := ⟨67, [(eS [98,32,98,41,41]),(eS [32,40,41])], [], [((.val (eI 1)), [])]⟩
theorem hTreeForms146_ok : HOk Try.prog hTreeForms146 := hok_eq mmTreeForms_ok hmTreeForms146_ok folTreeForms (lf := 100000) (k := 1000) (by kernel_rfl)
def hmTreeForms147 : List HE := hTreeForms146 :: hmTreeForms146
theorem hmTreeForms147_ok : ∀ x ∈ hmTreeForms147, HOk Try.prog x := hmemo_cons hTreeForms146_ok hmTreeForms146_ok
def hTreeForms147 : HE := ⟨14, [(.agg [(.sl 0 2 0 3 none 1),(.sl 1 1 0 2 none 1),(.sl 2 3 0 4 none 2)]),(eS [40,83,32,98,32,98,41])], [btreeForms2, btreeForms3, btreeForms4, btreeForms5, btreeForms6, btreeForms7], [((.val (.tup [(.agg [(eI 0),(eI 0),(.lit (.slice none 0 0))]),(eI 2)])), [])]⟩
theorem hTreeForms147_ok : HOk Try.prog hTreeForms147 := hok_eq mmTreeForms_ok hmTreeForms147_ok folTreeForms (lf := 100000) (k := 1000) (by kernel_rfl)
def hmTreeForms148 : List HE := hTreeForms147 :: hmTreeForms147
theorem hmTreeForms148_ok : ∀ x ∈ hmTreeForms148, HOk Try.prog x := hmemo_cons hTreeForms147_ok hmTreeForms147_ok
def hTreeForms148 : HE := ⟨14, [(.agg [(.sl 0 2 0 3 none 1),(.sl 1 1 0 2 none 1),(.sl 2 3 0 4 none 2)]),(eS [40,83,32,97,41])], [btreeForms2, btreeForms3, btreeForms4, btreeForms5, btreeForms6, btreeForms7], [((.val (.tup [(.agg [(eI 0),(eI 0),(.lit (.slice none 0 0))]),(eI 2)])), [])]⟩
theorem hTreeForms148_ok : HOk Try.prog hTreeForms148 := hok_eq mmTreeForms_ok hmTreeForms148_ok folTreeForms (lf := 100000) (k := 1000) (by kernel_rfl)
def hmTreeForms149 : List HE := hTreeForms148 :: hmTreeForms148
theorem hmTreeForms149_ok : ∀ x ∈ hmTreeForms149, HOk Try.prog x := hmemo_cons hTreeForms148_ok hmTreeForms148_ok
def hTreeForms149 : HE := ⟨14, [(.agg [(.sl 0 2 0 3 none 1),(.sl 1 1 0 2 none 1),(.sl 2 3 0 4 none 2)]),(eS [40,83,41])], [btreeForms2, btreeForms3, btreeForms4, btreeForms5, btreeForms6, btreeForms7], [((.val (.tup [(.agg [(eI 0),(eI 0),(.lit (.slice none 0 0))]),(eI 2)])), [])]⟩
theorem hTreeForms149_ok : HOk Try.prog hTreeForms149 := hok_eq mmTreeForms_ok hmTreeForms149_ok folTreeForms (lf := 100000) (k := 1000) (by kernel_rfl)
def hmTreeForms150 : List HE := hTreeForms149 :: hmTreeForms149
theorem hmTreeForms150_ok : ∀ x ∈ hmTreeForms150, HOk Try.prog x := hmemo_cons hTreeForms149_ok hmTreeForms149_ok
def hTreeForms150 : HE := ⟨14, [(.agg [(.sl 0 2 0 3 none 1),(.sl 1 1 0 2 none 1),(.sl 2 3 0 4 none 2)]),(eS [40,41])], [btreeForms2, btreeForms3, btreeForms4, btreeForms5, btreeForms6, btreeForms7], [((.val (.tup [(.agg [(eI 0),(eI 0),(.lit (.slice none 0 0))]),(eI 2)])), [])]⟩
theorem hTreeForms150_ok : HOk Try.prog hTreeForms150 := hok_eq mmTreeForms_ok hmTreeForms150_ok folTreeForms (lf := 100000) (k := 1000) (by kernel_rfl)
def hmTreeForms151 : List HE := hTreeForms150 :: hmTreeForms150
theorem hmTreeForms151_ok : ∀ x ∈ hmTreeForms151, HOk Try.prog x := hmemo_cons hTreeForms150_ok hmTreeForms150_ok
def hTreeForms151 : HE := ⟨14, [(.agg [(.sl 0 2 0 3 none 1),(.sl 1 1 0 2 none 1),(.sl 2 3 0 4 none 2)]),(eS [41])], [btreeForms2, btreeForms3, btreeForms4, btreeForms5, btreeForms6, btreeForms7], [((.val (.tup [(.agg [(eI 0),(eI 0),(.lit (.slice none 0 0))]),(eI 2)])), [])]⟩
theorem hTreeForms151_ok : HOk Try.prog hTreeForms151 := hok_eq mmTreeForms_ok hmTreeForms151_ok folTreeForms (lf := 100000) (k := 1000) (by kernel_rfl)
def hmTreeForms152 : List HE := hTreeForms151 :: hmTreeForms151
theorem hmTreeForms152_ok : ∀ x ∈ hmTreeForms152, HOk Try.prog x := hmemo_cons hTreeForms151_ok hmTreeForms151_ok
def hTreeForms152 : HE := ⟨67, [(eS [41]),(eS [32,40,41])], [], [((.val (eI 0)), [])]⟩
theorem hTreeForms152_ok : HOk Try.prog hTreeForms152 := hok_eq mmTreeForms_ok hmTreeForms152_ok folTreeForms (lf := 100000) (k := 1000) (by kernel_rfl)
def hmTreeForms153 : List HE := hTreeForms152 :: hmTreeForms152
theorem hmTreeForms153_ok : ∀ x ∈ hmTreeForms153, HOk Try.prog x := hmemo_cons hTreeForms152_ok hmTreeForms152_ok
def hTreeForms153 : HE := ⟨14, [(.agg [(.sl 0 2 0 3 none 1),(.sl 1 1 0 2 none 1),(.sl 2 3 0 4 none 2)]),(eS [40])], [btreeForms2, btreeForms3, btreeForms4, btreeForms5, btreeForms6, btreeForms7], [((.val (.tup [(.agg [(eI 0),(eI 0),(.lit (.slice none 0 0))]),(eI 2)])), [])]⟩
theorem hTreeForms153_ok : HOk Try.prog hTreeForms153 := hok_eq mmTreeForms_ok hmTreeForms153_ok folTreeForms (lf := 100000) (k := 1000) (by kernel_rfl)
def hmTreeForms154 : List HE := hTreeForms153 :: hmTreeForms153
theorem hmTreeForms154_ok : ∀ x ∈ hmTreeForms154, HOk Try.prog x := hmemo_cons hTreeForms153_ok hmTreeForms153_ok
def hTreeForms154 : HE := ⟨14, [(.agg [(.sl 0 2 0 3 none 1),(.sl 1 1 0 2 none 1),(.sl 2 3 0 4 none 2)]),(eS [])], [btreeForms2, btreeForms3, btreeForms4, btreeForms5, btreeForms6, btreeForms7], [((.val (.tup [(.agg [(eI 0),(eI 0),(.lit (.slice none 0 0))]),(eI 2)])), [])]⟩
theorem hTreeForms154_ok : HOk Try.prog hTreeForms154 := hok_eq mmTreeForms_ok hmTreeForms154_ok folTreeForms (lf := 100000) (k := 1000) (by kernel_rfl)
def hmTreeForms155 : List HE := hTreeForms154 :: hmTreeForms154
theorem hmTreeForms155_ok : ∀ x ∈ hmTreeForms155, HOk Try.prog x := hmemo_cons hTreeForms154_ok hmTreeForms154_ok
def hTreeForms155 : HE := ⟨16, [(.agg [(eI 0),(eI 0),(.lit (.slice none 0 0))]),(.agg [(eI 0),(eI 0),(.lit (.slice none 0 0))])], [], [((.val eB1), [])]⟩
theorem hTreeForms155_ok : HOk Try.prog hTreeForms155 := hok_eq mmTreeForms_ok hmTreeForms155_ok folTreeForms (lf := 100000) (k := 1000) (by kernel_rfl)
def hmTreeForms156 : List HE := hTreeForms155 :: hmTreeForms155
theorem hmTreeForms156_ok : ∀ x ∈ hmTreeForms156, HOk Try.prog x := hmemo_cons hTreeForms155_ok hmTreeForms155_ok
def btreeForms32 : Blk := ⟨[(eI 1),(eS [83]),(eI 1),(eI 1),(eI 3),(eS [58]),(eI 1),(eI 2),(eI 2),(eS [97]),(eI 1),(eI 4),(eI 1),(eS [83]),(eI 1),(eI 6),(eI 4),(eS [124]),(eI 1),(eI 8),(eI 2),(eS [98]),(eI 1),(eI 10),(eI 5),(eS []),(eI 1),(eI 11)],85,[(6,28),(5,24),(4,20),(3,16),(2,12),(1,8),(0,4)],7,0,false,6,none⟩
def hTreeForms156 : HE := ⟨43, [(eS [83,58,32,97,32,83,32,124,32,98,10])], [], [((.val (.tup [(.sl 0 6 0 7 none 4),(eI 0),(eI 0)])), [btreeForms32])]⟩
theorem hTreeForms156_ok : HOk Try.prog hTreeForms156 := hok_eq mmTreeForms_ok hmTreeForms156_ok folTreeForms (lf := 100000) (k := 1000) (by kernel_rfl)
def hmTreeForms157 : List HE := hTreeForms156 :: hmTreeForms156
theorem hmTreeForms157_ok : ∀ x ∈ hmTreeForms157, HOk Try.prog x := hmemo_cons hTreeForms156_ok hmTreeForms156_ok
def btreeForms33 : Blk := ⟨[(eS [97]),(eS [98])],9,[(1,2),(0,1)],2,0,false,1,none⟩
def btreeForms34 : Blk := ⟨[(eS [83])],9,[(0,1)],1,0,false,0,none⟩
def btreeForms35 : Blk := ⟨[(eI 100),(.sl 3 1 0 2 none 1),(eI 100),(.sl 4 0 0 1 none 1)],57,[(1,4),(0,2)],2,0,false,1,none⟩
def btreeForms36 : Blk := ⟨[(eI 1),(eI 100)],3,[(1,2),(0,1)],2,0,false,1,none⟩
def hTreeForms157 : HE := ⟨21, [(eS [83,58,32,97,32,83,32,124,32,98,10])], [], [((.val (.tup [(.agg [(.sl 0 1 0 2 none 1),(.sl 1 0 0 1 none 1),(.sl 2 1 0 2 none 2)]),(eI 0),(eI 0),(eI 0)])), [btreeForms33, btreeForms34, btreeForms35, btreeForms36, btreeForms6])]⟩
theorem hTreeForms157_ok : HOk Try.prog hTreeForms157 := hok_eq mmTreeForms_ok hmTreeForms157_ok folTreeForms (lf := 100000) (k := 1000) (by kernel_rfl)
def hmTreeForms158 : List HE := hTreeForms157 :: hmTreeForms157
theorem hmTreeForms158_ok : ∀ x ∈ hmTreeForms158, HOk Try.prog x := hmemo_cons hTreeForms157_ok hmTreeForms157_ok
def hTreeForms158 : HE := ⟨67, [(eS [83,32,97,32,40,83,32,98,41,41,41]),(eS [32,40,41])], [], [((.val (eI 1)), [])]⟩
theorem hTreeForms158_ok : HOk Try.prog hTreeForms158 := hok_eq mmTreeForms_ok hmTreeForms158_ok folTreeForms (lf := 100000) (k := 1000) (by kernel_rfl)
def hmTreeForms159 : List HE := hTreeForms158 :: hmTreeForms158
theorem hmTreeForms159_ok : ∀ x ∈ hmTreeForms159, HOk Try.prog x := hmemo_cons hTreeForms158_ok hmTreeForms158_ok
def btreeForms37 : Blk := ⟨[(eI 1),(.lit (.int .i64 (Int.negSucc 0))),(.lit (.slice none 0 0)),(eI 100),(eI 1),(.sl 6 0 0 1 none 3)],33,[(1,6),(0,3)],2,0,false,1,none⟩
def hTreeForms159 : HE := ⟨14, [(.agg [(.sl 0 1 0 2 none 1),(.sl 1 0 0 1 none 1),(.sl 2 1 0 2 none 2)]),(eS [40,83,32,97,32,40,83,32,98,41,41])], [btreeForms33, btreeForms34, btreeForms35, btreeForms36, btreeForms6], [((.val (.tup [(.agg [(eI 100),(eI 0),(.sl 5 1 0 2 none 3)]),(eI 0)])), [btreeForms37, btreeForms9])]⟩
theorem hTreeForms159_ok : HOk Try.prog hTreeForms159 := hok_eq mmTreeForms_ok hmTreeForms159_ok folTreeForms (lf := 100000) (k := 1000) (by kernel_rfl)
def hmTreeForms160 : List HE := hTreeForms159 :: hmTreeForms159
theorem hmTreeForms160_ok : ∀ x ∈ hmTreeForms160, HOk Try.prog x := hmemo_cons hTreeForms159_ok hmTreeForms159_ok
def hTreeForms160 : HE := ⟨22, [(.agg [(.sl 0 1 0 2 none 1),(.sl 1 0 0 1 none 1),(.sl 2 1 0 2 none 2)]),(.agg [(eI 1),(.lit (.int .i64 (Int.negSucc 0))),(.lit (.slice none 0 0))]),(eI 1)], [btreeForms33, btreeForms34, btreeForms35, btreeForms36, btreeForms6], [((.val eB1), [])]⟩
theorem hTreeForms160_ok : HOk Try.prog hTreeForms160 := hok_eq mmTreeForms_ok hmTreeForms160_ok folTreeForms (lf := 100000) (k := 1000) (by kernel_rfl)
def hmTreeForms161 : List HE := hTreeForms160 :: hmTreeForms160
theorem hmTreeForms161_ok : ∀ x ∈ hmTreeForms161, HOk Try.prog x := hmemo_cons hTreeForms160_ok hmTreeForms160_ok
def hTreeForms161 : HE := ⟨22, [(.agg [(.sl 0 1 0 2 none 1),(.sl 1 0 0 1 none 1),(.sl 2 1 0 2 none 2)]),(.agg [(eI 2),(.lit (.int .i64 (Int.negSucc 0))),(.lit (.slice none 0 0))]),(eI 2)], [btreeForms33, btreeForms34, btreeForms35, btreeForms36, btreeForms6], [((.val eB1), [])]⟩
theorem hTreeForms161_ok : HOk Try.prog hTreeForms161 := hok_eq mmTreeForms_ok hmTreeForms161_ok folTreeForms (lf := 100000) (k := 1000) (by kernel_rfl)
def hmTreeForms162 : List HE := hTreeForms161 :: hmTreeForms161
theorem hmTreeForms162_ok : ∀ x ∈ hmTreeForms162, HOk Try.prog x := hmemo_cons hTreeForms161_ok hmTreeForms161_ok
def hTreeForms162 : HE := ⟨22, [(.agg [(.sl 0 1 0 2 none 1),(.sl 1 0 0 1 none 1),(.sl 2 1 0 2 none 2)]),(.agg [(eI 100),(eI 1),(.sl 5 0 0 1 none 3)]),(eI 100)], [btreeForms33, btreeForms34, btreeForms35, btreeForms36, btreeForms6, btreeForms9], [((.val eB1), [])]⟩
theorem hTreeForms162_ok : HOk Try.prog hTreeForms162 := hok_eq mmTreeForms_ok hmTreeForms162_ok folTreeForms (lf := 100000) (k := 1000) (by kernel_rfl)
def hmTreeForms163 : List HE := hTreeForms162 :: hmTreeForms162
theorem hmTreeForms163_ok : ∀ x ∈ hmTreeForms163, HOk Try.prog x := hmemo_cons hTreeForms162_ok hmTreeForms162_ok
def hTreeForms163 : HE := ⟨22, [(.agg [(.sl 0 1 0 2 none 1),(.sl 1 0 0 1 none 1),(.sl 2 1 0 2 none 2)]),(.agg [(eI 100),(eI 0),(.sl 5 1 0 2 none 3)]),(eI 100)], [btreeForms33, btreeForms34, btreeForms35, btreeForms36, btreeForms6, btreeForms37, btreeForms9], [((.val eB1), [])]⟩
theorem hTreeForms163_ok : HOk Try.prog hTreeForms163 := hok_eq mmTreeForms_ok hmTreeForms163_ok folTreeForms (lf := 100000) (k := 1000) (by kernel_rfl)
def hmTreeForms164 : List HE := hTreeForms163 :: hmTreeForms163
theorem hmTreeForms164_ok : ∀ x ∈ hmTreeForms164, HOk Try.prog x := hmemo_cons hTreeForms163_ok hmTreeForms163_ok
def hTreeForms164 : HE := ⟨23, [(.agg [(.sl 0 1 0 2 none 1),(.sl 1 0 0 1 none 1),(.sl 2 1 0 2 none 2)]),(.agg [(eI 100),(eI 0),(.sl 5 1 0 2 none 3)])], [btreeForms33, btreeForms34, btreeForms35, btreeForms36, btreeForms6, btreeForms37, btreeForms9], [((.val (eS [40,83,32,97,32,40,83,32,98,41,41])), [])]⟩
theorem hTreeForms164_ok : HOk Try.prog hTreeForms164 := hok_eq mmTreeForms_ok hmTreeForms164_ok folTreeForms (lf := 100000) (k := 1000) (by kernel_rfl)
def hmTreeForms165 : List HE := hTreeForms164 :: hmTreeForms164
theorem hmTreeForms165_ok : ∀ x ∈ hmTreeForms165, HOk Try.prog x := hmemo_cons hTreeForms164_ok hmTreeForms164_ok
def btreeForms38 : Blk := ⟨[(eI 1),(.lit (.int .i64 (Int.negSucc 0))),(.lit (.slice none 0 0)),(eI 100),(eI 1),(.sl 1 0 0 1 none 3)],33,[(1,6),(0,3)],2,0,false,1,none⟩
def hTreeForms165 : HE := ⟨25, [(.agg [(eI 100),(eI 0),(.sl 0 1 0 2 none 3)])], [btreeForms38, btreeForms9], [((.val (.sl 2 1 0 2 none 1)), [btreeForms16])]⟩
theorem hTreeForms165_ok : HOk Try.prog hTreeForms165 := hok_eq mmTreeForms_ok hmTreeForms165_ok folTreeForms (lf := 100000) (k := 1000) (by kernel_rfl)
def hmTreeForms166 : List HE := hTreeForms165 :: hmTreeForms165
theorem hmTreeForms166_ok : ∀ x ∈ hmTreeForms166, HOk Try.prog x := hmemo_cons hTreeForms165_ok hmTreeForms165_ok
def hTreeForms166 : HE := ⟨20, [], [], [((.val eB1), [])]⟩
theorem hTreeForms166_ok : HOk Try.prog hTreeForms166 := hok_eq mmTreeForms_ok hmTreeForms166_ok folTreeForms (lf := 100000) (k := 1000) (by kernel_rfl)
def hmTreeForms167 : List HE := hTreeForms166 :: hmTreeForms166
theorem hmTreeForms167_ok : ∀ x ∈ hmTreeForms167, HOk Try.prog x := hmemo_cons hTreeForms166_ok hmTreeForms166_ok
end Go.Proofs.Ytdmljeaigjfenaa.E
