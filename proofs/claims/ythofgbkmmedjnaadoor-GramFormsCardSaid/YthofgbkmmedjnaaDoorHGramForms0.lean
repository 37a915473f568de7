/- Calls that GramForms makes, each carried out once over the memory that it is given. -/
import Derived.Test.YthofgbkmmedjnaaDoorEWithin
import Derived.Test.YthofgbkmmedjnaaDoorESplit
import Derived.Test.YthofgbkmmedjnaaDoorProg
import Derived.KernelRfl
namespace Go.Proofs.YthofgbkmmedjnaaDoor.E
open Go Go.EV Go.RowKit Go.Proofs
set_option linter.unusedVariables false
set_option maxRecDepth 100000
abbrev eI (n : Nat) : AV := .lit (.int .i64 (Int.ofNat n))
abbrev eU (n : Nat) : AV := .lit (.int .u8 (Int.ofNat n))
abbrev eS (l : List Nat) : AV := .lit (.string (sb l))
abbrev eT (l : List Nat) : AV := .lit (.string (sb l))
abbrev eB1 : AV := .lit (.bool true)
abbrev eB0 : AV := .lit (.bool false)
def mmGramForms : Memo := [(12, [.any .i64, .lit (.int .i64 (Int.ofNat 3))], upto 3)]
theorem mmGramForms_ok : ∀ x ∈ mmGramForms, Contract Tryd.prog x := memo_cons (within_c 3 (by omega)) (memo_nil _)
theorem folGramForms : Tryd.prog.follows .mixedOrders = true := by kernel_rfl
def hmGramForms0 : List HE := []
theorem hmGramForms0_ok : ∀ x ∈ hmGramForms0, HOk Tryd.prog x := hmemo_nil _
def tgramForms1 : List Nat := [65,66,67,68,69,70,71,72,73,74,75,76,77,78,79,80,81,82,83,84,85,86,87,88,89,90,97,98,99,100,101,102,103,104,105,106,107,108,109,110,111,112,113,114,115,116,117,118,119,120,121,122,48,49,50,51,52,53,54,55,56,57]
def hGramForms0 : HE := ⟨81, [(eT tgramForms1)], [], [((.val (.tup [(.agg [eB0,eB0,eB0,eB0,eB0,eB0,eB0,eB0,eB0,eB0,eB0,eB0,eB0,eB0,eB0,eB0,eB0,eB0,eB0,eB0,eB0,eB0,eB0,eB0,eB0,eB0,eB0,eB0,eB0,eB0,eB0,eB0,eB0,eB0,eB0,eB0,eB0,eB0,eB0,eB0,eB0,eB0,eB0,eB0,eB0,eB0,eB0,eB0,eB1,eB1,eB1,eB1,eB1,eB1,eB1,eB1,eB1,eB1,eB0,eB0,eB0,eB0,eB0,eB0,eB0,eB1,eB1,eB1,eB1,eB1,eB1,eB1,eB1,eB1,eB1,eB1,eB1,eB1,eB1,eB1,eB1,eB1,eB1,eB1,eB1,eB1,eB1,eB1,eB1,eB1,eB1,eB0,eB0,eB0,eB0,eB0,eB0,eB1,eB1,eB1,eB1,eB1,eB1,eB1,eB1,eB1,eB1,eB1,eB1,eB1,eB1,eB1,eB1,eB1,eB1,eB1,eB1,eB1,eB1,eB1,eB1,eB1,eB1,eB0,eB0,eB0,eB0,eB0,eB0,eB0,eB0,eB0,eB0,eB0,eB0,eB0,eB0,eB0,eB0,eB0,eB0,eB0,eB0,eB0,eB0,eB0,eB0,eB0,eB0,eB0,eB0,eB0,eB0,eB0,eB0,eB0,eB0,eB0,eB0,eB0,eB0,eB0,eB0,eB0,eB0,eB0,eB0,eB0,eB0,eB0,eB0,eB0,eB0,eB0,eB0,eB0,eB0,eB0,eB0,eB0,eB0,eB0,eB0,eB0,eB0,eB0,eB0,eB0,eB0,eB0,eB0,eB0,eB0,eB0,eB0,eB0,eB0,eB0,eB0,eB0,eB0,eB0,eB0,eB0,eB0,eB0,eB0,eB0,eB0,eB0,eB0,eB0,eB0,eB0,eB0,eB0,eB0,eB0,eB0,eB0,eB0,eB0,eB0,eB0,eB0,eB0,eB0,eB0,eB0,eB0,eB0,eB0,eB0,eB0,eB0,eB0,eB0,eB0,eB0,eB0,eB0,eB0,eB0,eB0,eB0,eB0,eB0,eB0,eB0,eB0,eB0,eB0,eB0,eB0,eB0,eB0]),eB1])), [])]⟩
theorem hGramForms0_ok : HOk Tryd.prog hGramForms0 := hok_eq mmGramForms_ok hmGramForms0_ok folGramForms (lf := 100000) (k := 1000) (by kernel_rfl)
def hmGramForms1 : List HE := hGramForms0 :: hmGramForms0
theorem hmGramForms1_ok : ∀ x ∈ hmGramForms1, HOk Tryd.prog x := hmemo_cons hGramForms0_ok hmGramForms0_ok
def hGramForms1 : HE := ⟨77, [(eS [83,58,32,65,32,32,98,32,124,32,99])], [], [((.val (eI 1)), [])]⟩
theorem hGramForms1_ok : HOk Tryd.prog hGramForms1 := hok_eq mmGramForms_ok hmGramForms1_ok folGramForms (lf := 100000) (k := 1000) (by kernel_rfl)
def hmGramForms2 : List HE := hGramForms1 :: hmGramForms1
theorem hmGramForms2_ok : ∀ x ∈ hmGramForms2, HOk Tryd.prog x := hmemo_cons hGramForms1_ok hmGramForms1_ok
def hGramForms2 : HE := ⟨53, [(eS [83])], [], [((.val eB1), [])]⟩
theorem hGramForms2_ok : HOk Tryd.prog hGramForms2 := hok_eq mmGramForms_ok hmGramForms2_ok folGramForms (lf := 100000) (k := 1000) (by kernel_rfl)
def hmGramForms3 : List HE := hGramForms2 :: hmGramForms2
theorem hmGramForms3_ok : ∀ x ∈ hmGramForms3, HOk Tryd.prog x := hmemo_cons hGramForms2_ok hmGramForms2_ok
def hGramForms3 : HE := ⟨64, [(eS [83,58,32,65,32,32,98,32,124,32,99])], [], [((.val (.tup [(.agg [(eI 1),(eS [83]),(eI 0),(eI 0)]),(eI 1),eB1])), [])]⟩
theorem hGramForms3_ok : HOk Tryd.prog hGramForms3 := hok_eq mmGramForms_ok hmGramForms3_ok folGramForms (lf := 100000) (k := 1000) (by kernel_rfl)
def hmGramForms4 : List HE := hGramForms3 :: hmGramForms3
theorem hmGramForms4_ok : ∀ x ∈ hmGramForms4, HOk Tryd.prog x := hmemo_cons hGramForms3_ok hmGramForms3_ok
def hGramForms4 : HE := ⟨64, [(eS [58,32,65,32,32,98,32,124,32,99])], [], [((.val (.tup [(.agg [(eI 3),(eS [58]),(eI 0),(eI 0)]),(eI 1),eB1])), [])]⟩
theorem hGramForms4_ok : HOk Tryd.prog hGramForms4 := hok_eq mmGramForms_ok hmGramForms4_ok folGramForms (lf := 100000) (k := 1000) (by kernel_rfl)
def hmGramForms5 : List HE := hGramForms4 :: hmGramForms4
theorem hmGramForms5_ok : ∀ x ∈ hmGramForms5, HOk Tryd.prog x := hmemo_cons hGramForms4_ok hmGramForms4_ok
def hGramForms5 : HE := ⟨77, [(eS [65,32,32,98,32,124,32,99])], [], [((.val (eI 1)), [])]⟩
theorem hGramForms5_ok : HOk Tryd.prog hGramForms5 := hok_eq mmGramForms_ok hmGramForms5_ok folGramForms (lf := 100000) (k := 1000) (by kernel_rfl)
def hmGramForms6 : List HE := hGramForms5 :: hmGramForms5
theorem hmGramForms6_ok : ∀ x ∈ hmGramForms6, HOk Tryd.prog x := hmemo_cons hGramForms5_ok hmGramForms5_ok
def hGramForms6 : HE := ⟨53, [(eS [65])], [], [((.val eB1), [])]⟩
theorem hGramForms6_ok : HOk Tryd.prog hGramForms6 := hok_eq mmGramForms_ok hmGramForms6_ok folGramForms (lf := 100000) (k := 1000) (by kernel_rfl)
def hmGramForms7 : List HE := hGramForms6 :: hmGramForms6
theorem hmGramForms7_ok : ∀ x ∈ hmGramForms7, HOk Tryd.prog x := hmemo_cons hGramForms6_ok hmGramForms6_ok
def hGramForms7 : HE := ⟨64, [(eS [65,32,32,98,32,124,32,99])], [], [((.val (.tup [(.agg [(eI 1),(eS [65]),(eI 0),(eI 0)]),(eI 1),eB1])), [])]⟩
theorem hGramForms7_ok : HOk Tryd.prog hGramForms7 := hok_eq mmGramForms_ok hmGramForms7_ok folGramForms (lf := 100000) (k := 1000) (by kernel_rfl)
def hmGramForms8 : List HE := hGramForms7 :: hmGramForms7
theorem hmGramForms8_ok : ∀ x ∈ hmGramForms8, HOk Tryd.prog x := hmemo_cons hGramForms7_ok hmGramForms7_ok
def hGramForms8 : HE := ⟨77, [(eS [98,32,124,32,99])], [], [((.val (eI 1)), [])]⟩
theorem hGramForms8_ok : HOk Tryd.prog hGramForms8 := hok_eq mmGramForms_ok hmGramForms8_ok folGramForms (lf := 100000) (k := 1000) (by kernel_rfl)
def hmGramForms9 : List HE := hGramForms8 :: hmGramForms8
theorem hmGramForms9_ok : ∀ x ∈ hmGramForms9, HOk Tryd.prog x := hmemo_cons hGramForms8_ok hmGramForms8_ok
def hGramForms9 : HE := ⟨53, [(eS [98])], [], [((.val eB1), [])]⟩
theorem hGramForms9_ok : HOk Tryd.prog hGramForms9 := hok_eq mmGramForms_ok hmGramForms9_ok folGramForms (lf := 100000) (k := 1000) (by kernel_rfl)
def hmGramForms10 : List HE := hGramForms9 :: hmGramForms9
theorem hmGramForms10_ok : ∀ x ∈ hmGramForms10, HOk Tryd.prog x := hmemo_cons hGramForms9_ok hmGramForms9_ok
def hGramForms10 : HE := ⟨64, [(eS [98,32,124,32,99])], [], [((.val (.tup [(.agg [(eI 2),(eS [98]),(eI 0),(eI 0)]),(eI 1),eB1])), [])]⟩
theorem hGramForms10_ok : HOk Tryd.prog hGramForms10 := hok_eq mmGramForms_ok hmGramForms10_ok folGramForms (lf := 100000) (k := 1000) (by kernel_rfl)
def hmGramForms11 : List HE := hGramForms10 :: hmGramForms10
theorem hmGramForms11_ok : ∀ x ∈ hmGramForms11, HOk Tryd.prog x := hmemo_cons hGramForms10_ok hmGramForms10_ok
def hGramForms11 : HE := ⟨64, [(eS [124,32,99])], [], [((.val (.tup [(.agg [(eI 4),(eS [124]),(eI 0),(eI 0)]),(eI 1),eB1])), [])]⟩
theorem hGramForms11_ok : HOk Tryd.prog hGramForms11 := hok_eq mmGramForms_ok hmGramForms11_ok folGramForms (lf := 100000) (k := 1000) (by kernel_rfl)
def hmGramForms12 : List HE := hGramForms11 :: hmGramForms11
theorem hmGramForms12_ok : ∀ x ∈ hmGramForms12, HOk Tryd.prog x := hmemo_cons hGramForms11_ok hmGramForms11_ok
def hGramForms12 : HE := ⟨77, [(eS [99])], [], [((.val (eI 1)), [])]⟩
theorem hGramForms12_ok : HOk Tryd.prog hGramForms12 := hok_eq mmGramForms_ok hmGramForms12_ok folGramForms (lf := 100000) (k := 1000) (by kernel_rfl)
def hmGramForms13 : List HE := hGramForms12 :: hmGramForms12
theorem hmGramForms13_ok : ∀ x ∈ hmGramForms13, HOk Tryd.prog x := hmemo_cons hGramForms12_ok hmGramForms12_ok
def hGramForms13 : HE := ⟨53, [(eS [99])], [], [((.val eB1), [])]⟩
theorem hGramForms13_ok : HOk Tryd.prog hGramForms13 := hok_eq mmGramForms_ok hmGramForms13_ok folGramForms (lf := 100000) (k := 1000) (by kernel_rfl)
def hmGramForms14 : List HE := hGramForms13 :: hmGramForms13
theorem hmGramForms14_ok : ∀ x ∈ hmGramForms14, HOk Tryd.prog x := hmemo_cons hGramForms13_ok hmGramForms13_ok
def hGramForms14 : HE := ⟨64, [(eS [99])], [], [((.val (.tup [(.agg [(eI 2),(eS [99]),(eI 0),(eI 0)]),(eI 1),eB1])), [])]⟩
theorem hGramForms14_ok : HOk Tryd.prog hGramForms14 := hok_eq mmGramForms_ok hmGramForms14_ok folGramForms (lf := 100000) (k := 1000) (by kernel_rfl)
def hmGramForms15 : List HE := hGramForms14 :: hmGramForms14
theorem hmGramForms15_ok : ∀ x ∈ hmGramForms15, HOk Tryd.prog x := hmemo_cons hGramForms14_ok hmGramForms14_ok
def bgramForms1 : Blk := ⟨[(eI 1),(eS [83]),(eI 1),(eI 1),(eI 3),(eS [58]),(eI 1),(eI 2),(eI 1),(eS [65]),(eI 1),(eI 4),(eI 2),(eS [98]),(eI 1),(eI 7),(eI 4),(eS [124]),(eI 1),(eI 9),(eI 2),(eS [99]),(eI 1),(eI 11)],81,[(5,24),(4,20),(3,16),(2,12),(1,8),(0,4)],6,0,false,5,none⟩
def hGramForms15 : HE := ⟨44, [(eS [83,58,32,65,32,32,98,32,124,32,99]),(eI 1)], [], [((.val (.tup [(.sl 0 5 0 6 none 4),(eI 0)])), [bgramForms1])]⟩
theorem hGramForms15_ok : HOk Tryd.prog hGramForms15 := hok_eq mmGramForms_ok hmGramForms15_ok folGramForms (lf := 100000) (k := 1000) (by kernel_rfl)
def hmGramForms16 : List HE := hGramForms15 :: hmGramForms15
theorem hmGramForms16_ok : ∀ x ∈ hmGramForms16, HOk Tryd.prog x := hmemo_cons hGramForms15_ok hmGramForms15_ok
def hGramForms16 : HE := ⟨77, [(eS [65,58,124,97,32,32,83,32,32,97])], [], [((.val (eI 1)), [])]⟩
theorem hGramForms16_ok : HOk Tryd.prog hGramForms16 := hok_eq mmGramForms_ok hmGramForms16_ok folGramForms (lf := 100000) (k := 1000) (by kernel_rfl)
def hmGramForms17 : List HE := hGramForms16 :: hmGramForms16
theorem hmGramForms17_ok : ∀ x ∈ hmGramForms17, HOk Tryd.prog x := hmemo_cons hGramForms16_ok hmGramForms16_ok
def hGramForms17 : HE := ⟨64, [(eS [65,58,124,97,32,32,83,32,32,97])], [], [((.val (.tup [(.agg [(eI 1),(eS [65]),(eI 0),(eI 0)]),(eI 1),eB1])), [])]⟩
theorem hGramForms17_ok : HOk Tryd.prog hGramForms17 := hok_eq mmGramForms_ok hmGramForms17_ok folGramForms (lf := 100000) (k := 1000) (by kernel_rfl)
def hmGramForms18 : List HE := hGramForms17 :: hmGramForms17
theorem hmGramForms18_ok : ∀ x ∈ hmGramForms18, HOk Tryd.prog x := hmemo_cons hGramForms17_ok hmGramForms17_ok
def hGramForms18 : HE := ⟨64, [(eS [58,124,97,32,32,83,32,32,97])], [], [((.val (.tup [(.agg [(eI 3),(eS [58]),(eI 0),(eI 0)]),(eI 1),eB1])), [])]⟩
theorem hGramForms18_ok : HOk Tryd.prog hGramForms18 := hok_eq mmGramForms_ok hmGramForms18_ok folGramForms (lf := 100000) (k := 1000) (by kernel_rfl)
def hmGramForms19 : List HE := hGramForms18 :: hmGramForms18
theorem hmGramForms19_ok : ∀ x ∈ hmGramForms19, HOk Tryd.prog x := hmemo_cons hGramForms18_ok hmGramForms18_ok
def hGramForms19 : HE := ⟨64, [(eS [124,97,32,32,83,32,32,97])], [], [((.val (.tup [(.agg [(eI 4),(eS [124]),(eI 0),(eI 0)]),(eI 1),eB1])), [])]⟩
theorem hGramForms19_ok : HOk Tryd.prog hGramForms19 := hok_eq mmGramForms_ok hmGramForms19_ok folGramForms (lf := 100000) (k := 1000) (by kernel_rfl)
def hmGramForms20 : List HE := hGramForms19 :: hmGramForms19
theorem hmGramForms20_ok : ∀ x ∈ hmGramForms20, HOk Tryd.prog x := hmemo_cons hGramForms19_ok hmGramForms19_ok
def hGramForms20 : HE := ⟨77, [(eS [97,32,32,83,32,32,97])], [], [((.val (eI 1)), [])]⟩
theorem hGramForms20_ok : HOk Tryd.prog hGramForms20 := hok_eq mmGramForms_ok hmGramForms20_ok folGramForms (lf := 100000) (k := 1000) (by kernel_rfl)
def hmGramForms21 : List HE := hGramForms20 :: hmGramForms20
theorem hmGramForms21_ok : ∀ x ∈ hmGramForms21, HOk Tryd.prog x := hmemo_cons hGramForms20_ok hmGramForms20_ok
def hGramForms21 : HE := ⟨53, [(eS [97])], [], [((.val eB1), [])]⟩
theorem hGramForms21_ok : HOk Tryd.prog hGramForms21 := hok_eq mmGramForms_ok hmGramForms21_ok folGramForms (lf := 100000) (k := 1000) (by kernel_rfl)
def hmGramForms22 : List HE := hGramForms21 :: hmGramForms21
theorem hmGramForms22_ok : ∀ x ∈ hmGramForms22, HOk Tryd.prog x := hmemo_cons hGramForms21_ok hmGramForms21_ok
def hGramForms22 : HE := ⟨64, [(eS [97,32,32,83,32,32,97])], [], [((.val (.tup [(.agg [(eI 2),(eS [97]),(eI 0),(eI 0)]),(eI 1),eB1])), [])]⟩
theorem hGramForms22_ok : HOk Tryd.prog hGramForms22 := hok_eq mmGramForms_ok hmGramForms22_ok folGramForms (lf := 100000) (k := 1000) (by kernel_rfl)
def hmGramForms23 : List HE := hGramForms22 :: hmGramForms22
theorem hmGramForms23_ok : ∀ x ∈ hmGramForms23, HOk Tryd.prog x := hmemo_cons hGramForms22_ok hmGramForms22_ok
def hGramForms23 : HE := ⟨77, [(eS [83,32,32,97])], [], [((.val (eI 1)), [])]⟩
theorem hGramForms23_ok : HOk Tryd.prog hGramForms23 := hok_eq mmGramForms_ok hmGramForms23_ok folGramForms (lf := 100000) (k := 1000) (by kernel_rfl)
def hmGramForms24 : List HE := hGramForms23 :: hmGramForms23
theorem hmGramForms24_ok : ∀ x ∈ hmGramForms24, HOk Tryd.prog x := hmemo_cons hGramForms23_ok hmGramForms23_ok
def hGramForms24 : HE := ⟨64, [(eS [83,32,32,97])], [], [((.val (.tup [(.agg [(eI 1),(eS [83]),(eI 0),(eI 0)]),(eI 1),eB1])), [])]⟩
theorem hGramForms24_ok : HOk Tryd.prog hGramForms24 := hok_eq mmGramForms_ok hmGramForms24_ok folGramForms (lf := 100000) (k := 1000) (by kernel_rfl)
def hmGramForms25 : List HE := hGramForms24 :: hmGramForms24
theorem hmGramForms25_ok : ∀ x ∈ hmGramForms25, HOk Tryd.prog x := hmemo_cons hGramForms24_ok hmGramForms24_ok
def hGramForms25 : HE := ⟨77, [(eS [97])], [], [((.val (eI 1)), [])]⟩
theorem hGramForms25_ok : HOk Tryd.prog hGramForms25 := hok_eq mmGramForms_ok hmGramForms25_ok folGramForms (lf := 100000) (k := 1000) (by kernel_rfl)
def hmGramForms26 : List HE := hGramForms25 :: hmGramForms25
theorem hmGramForms26_ok : ∀ x ∈ hmGramForms26, HOk Tryd.prog x := hmemo_cons hGramForms25_ok hmGramForms25_ok
def hGramForms26 : HE := ⟨64, [(eS [97])], [], [((.val (.tup [(.agg [(eI 2),(eS [97]),(eI 0),(eI 0)]),(eI 1),eB1])), [])]⟩
theorem hGramForms26_ok : HOk Tryd.prog hGramForms26 := hok_eq mmGramForms_ok hmGramForms26_ok folGramForms (lf := 100000) (k := 1000) (by kernel_rfl)
def hmGramForms27 : List HE := hGramForms26 :: hmGramForms26
theorem hmGramForms27_ok : ∀ x ∈ hmGramForms27, HOk Tryd.prog x := hmemo_cons hGramForms26_ok hmGramForms26_ok
def bgramForms2 : Blk := ⟨[(eI 1),(eS [65]),(eI 2),(eI 3),(eI 3),(eS [58]),(eI 2),(eI 4),(eI 4),(eS [124]),(eI 2),(eI 5),(eI 2),(eS [97]),(eI 2),(eI 6),(eI 1),(eS [83]),(eI 2),(eI 9),(eI 2),(eS [97]),(eI 2),(eI 12)],81,[(5,24),(4,20),(3,16),(2,12),(1,8),(0,4)],6,0,false,5,none⟩
def hGramForms27 : HE := ⟨44, [(eS [32,32,65,58,124,97,32,32,83,32,32,97]),(eI 2)], [], [((.val (.tup [(.sl 0 5 0 6 none 4),(eI 0)])), [bgramForms2])]⟩
theorem hGramForms27_ok : HOk Tryd.prog hGramForms27 := hok_eq mmGramForms_ok hmGramForms27_ok folGramForms (lf := 100000) (k := 1000) (by kernel_rfl)
def hmGramForms28 : List HE := hGramForms27 :: hmGramForms27
theorem hmGramForms28_ok : ∀ x ∈ hmGramForms28, HOk Tryd.prog x := hmemo_cons hGramForms27_ok hmGramForms27_ok
def hGramForms28 : HE := ⟨44, [(eS []),(eI 3)], [], [((.val (.tup [(.lit (.slice none 0 0)),(eI 0)])), [])]⟩
theorem hGramForms28_ok : HOk Tryd.prog hGramForms28 := hok_eq mmGramForms_ok hmGramForms28_ok folGramForms (lf := 100000) (k := 1000) (by kernel_rfl)
def hmGramForms29 : List HE := hGramForms28 :: hmGramForms28
theorem hmGramForms29_ok : ∀ x ∈ hmGramForms29, HOk Tryd.prog x := hmemo_cons hGramForms28_ok hmGramForms28_ok
def bgramForms3 : Blk := ⟨[(eI 1),(eS [83]),(eI 1),(eI 1),(eI 3),(eS [58]),(eI 1),(eI 2),(eI 1),(eS [65]),(eI 1),(eI 4),(eI 2),(eS [98]),(eI 1),(eI 7),(eI 4),(eS [124]),(eI 1),(eI 9),(eI 2),(eS [99]),(eI 1),(eI 11),(eI 5),(eS []),(eI 1),(eI 12),(eI 1),(eS [65]),(eI 2),(eI 3),(eI 3),(eS [58]),(eI 2),(eI 4),(eI 4),(eS [124]),(eI 2),(eI 5),(eI 2),(eS [97]),(eI 2),(eI 6),(eI 1),(eS [83]),(eI 2),(eI 9),(eI 2),(eS [97]),(eI 2),(eI 12),(eI 5),(eS []),(eI 2),(eI 13),(eI 5),(eS []),(eI 3),(eI 1)],81,[(4,60),(3,56),(2,52),(1,28),(0,24)],5,0,false,4,none⟩
def tgramForms2 : List Nat := [83,58,32,65,32,32,98,32,124,32,99,10,32,32,65,58,124,97,32,32,83,32,32,97,10,10]
def hGramForms29 : HE := ⟨19, [(eT tgramForms2)], [], [((.val (.tup [(.sl 0 4 0 15 none 4),(eI 0),(eI 0),(eI 0)])), [bgramForms3])]⟩
theorem hGramForms29_ok : HOk Tryd.prog hGramForms29 := hok_eq mmGramForms_ok hmGramForms29_ok folGramForms (lf := 100000) (k := 1000) (by kernel_rfl)
def hmGramForms30 : List HE := hGramForms29 :: hmGramForms29
theorem hmGramForms30_ok : ∀ x ∈ hmGramForms30, HOk Tryd.prog x := hmemo_cons hGramForms29_ok hmGramForms29_ok
def bgramForms4 : Blk := ⟨[(.sl 2 1 0 2 none 4),(eI 1),(eS [65]),(eI 1),(eI 4),(.sl 3 0 0 1 none 4),(eI 2),(eS [99]),(eI 1),(eI 11)],91,[(1,10),(0,5)],2,0,false,1,none⟩
def bgramForms5 : Blk := ⟨[(eI 1),(eS [65]),(eI 1),(eI 4),(eI 2),(eS [98]),(eI 1),(eI 7)],81,[(1,8),(0,4)],2,0,false,1,none⟩
def bgramForms6 : Blk := ⟨[(eI 2),(eS [99]),(eI 1),(eI 11)],81,[(0,4)],1,0,false,0,none⟩
def hGramForms30 : HE := ⟨48, [(.sl 0 4 0 7 none 4)], [bgramForms3], [((.val (.agg [(eI 1),(eS [83]),(eI 1),(eI 1),(.sl 1 1 0 2 none 5)])), [bgramForms4, bgramForms5, bgramForms6])]⟩
theorem hGramForms30_ok : HOk Tryd.prog hGramForms30 := hok_eq mmGramForms_ok hmGramForms30_ok folGramForms (lf := 100000) (k := 1000) (by kernel_rfl)
def hmGramForms31 : List HE := hGramForms30 :: hmGramForms30
theorem hmGramForms31_ok : ∀ x ∈ hmGramForms31, HOk Tryd.prog x := hmemo_cons hGramForms30_ok hmGramForms30_ok
def bgramForms7 : Blk := ⟨[(.lit (.slice none 0 0)),(eI 4),(eS [124]),(eI 2),(eI 5),(.sl 2 2 0 3 none 4),(eI 2),(eS [97]),(eI 2),(eI 6)],91,[(1,10),(0,5)],2,0,false,1,none⟩
def bgramForms8 : Blk := ⟨[(eI 2),(eS [97]),(eI 2),(eI 6),(eI 1),(eS [83]),(eI 2),(eI 9),(eI 2),(eS [97]),(eI 2),(eI 12)],81,[(2,12),(1,8),(0,4)],3,0,false,2,none⟩
def hGramForms31 : HE := ⟨48, [(.sl 0 4 28 7 none 4)], [bgramForms3], [((.val (.agg [(eI 1),(eS [65]),(eI 2),(eI 3),(.sl 1 1 0 2 none 5)])), [bgramForms7, bgramForms8])]⟩
theorem hGramForms31_ok : HOk Tryd.prog hGramForms31 := hok_eq mmGramForms_ok hmGramForms31_ok folGramForms (lf := 100000) (k := 1000) (by kernel_rfl)
def hmGramForms32 : List HE := hGramForms31 :: hmGramForms31
theorem hmGramForms32_ok : ∀ x ∈ hmGramForms32, HOk Tryd.prog x := hmemo_cons hGramForms31_ok hmGramForms31_ok
def bgramForms9 : Blk := ⟨[(eI 1),(eS [83]),(eI 1),(eI 1),(.sl 2 1 0 2 none 5),(eI 1),(eS [65]),(eI 2),(eI 3),(.sl 5 1 0 2 none 5)],87,[(1,10),(0,5)],2,0,false,1,none⟩
def bgramForms10 : Blk := ⟨[(.sl 3 1 0 2 none 4),(eI 1),(eS [65]),(eI 1),(eI 4),(.sl 4 0 0 1 none 4),(eI 2),(eS [99]),(eI 1),(eI 11)],91,[(1,10),(0,5)],2,0,false,1,none⟩
def bgramForms11 : Blk := ⟨[(.lit (.slice none 0 0)),(eI 4),(eS [124]),(eI 2),(eI 5),(.sl 6 2 0 3 none 4),(eI 2),(eS [97]),(eI 2),(eI 6)],91,[(1,10),(0,5)],2,0,false,1,none⟩
def hGramForms32 : HE := ⟨22, [(.sl 0 4 0 15 none 4)], [bgramForms3], [((.val (.sl 1 1 0 2 none 5)), [bgramForms9, bgramForms10, bgramForms5, bgramForms6, bgramForms11, bgramForms8])]⟩
theorem hGramForms32_ok : HOk Tryd.prog hGramForms32 := hok_eq mmGramForms_ok hmGramForms32_ok folGramForms (lf := 100000) (k := 1000) (by kernel_rfl)
def hmGramForms33 : List HE := hGramForms32 :: hmGramForms32
theorem hmGramForms33_ok : ∀ x ∈ hmGramForms33, HOk Tryd.prog x := hmemo_cons hGramForms32_ok hmGramForms32_ok
def hGramForms33 : HE := ⟨46, [(.lit (.slice none 0 0)),(eS [83])], [], [((.val eB0), [])]⟩
theorem hGramForms33_ok : HOk Tryd.prog hGramForms33 := hok_eq mmGramForms_ok hmGramForms33_ok folGramForms (lf := 100000) (k := 1000) (by kernel_rfl)
def hmGramForms34 : List HE := hGramForms33 :: hmGramForms33
theorem hmGramForms34_ok : ∀ x ∈ hmGramForms34, HOk Tryd.prog x := hmemo_cons hGramForms33_ok hmGramForms33_ok
def bgramForms12 : Blk := ⟨[(eS [83])],9,[(0,1)],1,0,false,0,none⟩
def hGramForms34 : HE := ⟨46, [(.sl 0 0 0 1 none 1),(eS [65])], [bgramForms12], [((.val eB0), [])]⟩
theorem hGramForms34_ok : HOk Tryd.prog hGramForms34 := hok_eq mmGramForms_ok hmGramForms34_ok folGramForms (lf := 100000) (k := 1000) (by kernel_rfl)
def hmGramForms35 : List HE := hGramForms34 :: hmGramForms34
theorem hmGramForms35_ok : ∀ x ∈ hmGramForms35, HOk Tryd.prog x := hmemo_cons hGramForms34_ok hmGramForms34_ok
def bgramForms13 : Blk := ⟨[(eI 101),(eI 1)],3,[(1,2),(0,1)],2,0,false,1,none⟩
def hGramForms35 : HE := ⟨57, [(.lit (.slice none 0 0)),(.agg [(eI 100),(.sl 0 1 0 2 none 1)])], [bgramForms13], [((.val eB0), [])]⟩
theorem hGramForms35_ok : HOk Tryd.prog hGramForms35 := hok_eq mmGramForms_ok hmGramForms35_ok folGramForms (lf := 100000) (k := 1000) (by kernel_rfl)
def hmGramForms36 : List HE := hGramForms35 :: hmGramForms35
theorem hmGramForms36_ok : ∀ x ∈ hmGramForms36, HOk Tryd.prog x := hmemo_cons hGramForms35_ok hmGramForms35_ok
def bgramForms14 : Blk := ⟨[(eI 100),(.sl 1 1 0 2 none 1)],41,[(0,2)],1,0,false,0,none⟩
def bgramForms15 : Blk := ⟨[(eI 2)],3,[(0,1)],1,0,false,0,none⟩
def hGramForms36 : HE := ⟨57, [(.sl 0 0 0 1 none 2),(.agg [(eI 100),(.sl 2 0 0 1 none 1)])], [bgramForms14, bgramForms13, bgramForms15], [((.val eB0), [])]⟩
theorem hGramForms36_ok : HOk Tryd.prog hGramForms36 := hok_eq mmGramForms_ok hmGramForms36_ok folGramForms (lf := 100000) (k := 1000) (by kernel_rfl)
def hmGramForms37 : List HE := hGramForms36 :: hmGramForms36
theorem hmGramForms37_ok : ∀ x ∈ hmGramForms37, HOk Tryd.prog x := hmemo_cons hGramForms36_ok hmGramForms36_ok
def bgramForms16 : Blk := ⟨[(eI 100),(.sl 1 1 0 2 none 1),(eI 100),(.sl 2 0 0 1 none 1)],41,[(1,4),(0,2)],2,0,false,1,none⟩
def hGramForms37 : HE := ⟨57, [(.sl 0 1 0 2 none 2),(.agg [(eI 101),(.lit (.slice none 0 0))])], [bgramForms16, bgramForms13, bgramForms15], [((.val eB0), [])]⟩
theorem hGramForms37_ok : HOk Tryd.prog hGramForms37 := hok_eq mmGramForms_ok hmGramForms37_ok folGramForms (lf := 100000) (k := 1000) (by kernel_rfl)
def hmGramForms38 : List HE := hGramForms37 :: hmGramForms37
theorem hmGramForms38_ok : ∀ x ∈ hmGramForms38, HOk Tryd.prog x := hmemo_cons hGramForms37_ok hmGramForms37_ok
def bgramForms17 : Blk := ⟨[(eI 100),(.sl 1 1 0 2 none 1),(eI 100),(.sl 2 0 0 1 none 1),(eI 101),(.lit (.slice none 0 0))],41,[(2,6),(1,4),(0,2)],3,0,false,2,none⟩
def bgramForms18 : Blk := ⟨[(eI 3),(eI 100),(eI 3)],3,[(2,3),(1,2),(0,1)],3,0,false,2,none⟩
def hGramForms38 : HE := ⟨57, [(.sl 0 2 0 3 none 2),(.agg [(eI 101),(.sl 3 2 0 3 none 1)])], [bgramForms17, bgramForms13, bgramForms15, bgramForms18], [((.val eB0), [])]⟩
theorem hGramForms38_ok : HOk Tryd.prog hGramForms38 := hok_eq mmGramForms_ok hmGramForms38_ok folGramForms (lf := 100000) (k := 1000) (by kernel_rfl)
def hmGramForms39 : List HE := hGramForms38 :: hmGramForms38
theorem hmGramForms39_ok : ∀ x ∈ hmGramForms39, HOk Tryd.prog x := hmemo_cons hGramForms38_ok hmGramForms38_ok
def bgramForms19 : Blk := ⟨[(eI 1),(eS [83]),(eI 1),(eI 1),(.sl 1 1 0 2 none 5),(eI 1),(eS [65]),(eI 2),(eI 3),(.sl 4 1 0 2 none 5)],87,[(1,10),(0,5)],2,0,false,1,none⟩
def bgramForms20 : Blk := ⟨[(.lit (.slice none 0 0)),(eI 4),(eS [124]),(eI 2),(eI 5),(.sl 5 2 0 3 none 4),(eI 2),(eS [97]),(eI 2),(eI 6)],91,[(1,10),(0,5)],2,0,false,1,none⟩
def bgramForms21 : Blk := ⟨[(eS [98]),(eS [99]),(eS [97])],9,[(2,3),(1,2),(0,1)],3,0,false,2,none⟩
def bgramForms22 : Blk := ⟨[(eS [83]),(eS [65])],9,[(1,2),(0,1)],2,0,false,1,none⟩
def bgramForms23 : Blk := ⟨[(eI 100),(.sl 9 1 0 2 none 1),(eI 100),(.sl 10 0 0 1 none 1),(eI 101),(.lit (.slice none 0 0)),(eI 101),(.sl 11 2 0 3 none 1)],41,[(3,8),(2,6),(1,4),(0,2)],4,0,false,3,none⟩
def hGramForms39 : HE := ⟨21, [(.sl 0 1 0 2 none 5)], [bgramForms19, bgramForms4, bgramForms5, bgramForms6, bgramForms20, bgramForms8], [((.val (.agg [(.sl 6 2 0 3 none 1),(.sl 7 1 0 2 none 1),(.sl 8 3 0 4 none 2)])), [bgramForms21, bgramForms22, bgramForms23, bgramForms13, bgramForms15, bgramForms18])]⟩
theorem hGramForms39_ok : HOk Tryd.prog hGramForms39 := hok_eq mmGramForms_ok hmGramForms39_ok folGramForms (lf := 100000) (k := 1000) (by kernel_rfl)
def hmGramForms40 : List HE := hGramForms39 :: hmGramForms39
theorem hmGramForms40_ok : ∀ x ∈ hmGramForms40, HOk Tryd.prog x := hmemo_cons hGramForms39_ok hmGramForms39_ok
def bgramForms24 : Blk := ⟨[(eI 100),(.sl 3 1 0 2 none 1),(eI 100),(.sl 4 0 0 1 none 1),(eI 101),(.lit (.slice none 0 0)),(eI 101),(.sl 5 2 0 3 none 1)],41,[(3,8),(2,6),(1,4),(0,2)],4,0,false,3,none⟩
def hGramForms40 : HE := ⟨8, [(eT tgramForms2)], [], [((.val (.tup [(.agg [(.sl 0 2 0 3 none 1),(.sl 1 1 0 2 none 1),(.sl 2 3 0 4 none 2)]),(eI 0),(eI 0),(eI 0)])), [bgramForms21, bgramForms22, bgramForms24, bgramForms13, bgramForms15, bgramForms18])]⟩
theorem hGramForms40_ok : HOk Tryd.prog hGramForms40 := hok_eq mmGramForms_ok hmGramForms40_ok folGramForms (lf := 100000) (k := 1000) (by kernel_rfl)
def hmGramForms41 : List HE := hGramForms40 :: hmGramForms40
theorem hmGramForms41_ok : ∀ x ∈ hmGramForms41, HOk Tryd.prog x := hmemo_cons hGramForms40_ok hmGramForms40_ok
def bgramForms25 : Blk := ⟨[(eS [98]),(eS [99]),(eS [97]),(eS [83]),(eS [65])],9,[(2,5),(1,3)],3,0,false,2,none⟩
def hGramForms41 : HE := ⟨46, [(.sl 0 2 0 0 none 1),(eS [98])], [bgramForms25], [((.val eB0), [])]⟩
theorem hGramForms41_ok : HOk Tryd.prog hGramForms41 := hok_eq mmGramForms_ok hmGramForms41_ok folGramForms (lf := 100000) (k := 1000) (by kernel_rfl)
def hmGramForms42 : List HE := hGramForms41 :: hmGramForms41
theorem hmGramForms42_ok : ∀ x ∈ hmGramForms42, HOk Tryd.prog x := hmemo_cons hGramForms41_ok hmGramForms41_ok
def hGramForms42 : HE := ⟨46, [(.sl 0 2 0 1 none 1),(eS [99])], [bgramForms25], [((.val eB0), [])]⟩
theorem hGramForms42_ok : HOk Tryd.prog hGramForms42 := hok_eq mmGramForms_ok hmGramForms42_ok folGramForms (lf := 100000) (k := 1000) (by kernel_rfl)
def hmGramForms43 : List HE := hGramForms42 :: hmGramForms42
theorem hmGramForms43_ok : ∀ x ∈ hmGramForms43, HOk Tryd.prog x := hmemo_cons hGramForms42_ok hmGramForms42_ok
def hGramForms43 : HE := ⟨46, [(.sl 0 2 0 2 none 1),(eS [97])], [bgramForms25], [((.val eB0), [])]⟩
theorem hGramForms43_ok : HOk Tryd.prog hGramForms43 := hok_eq mmGramForms_ok hmGramForms43_ok folGramForms (lf := 100000) (k := 1000) (by kernel_rfl)
def hmGramForms44 : List HE := hGramForms43 :: hmGramForms43
theorem hmGramForms44_ok : ∀ x ∈ hmGramForms44, HOk Tryd.prog x := hmemo_cons hGramForms43_ok hmGramForms43_ok
def hGramForms44 : HE := ⟨46, [(.sl 0 2 0 3 none 1),(eS [83])], [bgramForms25], [((.val eB0), [])]⟩
theorem hGramForms44_ok : HOk Tryd.prog hGramForms44 := hok_eq mmGramForms_ok hmGramForms44_ok folGramForms (lf := 100000) (k := 1000) (by kernel_rfl)
def hmGramForms45 : List HE := hGramForms44 :: hmGramForms44
theorem hmGramForms45_ok : ∀ x ∈ hmGramForms45, HOk Tryd.prog x := hmemo_cons hGramForms44_ok hmGramForms44_ok
def hGramForms45 : HE := ⟨46, [(.sl 0 2 0 4 none 1),(eS [65])], [bgramForms25], [((.val eB0), [])]⟩
theorem hGramForms45_ok : HOk Tryd.prog hGramForms45 := hok_eq mmGramForms_ok hmGramForms45_ok folGramForms (lf := 100000) (k := 1000) (by kernel_rfl)
def hmGramForms46 : List HE := hGramForms45 :: hmGramForms45
theorem hmGramForms46_ok : ∀ x ∈ hmGramForms46, HOk Tryd.prog x := hmemo_cons hGramForms45_ok hmGramForms45_ok
def bgramForms26 : Blk := ⟨[(eS [98]),(eS [99]),(eS [97])],9,[(0,3)],1,0,false,0,none⟩
def bgramForms27 : Blk := ⟨[(eS [83]),(eS [65])],9,[(0,2)],1,0,false,0,none⟩
def bgramForms28 : Blk := ⟨[(eI 100),(.sl 3 0 0 2 (some 2) 1),(eI 100),(.sl 4 0 0 1 (some 1) 1),(eI 101),(.lit (.slice none 0 0)),(eI 101),(.sl 5 0 0 3 (some 3) 1)],41,[(0,8)],1,0,false,0,none⟩
def bgramForms29 : Blk := ⟨[(eI 101),(eI 1)],3,[(0,2)],1,0,false,0,none⟩
def bgramForms30 : Blk := ⟨[(eI 3),(eI 100),(eI 3)],3,[(0,3)],1,0,false,0,none⟩
def hGramForms46 : HE := ⟨33, [(.agg [(.sl 0 0 0 3 (some 3) 1),(.sl 1 0 0 2 (some 2) 1),(.sl 2 0 0 4 (some 4) 2)])], [bgramForms26, bgramForms27, bgramForms28, bgramForms29, bgramForms15, bgramForms30], [((.val eB1), [])]⟩
theorem hGramForms46_ok : HOk Tryd.prog hGramForms46 := hok_eq mmGramForms_ok hmGramForms46_ok folGramForms (lf := 100000) (k := 1000) (by kernel_rfl)
def hmGramForms47 : List HE := hGramForms46 :: hmGramForms46
theorem hmGramForms47_ok : ∀ x ∈ hmGramForms47, HOk Tryd.prog x := hmemo_cons hGramForms46_ok hmGramForms46_ok
def bgramForms31 : Blk := ⟨[(eI 100),(.sl 1 0 0 2 (some 2) 1),(eI 100),(.sl 2 0 0 1 (some 1) 1),(eI 101),(.lit (.slice none 0 0)),(eI 101),(.sl 3 0 0 3 (some 3) 1)],41,[(0,8)],1,0,false,0,none⟩
def hGramForms47 : HE := ⟨57, [(.sl 0 0 0 0 (some 4) 2),(.agg [(eI 100),(.sl 1 0 0 2 (some 2) 1)])], [bgramForms31, bgramForms29, bgramForms15, bgramForms30], [((.val eB0), [])]⟩
theorem hGramForms47_ok : HOk Tryd.prog hGramForms47 := hok_eq mmGramForms_ok hmGramForms47_ok folGramForms (lf := 100000) (k := 1000) (by kernel_rfl)
def hmGramForms48 : List HE := hGramForms47 :: hmGramForms47
theorem hmGramForms48_ok : ∀ x ∈ hmGramForms48, HOk Tryd.prog x := hmemo_cons hGramForms47_ok hmGramForms47_ok
def hGramForms48 : HE := ⟨57, [(.sl 0 0 0 1 (some 4) 2),(.agg [(eI 100),(.sl 2 0 0 1 (some 1) 1)])], [bgramForms31, bgramForms29, bgramForms15, bgramForms30], [((.val eB0), [])]⟩
theorem hGramForms48_ok : HOk Tryd.prog hGramForms48 := hok_eq mmGramForms_ok hmGramForms48_ok folGramForms (lf := 100000) (k := 1000) (by kernel_rfl)
def hmGramForms49 : List HE := hGramForms48 :: hmGramForms48
theorem hmGramForms49_ok : ∀ x ∈ hmGramForms49, HOk Tryd.prog x := hmemo_cons hGramForms48_ok hmGramForms48_ok
def hGramForms49 : HE := ⟨57, [(.sl 0 0 0 2 (some 4) 2),(.agg [(eI 101),(.lit (.slice none 0 0))])], [bgramForms31, bgramForms29, bgramForms15, bgramForms30], [((.val eB0), [])]⟩
theorem hGramForms49_ok : HOk Tryd.prog hGramForms49 := hok_eq mmGramForms_ok hmGramForms49_ok folGramForms (lf := 100000) (k := 1000) (by kernel_rfl)
def hmGramForms50 : List HE := hGramForms49 :: hmGramForms49
theorem hmGramForms50_ok : ∀ x ∈ hmGramForms50, HOk Tryd.prog x := hmemo_cons hGramForms49_ok hmGramForms49_ok
def hGramForms50 : HE := ⟨57, [(.sl 0 0 0 3 (some 4) 2),(.agg [(eI 101),(.sl 3 0 0 3 (some 3) 1)])], [bgramForms31, bgramForms29, bgramForms15, bgramForms30], [((.val eB0), [])]⟩
theorem hGramForms50_ok : HOk Tryd.prog hGramForms50 := hok_eq mmGramForms_ok hmGramForms50_ok folGramForms (lf := 100000) (k := 1000) (by kernel_rfl)
def hmGramForms51 : List HE := hGramForms50 :: hmGramForms50
theorem hmGramForms51_ok : ∀ x ∈ hmGramForms51, HOk Tryd.prog x := hmemo_cons hGramForms50_ok hmGramForms50_ok
def hGramForms51 : HE := ⟨34, [(.agg [(.sl 0 0 0 3 (some 3) 1),(.sl 1 0 0 2 (some 2) 1),(.sl 2 0 0 4 (some 4) 2)])], [bgramForms26, bgramForms27, bgramForms28, bgramForms29, bgramForms15, bgramForms30], [((.val eB1), [])]⟩
theorem hGramForms51_ok : HOk Tryd.prog hGramForms51 := hok_eq mmGramForms_ok hmGramForms51_ok folGramForms (lf := 100000) (k := 1000) (by kernel_rfl)
def hmGramForms52 : List HE := hGramForms51 :: hmGramForms51
theorem hmGramForms52_ok : ∀ x ∈ hmGramForms52, HOk Tryd.prog x := hmemo_cons hGramForms51_ok hmGramForms51_ok
def hGramForms52 : HE := ⟨14, [(.agg [(.sl 0 0 0 3 (some 3) 1),(.sl 1 0 0 2 (some 2) 1),(.sl 2 0 0 4 (some 4) 2)])], [bgramForms26, bgramForms27, bgramForms28, bgramForms29, bgramForms15, bgramForms30], [((.val (eI 0)), [])]⟩
theorem hGramForms52_ok : HOk Tryd.prog hGramForms52 := hok_eq mmGramForms_ok hmGramForms52_ok folGramForms (lf := 100000) (k := 1000) (by kernel_rfl)
def hmGramForms53 : List HE := hGramForms52 :: hmGramForms52
theorem hmGramForms53_ok : ∀ x ∈ hmGramForms53, HOk Tryd.prog x := hmemo_cons hGramForms52_ok hmGramForms52_ok
def hGramForms53 : HE := ⟨17, [(.agg [(.sl 0 0 0 3 (some 3) 1),(.sl 1 0 0 2 (some 2) 1),(.sl 2 0 0 4 (some 4) 2)]),(eI 101)], [bgramForms26, bgramForms27, bgramForms28, bgramForms29, bgramForms15, bgramForms30], [((.val (eS [65])), [])]⟩
theorem hGramForms53_ok : HOk Tryd.prog hGramForms53 := hok_eq mmGramForms_ok hmGramForms53_ok folGramForms (lf := 100000) (k := 1000) (by kernel_rfl)
def hmGramForms54 : List HE := hGramForms53 :: hmGramForms53
theorem hmGramForms54_ok : ∀ x ∈ hmGramForms54, HOk Tryd.prog x := hmemo_cons hGramForms53_ok hmGramForms53_ok
def hGramForms54 : HE := ⟨17, [(.agg [(.sl 0 0 0 3 (some 3) 1),(.sl 1 0 0 2 (some 2) 1),(.sl 2 0 0 4 (some 4) 2)]),(eI 1)], [bgramForms26, bgramForms27, bgramForms28, bgramForms29, bgramForms15, bgramForms30], [((.val (eS [98])), [])]⟩
theorem hGramForms54_ok : HOk Tryd.prog hGramForms54 := hok_eq mmGramForms_ok hmGramForms54_ok folGramForms (lf := 100000) (k := 1000) (by kernel_rfl)
def hmGramForms55 : List HE := hGramForms54 :: hmGramForms54
theorem hmGramForms55_ok : ∀ x ∈ hmGramForms55, HOk Tryd.prog x := hmemo_cons hGramForms54_ok hmGramForms54_ok
def hGramForms55 : HE := ⟨17, [(.agg [(.sl 0 0 0 3 (some 3) 1),(.sl 1 0 0 2 (some 2) 1),(.sl 2 0 0 4 (some 4) 2)]),(eI 2)], [bgramForms26, bgramForms27, bgramForms28, bgramForms29, bgramForms15, bgramForms30], [((.val (eS [99])), [])]⟩
theorem hGramForms55_ok : HOk Tryd.prog hGramForms55 := hok_eq mmGramForms_ok hmGramForms55_ok folGramForms (lf := 100000) (k := 1000) (by kernel_rfl)
def hmGramForms56 : List HE := hGramForms55 :: hmGramForms55
theorem hmGramForms56_ok : ∀ x ∈ hmGramForms56, HOk Tryd.prog x := hmemo_cons hGramForms55_ok hmGramForms55_ok
def hGramForms56 : HE := ⟨17, [(.agg [(.sl 0 0 0 3 (some 3) 1),(.sl 1 0 0 2 (some 2) 1),(.sl 2 0 0 4 (some 4) 2)]),(eI 3)], [bgramForms26, bgramForms27, bgramForms28, bgramForms29, bgramForms15, bgramForms30], [((.val (eS [97])), [])]⟩
theorem hGramForms56_ok : HOk Tryd.prog hGramForms56 := hok_eq mmGramForms_ok hmGramForms56_ok folGramForms (lf := 100000) (k := 1000) (by kernel_rfl)
def hmGramForms57 : List HE := hGramForms56 :: hmGramForms56
theorem hmGramForms57_ok : ∀ x ∈ hmGramForms57, HOk Tryd.prog x := hmemo_cons hGramForms56_ok hmGramForms56_ok
def hGramForms57 : HE := ⟨17, [(.agg [(.sl 0 0 0 3 (some 3) 1),(.sl 1 0 0 2 (some 2) 1),(.sl 2 0 0 4 (some 4) 2)]),(eI 100)], [bgramForms26, bgramForms27, bgramForms28, bgramForms29, bgramForms15, bgramForms30], [((.val (eS [83])), [])]⟩
theorem hGramForms57_ok : HOk Tryd.prog hGramForms57 := hok_eq mmGramForms_ok hmGramForms57_ok folGramForms (lf := 100000) (k := 1000) (by kernel_rfl)
def hmGramForms58 : List HE := hGramForms57 :: hmGramForms57
theorem hmGramForms58_ok : ∀ x ∈ hmGramForms58, HOk Tryd.prog x := hmemo_cons hGramForms57_ok hmGramForms57_ok
def tgramForms3 : List Nat := [83,58,32,65,32,98,32,124,32,99,10,65,58,32,124,32,97,32,83,32,97,10]
def hGramForms58 : HE := ⟨37, [(.agg [(.sl 0 0 0 3 (some 3) 1),(.sl 1 0 0 2 (some 2) 1),(.sl 2 0 0 4 (some 4) 2)])], [bgramForms26, bgramForms27, bgramForms28, bgramForms29, bgramForms15, bgramForms30], [((.val (eT tgramForms3)), [])]⟩
theorem hGramForms58_ok : HOk Tryd.prog hGramForms58 := hok_eq mmGramForms_ok hmGramForms58_ok folGramForms (lf := 100000) (k := 1000) (by kernel_rfl)
def hmGramForms59 : List HE := hGramForms58 :: hmGramForms58
theorem hmGramForms59_ok : ∀ x ∈ hmGramForms59, HOk Tryd.prog x := hmemo_cons hGramForms58_ok hmGramForms58_ok
def hGramForms59 : HE := ⟨77, [(eS [83,58,32,65,32,98,32,124,32,99])], [], [((.val (eI 1)), [])]⟩
theorem hGramForms59_ok : HOk Tryd.prog hGramForms59 := hok_eq mmGramForms_ok hmGramForms59_ok folGramForms (lf := 100000) (k := 1000) (by kernel_rfl)
def hmGramForms60 : List HE := hGramForms59 :: hmGramForms59
theorem hmGramForms60_ok : ∀ x ∈ hmGramForms60, HOk Tryd.prog x := hmemo_cons hGramForms59_ok hmGramForms59_ok
def hGramForms60 : HE := ⟨64, [(eS [83,58,32,65,32,98,32,124,32,99])], [], [((.val (.tup [(.agg [(eI 1),(eS [83]),(eI 0),(eI 0)]),(eI 1),eB1])), [])]⟩
theorem hGramForms60_ok : HOk Tryd.prog hGramForms60 := hok_eq mmGramForms_ok hmGramForms60_ok folGramForms (lf := 100000) (k := 1000) (by kernel_rfl)
def hmGramForms61 : List HE := hGramForms60 :: hmGramForms60
theorem hmGramForms61_ok : ∀ x ∈ hmGramForms61, HOk Tryd.prog x := hmemo_cons hGramForms60_ok hmGramForms60_ok
def hGramForms61 : HE := ⟨64, [(eS [58,32,65,32,98,32,124,32,99])], [], [((.val (.tup [(.agg [(eI 3),(eS [58]),(eI 0),(eI 0)]),(eI 1),eB1])), [])]⟩
theorem hGramForms61_ok : HOk Tryd.prog hGramForms61 := hok_eq mmGramForms_ok hmGramForms61_ok folGramForms (lf := 100000) (k := 1000) (by kernel_rfl)
def hmGramForms62 : List HE := hGramForms61 :: hmGramForms61
theorem hmGramForms62_ok : ∀ x ∈ hmGramForms62, HOk Tryd.prog x := hmemo_cons hGramForms61_ok hmGramForms61_ok
def hGramForms62 : HE := ⟨77, [(eS [65,32,98,32,124,32,99])], [], [((.val (eI 1)), [])]⟩
theorem hGramForms62_ok : HOk Tryd.prog hGramForms62 := hok_eq mmGramForms_ok hmGramForms62_ok folGramForms (lf := 100000) (k := 1000) (by kernel_rfl)
def hmGramForms63 : List HE := hGramForms62 :: hmGramForms62
theorem hmGramForms63_ok : ∀ x ∈ hmGramForms63, HOk Tryd.prog x := hmemo_cons hGramForms62_ok hmGramForms62_ok
def hGramForms63 : HE := ⟨64, [(eS [65,32,98,32,124,32,99])], [], [((.val (.tup [(.agg [(eI 1),(eS [65]),(eI 0),(eI 0)]),(eI 1),eB1])), [])]⟩
theorem hGramForms63_ok : HOk Tryd.prog hGramForms63 := hok_eq mmGramForms_ok hmGramForms63_ok folGramForms (lf := 100000) (k := 1000) (by kernel_rfl)
def hmGramForms64 : List HE := hGramForms63 :: hmGramForms63
theorem hmGramForms64_ok : ∀ x ∈ hmGramForms64, HOk Tryd.prog x := hmemo_cons hGramForms63_ok hmGramForms63_ok
def bgramForms32 : Blk := ⟨[(eI 1),(eS [83]),(eI 1),(eI 1),(eI 3),(eS [58]),(eI 1),(eI 2),(eI 1),(eS [65]),(eI 1),(eI 4),(eI 2),(eS [98]),(eI 1),(eI 6),(eI 4),(eS [124]),(eI 1),(eI 8),(eI 2),(eS [99]),(eI 1),(eI 10)],81,[(5,24),(4,20),(3,16),(2,12),(1,8),(0,4)],6,0,false,5,none⟩
def hGramForms64 : HE := ⟨44, [(eS [83,58,32,65,32,98,32,124,32,99]),(eI 1)], [], [((.val (.tup [(.sl 0 5 0 6 none 4),(eI 0)])), [bgramForms32])]⟩
theorem hGramForms64_ok : HOk Tryd.prog hGramForms64 := hok_eq mmGramForms_ok hmGramForms64_ok folGramForms (lf := 100000) (k := 1000) (by kernel_rfl)
def hmGramForms65 : List HE := hGramForms64 :: hmGramForms64
theorem hmGramForms65_ok : ∀ x ∈ hmGramForms65, HOk Tryd.prog x := hmemo_cons hGramForms64_ok hmGramForms64_ok
def hGramForms65 : HE := ⟨77, [(eS [65,58,32,124,32,97,32,83,32,97])], [], [((.val (eI 1)), [])]⟩
theorem hGramForms65_ok : HOk Tryd.prog hGramForms65 := hok_eq mmGramForms_ok hmGramForms65_ok folGramForms (lf := 100000) (k := 1000) (by kernel_rfl)
def hmGramForms66 : List HE := hGramForms65 :: hmGramForms65
theorem hmGramForms66_ok : ∀ x ∈ hmGramForms66, HOk Tryd.prog x := hmemo_cons hGramForms65_ok hmGramForms65_ok
def hGramForms66 : HE := ⟨64, [(eS [65,58,32,124,32,97,32,83,32,97])], [], [((.val (.tup [(.agg [(eI 1),(eS [65]),(eI 0),(eI 0)]),(eI 1),eB1])), [])]⟩
theorem hGramForms66_ok : HOk Tryd.prog hGramForms66 := hok_eq mmGramForms_ok hmGramForms66_ok folGramForms (lf := 100000) (k := 1000) (by kernel_rfl)
def hmGramForms67 : List HE := hGramForms66 :: hmGramForms66
theorem hmGramForms67_ok : ∀ x ∈ hmGramForms67, HOk Tryd.prog x := hmemo_cons hGramForms66_ok hmGramForms66_ok
def hGramForms67 : HE := ⟨64, [(eS [58,32,124,32,97,32,83,32,97])], [], [((.val (.tup [(.agg [(eI 3),(eS [58]),(eI 0),(eI 0)]),(eI 1),eB1])), [])]⟩
theorem hGramForms67_ok : HOk Tryd.prog hGramForms67 := hok_eq mmGramForms_ok hmGramForms67_ok folGramForms (lf := 100000) (k := 1000) (by kernel_rfl)
def hmGramForms68 : List HE := hGramForms67 :: hmGramForms67
theorem hmGramForms68_ok : ∀ x ∈ hmGramForms68, HOk Tryd.prog x := hmemo_cons hGramForms67_ok hmGramForms67_ok
def hGramForms68 : HE := ⟨64, [(eS [124,32,97,32,83,32,97])], [], [((.val (.tup [(.agg [(eI 4),(eS [124]),(eI 0),(eI 0)]),(eI 1),eB1])), [])]⟩
theorem hGramForms68_ok : HOk Tryd.prog hGramForms68 := hok_eq mmGramForms_ok hmGramForms68_ok folGramForms (lf := 100000) (k := 1000) (by kernel_rfl)
def hmGramForms69 : List HE := hGramForms68 :: hmGramForms68
theorem hmGramForms69_ok : ∀ x ∈ hmGramForms69, HOk Tryd.prog x := hmemo_cons hGramForms68_ok hmGramForms68_ok
def hGramForms69 : HE := ⟨77, [(eS [97,32,83,32,97])], [], [((.val (eI 1)), [])]⟩
theorem hGramForms69_ok : HOk Tryd.prog hGramForms69 := hok_eq mmGramForms_ok hmGramForms69_ok folGramForms (lf := 100000) (k := 1000) (by kernel_rfl)
def hmGramForms70 : List HE := hGramForms69 :: hmGramForms69
theorem hmGramForms70_ok : ∀ x ∈ hmGramForms70, HOk Tryd.prog x := hmemo_cons hGramForms69_ok hmGramForms69_ok
def hGramForms70 : HE := ⟨64, [(eS [97,32,83,32,97])], [], [((.val (.tup [(.agg [(eI 2),(eS [97]),(eI 0),(eI 0)]),(eI 1),eB1])), [])]⟩
theorem hGramForms70_ok : HOk Tryd.prog hGramForms70 := hok_eq mmGramForms_ok hmGramForms70_ok folGramForms (lf := 100000) (k := 1000) (by kernel_rfl)
def hmGramForms71 : List HE := hGramForms70 :: hmGramForms70
theorem hmGramForms71_ok : ∀ x ∈ hmGramForms71, HOk Tryd.prog x := hmemo_cons hGramForms70_ok hmGramForms70_ok
def hGramForms71 : HE := ⟨77, [(eS [83,32,97])], [], [((.val (eI 1)), [])]⟩
theorem hGramForms71_ok : HOk Tryd.prog hGramForms71 := hok_eq mmGramForms_ok hmGramForms71_ok folGramForms (lf := 100000) (k := 1000) (by kernel_rfl)
def hmGramForms72 : List HE := hGramForms71 :: hmGramForms71
theorem hmGramForms72_ok : ∀ x ∈ hmGramForms72, HOk Tryd.prog x := hmemo_cons hGramForms71_ok hmGramForms71_ok
def hGramForms72 : HE := ⟨64, [(eS [83,32,97])], [], [((.val (.tup [(.agg [(eI 1),(eS [83]),(eI 0),(eI 0)]),(eI 1),eB1])), [])]⟩
theorem hGramForms72_ok : HOk Tryd.prog hGramForms72 := hok_eq mmGramForms_ok hmGramForms72_ok folGramForms (lf := 100000) (k := 1000) (by kernel_rfl)
def hmGramForms73 : List HE := hGramForms72 :: hmGramForms72
theorem hmGramForms73_ok : ∀ x ∈ hmGramForms73, HOk Tryd.prog x := hmemo_cons hGramForms72_ok hmGramForms72_ok
def bgramForms33 : Blk := ⟨[(eI 1),(eS [65]),(eI 2),(eI 1),(eI 3),(eS [58]),(eI 2),(eI 2),(eI 4),(eS [124]),(eI 2),(eI 4),(eI 2),(eS [97]),(eI 2),(eI 6),(eI 1),(eS [83]),(eI 2),(eI 8),(eI 2),(eS [97]),(eI 2),(eI 10)],81,[(5,24),(4,20),(3,16),(2,12),(1,8),(0,4)],6,0,false,5,none⟩
def hGramForms73 : HE := ⟨44, [(eS [65,58,32,124,32,97,32,83,32,97]),(eI 2)], [], [((.val (.tup [(.sl 0 5 0 6 none 4),(eI 0)])), [bgramForms33])]⟩
theorem hGramForms73_ok : HOk Tryd.prog hGramForms73 := hok_eq mmGramForms_ok hmGramForms73_ok folGramForms (lf := 100000) (k := 1000) (by kernel_rfl)
def hmGramForms74 : List HE := hGramForms73 :: hmGramForms73
theorem hmGramForms74_ok : ∀ x ∈ hmGramForms74, HOk Tryd.prog x := hmemo_cons hGramForms73_ok hmGramForms73_ok
def bgramForms34 : Blk := ⟨[(eI 1),(eS [83]),(eI 1),(eI 1),(eI 3),(eS [58]),(eI 1),(eI 2),(eI 1),(eS [65]),(eI 1),(eI 4),(eI 2),(eS [98]),(eI 1),(eI 6),(eI 4),(eS [124]),(eI 1),(eI 8),(eI 2),(eS [99]),(eI 1),(eI 10),(eI 5),(eS []),(eI 1),(eI 11),(eI 1),(eS [65]),(eI 2),(eI 1),(eI 3),(eS [58]),(eI 2),(eI 2),(eI 4),(eS [124]),(eI 2),(eI 4),(eI 2),(eS [97]),(eI 2),(eI 6),(eI 1),(eS [83]),(eI 2),(eI 8),(eI 2),(eS [97]),(eI 2),(eI 10),(eI 5),(eS []),(eI 2),(eI 11)],81,[(3,56),(2,52),(1,28),(0,24)],4,0,false,3,none⟩
def hGramForms74 : HE := ⟨19, [(eT tgramForms3)], [], [((.val (.tup [(.sl 0 3 0 14 none 4),(eI 0),(eI 0),(eI 0)])), [bgramForms34])]⟩
theorem hGramForms74_ok : HOk Tryd.prog hGramForms74 := hok_eq mmGramForms_ok hmGramForms74_ok folGramForms (lf := 100000) (k := 1000) (by kernel_rfl)
def hmGramForms75 : List HE := hGramForms74 :: hmGramForms74
theorem hmGramForms75_ok : ∀ x ∈ hmGramForms75, HOk Tryd.prog x := hmemo_cons hGramForms74_ok hmGramForms74_ok
def bgramForms35 : Blk := ⟨[(.sl 2 1 0 2 none 4),(eI 1),(eS [65]),(eI 1),(eI 4),(.sl 3 0 0 1 none 4),(eI 2),(eS [99]),(eI 1),(eI 10)],91,[(1,10),(0,5)],2,0,false,1,none⟩
def bgramForms36 : Blk := ⟨[(eI 1),(eS [65]),(eI 1),(eI 4),(eI 2),(eS [98]),(eI 1),(eI 6)],81,[(1,8),(0,4)],2,0,false,1,none⟩
def bgramForms37 : Blk := ⟨[(eI 2),(eS [99]),(eI 1),(eI 10)],81,[(0,4)],1,0,false,0,none⟩
def hGramForms75 : HE := ⟨48, [(.sl 0 3 0 7 none 4)], [bgramForms34], [((.val (.agg [(eI 1),(eS [83]),(eI 1),(eI 1),(.sl 1 1 0 2 none 5)])), [bgramForms35, bgramForms36, bgramForms37])]⟩
theorem hGramForms75_ok : HOk Tryd.prog hGramForms75 := hok_eq mmGramForms_ok hmGramForms75_ok folGramForms (lf := 100000) (k := 1000) (by kernel_rfl)
def hmGramForms76 : List HE := hGramForms75 :: hmGramForms75
theorem hmGramForms76_ok : ∀ x ∈ hmGramForms76, HOk Tryd.prog x := hmemo_cons hGramForms75_ok hmGramForms75_ok
def bgramForms38 : Blk := ⟨[(.lit (.slice none 0 0)),(eI 4),(eS [124]),(eI 2),(eI 4),(.sl 2 2 0 3 none 4),(eI 2),(eS [97]),(eI 2),(eI 6)],91,[(1,10),(0,5)],2,0,false,1,none⟩
def bgramForms39 : Blk := ⟨[(eI 2),(eS [97]),(eI 2),(eI 6),(eI 1),(eS [83]),(eI 2),(eI 8),(eI 2),(eS [97]),(eI 2),(eI 10)],81,[(2,12),(1,8),(0,4)],3,0,false,2,none⟩
def hGramForms76 : HE := ⟨48, [(.sl 0 3 28 7 none 4)], [bgramForms34], [((.val (.agg [(eI 1),(eS [65]),(eI 2),(eI 1),(.sl 1 1 0 2 none 5)])), [bgramForms38, bgramForms39])]⟩
theorem hGramForms76_ok : HOk Tryd.prog hGramForms76 := hok_eq mmGramForms_ok hmGramForms76_ok folGramForms (lf := 100000) (k := 1000) (by kernel_rfl)
def hmGramForms77 : List HE := hGramForms76 :: hmGramForms76
theorem hmGramForms77_ok : ∀ x ∈ hmGramForms77, HOk Tryd.prog x := hmemo_cons hGramForms76_ok hmGramForms76_ok
def bgramForms40 : Blk := ⟨[(eI 1),(eS [83]),(eI 1),(eI 1),(.sl 2 1 0 2 none 5),(eI 1),(eS [65]),(eI 2),(eI 1),(.sl 5 1 0 2 none 5)],87,[(1,10),(0,5)],2,0,false,1,none⟩
def bgramForms41 : Blk := ⟨[(.sl 3 1 0 2 none 4),(eI 1),(eS [65]),(eI 1),(eI 4),(.sl 4 0 0 1 none 4),(eI 2),(eS [99]),(eI 1),(eI 10)],91,[(1,10),(0,5)],2,0,false,1,none⟩
def bgramForms42 : Blk := ⟨[(.lit (.slice none 0 0)),(eI 4),(eS [124]),(eI 2),(eI 4),(.sl 6 2 0 3 none 4),(eI 2),(eS [97]),(eI 2),(eI 6)],91,[(1,10),(0,5)],2,0,false,1,none⟩
def hGramForms77 : HE := ⟨22, [(.sl 0 3 0 14 none 4)], [bgramForms34], [((.val (.sl 1 1 0 2 none 5)), [bgramForms40, bgramForms41, bgramForms36, bgramForms37, bgramForms42, bgramForms39])]⟩
theorem hGramForms77_ok : HOk Tryd.prog hGramForms77 := hok_eq mmGramForms_ok hmGramForms77_ok folGramForms (lf := 100000) (k := 1000) (by kernel_rfl)
def hmGramForms78 : List HE := hGramForms77 :: hmGramForms77
theorem hmGramForms78_ok : ∀ x ∈ hmGramForms78, HOk Tryd.prog x := hmemo_cons hGramForms77_ok hmGramForms77_ok
def bgramForms43 : Blk := ⟨[(eI 1),(eS [83]),(eI 1),(eI 1),(.sl 1 1 0 2 none 5),(eI 1),(eS [65]),(eI 2),(eI 1),(.sl 4 1 0 2 none 5)],87,[(1,10),(0,5)],2,0,false,1,none⟩
def bgramForms44 : Blk := ⟨[(.lit (.slice none 0 0)),(eI 4),(eS [124]),(eI 2),(eI 4),(.sl 5 2 0 3 none 4),(eI 2),(eS [97]),(eI 2),(eI 6)],91,[(1,10),(0,5)],2,0,false,1,none⟩
def hGramForms78 : HE := ⟨21, [(.sl 0 1 0 2 none 5)], [bgramForms43, bgramForms35, bgramForms36, bgramForms37, bgramForms44, bgramForms39], [((.val (.agg [(.sl 6 2 0 3 none 1),(.sl 7 1 0 2 none 1),(.sl 8 3 0 4 none 2)])), [bgramForms21, bgramForms22, bgramForms23, bgramForms13, bgramForms15, bgramForms18])]⟩
theorem hGramForms78_ok : HOk Tryd.prog hGramForms78 := hok_eq mmGramForms_ok hmGramForms78_ok folGramForms (lf := 100000) (k := 1000) (by kernel_rfl)
def hmGramForms79 : List HE := hGramForms78 :: hmGramForms78
theorem hmGramForms79_ok : ∀ x ∈ hmGramForms79, HOk Tryd.prog x := hmemo_cons hGramForms78_ok hmGramForms78_ok
def hGramForms79 : HE := ⟨8, [(eT tgramForms3)], [], [((.val (.tup [(.agg [(.sl 0 2 0 3 none 1),(.sl 1 1 0 2 none 1),(.sl 2 3 0 4 none 2)]),(eI 0),(eI 0),(eI 0)])), [bgramForms21, bgramForms22, bgramForms24, bgramForms13, bgramForms15, bgramForms18])]⟩
theorem hGramForms79_ok : HOk Tryd.prog hGramForms79 := hok_eq mmGramForms_ok hmGramForms79_ok folGramForms (lf := 100000) (k := 1000) (by kernel_rfl)
def hmGramForms80 : List HE := hGramForms79 :: hmGramForms79
theorem hmGramForms80_ok : ∀ x ∈ hmGramForms80, HOk Tryd.prog x := hmemo_cons hGramForms79_ok hmGramForms79_ok
def bgramForms45 : Blk := ⟨[(eI 100),(.sl 9 0 0 2 (some 2) 1),(eI 100),(.sl 10 0 0 1 (some 1) 1),(eI 101),(.lit (.slice none 0 0)),(eI 101),(.sl 11 0 0 3 (some 3) 1)],41,[(0,8)],1,0,false,0,none⟩
def hGramForms80 : HE := ⟨13, [(.agg [(.sl 0 2 0 3 none 1),(.sl 1 1 0 2 none 1),(.sl 2 3 0 4 none 2)]),(.agg [(.sl 6 0 0 3 (some 3) 1),(.sl 7 0 0 2 (some 2) 1),(.sl 8 0 0 4 (some 4) 2)])], [bgramForms21, bgramForms22, bgramForms24, bgramForms13, bgramForms15, bgramForms18, bgramForms26, bgramForms27, bgramForms45, bgramForms29, bgramForms15, bgramForms30], [((.val eB1), [])]⟩
theorem hGramForms80_ok : HOk Tryd.prog hGramForms80 := hok_eq mmGramForms_ok hmGramForms80_ok folGramForms (lf := 100000) (k := 1000) (by kernel_rfl)
def hmGramForms81 : List HE := hGramForms80 :: hmGramForms80
theorem hmGramForms81_ok : ∀ x ∈ hmGramForms81, HOk Tryd.prog x := hmemo_cons hGramForms80_ok hmGramForms80_ok
def hGramForms81 : HE := ⟨15, [(.agg [(.sl 0 0 0 3 (some 3) 1),(.sl 1 0 0 2 (some 2) 1),(.sl 2 0 0 4 (some 4) 2)])], [bgramForms26, bgramForms27, bgramForms28, bgramForms29, bgramForms15, bgramForms30], [((.val (.tup [(eT tgramForms3),(eI 0)])), [])]⟩
theorem hGramForms81_ok : HOk Tryd.prog hGramForms81 := hok_eq mmGramForms_ok hmGramForms81_ok folGramForms (lf := 100000) (k := 1000) (by kernel_rfl)
def hmGramForms82 : List HE := hGramForms81 :: hmGramForms81
theorem hmGramForms82_ok : ∀ x ∈ hmGramForms82, HOk Tryd.prog x := hmemo_cons hGramForms81_ok hmGramForms81_ok
def hGramForms82 : HE := ⟨16, [(.agg [(.sl 0 0 0 3 (some 3) 1),(.sl 1 0 0 2 (some 2) 1),(.sl 2 0 0 4 (some 4) 2)]),(eS [65])], [bgramForms26, bgramForms27, bgramForms28, bgramForms29, bgramForms15, bgramForms30], [((.val (.tup [(eI 101),eB1])), [])]⟩
theorem hGramForms82_ok : HOk Tryd.prog hGramForms82 := hok_eq mmGramForms_ok hmGramForms82_ok folGramForms (lf := 100000) (k := 1000) (by kernel_rfl)
def hmGramForms83 : List HE := hGramForms82 :: hmGramForms82
theorem hmGramForms83_ok : ∀ x ∈ hmGramForms83, HOk Tryd.prog x := hmemo_cons hGramForms82_ok hmGramForms82_ok
def hGramForms83 : HE := ⟨16, [(.agg [(.sl 0 0 0 3 (some 3) 1),(.sl 1 0 0 2 (some 2) 1),(.sl 2 0 0 4 (some 4) 2)]),(eS [99])], [bgramForms26, bgramForms27, bgramForms28, bgramForms29, bgramForms15, bgramForms30], [((.val (.tup [(eI 2),eB1])), [])]⟩
theorem hGramForms83_ok : HOk Tryd.prog hGramForms83 := hok_eq mmGramForms_ok hmGramForms83_ok folGramForms (lf := 100000) (k := 1000) (by kernel_rfl)
def hmGramForms84 : List HE := hGramForms83 :: hmGramForms83
theorem hmGramForms84_ok : ∀ x ∈ hmGramForms84, HOk Tryd.prog x := hmemo_cons hGramForms83_ok hmGramForms83_ok
def hGramForms84 : HE := ⟨16, [(.agg [(.sl 0 0 0 3 (some 3) 1),(.sl 1 0 0 2 (some 2) 1),(.sl 2 0 0 4 (some 4) 2)]),(eS [66])], [bgramForms26, bgramForms27, bgramForms28, bgramForms29, bgramForms15, bgramForms30], [((.val (.tup [(eI 0),eB0])), [])]⟩
theorem hGramForms84_ok : HOk Tryd.prog hGramForms84 := hok_eq mmGramForms_ok hmGramForms84_ok folGramForms (lf := 100000) (k := 1000) (by kernel_rfl)
def hmGramForms85 : List HE := hGramForms84 :: hmGramForms84
theorem hmGramForms85_ok : ∀ x ∈ hmGramForms85, HOk Tryd.prog x := hmemo_cons hGramForms84_ok hmGramForms84_ok
def hGramForms85 : HE := ⟨17, [(.agg [(.sl 0 2 0 3 none 1),(.sl 1 1 0 2 none 1),(.sl 2 3 0 4 none 2)]),(eI 3)], [bgramForms21, bgramForms22, bgramForms24, bgramForms13, bgramForms15, bgramForms18], [((.val (eS [97])), [])]⟩
theorem hGramForms85_ok : HOk Tryd.prog hGramForms85 := hok_eq mmGramForms_ok hmGramForms85_ok folGramForms (lf := 100000) (k := 1000) (by kernel_rfl)
def hmGramForms86 : List HE := hGramForms85 :: hmGramForms85
theorem hmGramForms86_ok : ∀ x ∈ hmGramForms86, HOk Tryd.prog x := hmemo_cons hGramForms85_ok hmGramForms85_ok
def hGramForms86 : HE := ⟨17, [(.agg [(.sl 0 2 0 3 none 1),(.sl 1 1 0 2 none 1),(.sl 2 3 0 4 none 2)]),(eI 0)], [bgramForms21, bgramForms22, bgramForms24, bgramForms13, bgramForms15, bgramForms18], [((.val (eS [36])), [])]⟩
theorem hGramForms86_ok : HOk Tryd.prog hGramForms86 := hok_eq mmGramForms_ok hmGramForms86_ok folGramForms (lf := 100000) (k := 1000) (by kernel_rfl)
def hmGramForms87 : List HE := hGramForms86 :: hmGramForms86
theorem hmGramForms87_ok : ∀ x ∈ hmGramForms87, HOk Tryd.prog x := hmemo_cons hGramForms86_ok hmGramForms86_ok
def hGramForms87 : HE := ⟨17, [(.agg [(.sl 0 2 0 3 none 1),(.sl 1 1 0 2 none 1),(.sl 2 3 0 4 none 2)]),(eI 4)], [bgramForms21, bgramForms22, bgramForms24, bgramForms13, bgramForms15, bgramForms18], [((.val (eS [])), [])]⟩
theorem hGramForms87_ok : HOk Tryd.prog hGramForms87 := hok_eq mmGramForms_ok hmGramForms87_ok folGramForms (lf := 100000) (k := 1000) (by kernel_rfl)
def hmGramForms88 : List HE := hGramForms87 :: hmGramForms87
theorem hmGramForms88_ok : ∀ x ∈ hmGramForms88, HOk Tryd.prog x := hmemo_cons hGramForms87_ok hmGramForms87_ok
def hGramForms88 : HE := ⟨17, [(.agg [(.sl 0 2 0 3 none 1),(.sl 1 1 0 2 none 1),(.sl 2 3 0 4 none 2)]),(eI 102)], [bgramForms21, bgramForms22, bgramForms24, bgramForms13, bgramForms15, bgramForms18], [((.val (eS [])), [])]⟩
theorem hGramForms88_ok : HOk Tryd.prog hGramForms88 := hok_eq mmGramForms_ok hmGramForms88_ok folGramForms (lf := 100000) (k := 1000) (by kernel_rfl)
def hmGramForms89 : List HE := hGramForms88 :: hmGramForms88
theorem hmGramForms89_ok : ∀ x ∈ hmGramForms89, HOk Tryd.prog x := hmemo_cons hGramForms88_ok hmGramForms88_ok
def hGramForms89 : HE := ⟨77, [(eS [83,58,32,97,32,83,32,124,32,98])], [], [((.val (eI 1)), [])]⟩
theorem hGramForms89_ok : HOk Tryd.prog hGramForms89 := hok_eq mmGramForms_ok hmGramForms89_ok folGramForms (lf := 100000) (k := 1000) (by kernel_rfl)
def hmGramForms90 : List HE := hGramForms89 :: hmGramForms89
theorem hmGramForms90_ok : ∀ x ∈ hmGramForms90, HOk Tryd.prog x := hmemo_cons hGramForms89_ok hmGramForms89_ok
def hGramForms90 : HE := ⟨64, [(eS [83,58,32,97,32,83,32,124,32,98])], [], [((.val (.tup [(.agg [(eI 1),(eS [83]),(eI 0),(eI 0)]),(eI 1),eB1])), [])]⟩
theorem hGramForms90_ok : HOk Tryd.prog hGramForms90 := hok_eq mmGramForms_ok hmGramForms90_ok folGramForms (lf := 100000) (k := 1000) (by kernel_rfl)
def hmGramForms91 : List HE := hGramForms90 :: hmGramForms90
theorem hmGramForms91_ok : ∀ x ∈ hmGramForms91, HOk Tryd.prog x := hmemo_cons hGramForms90_ok hmGramForms90_ok
def hGramForms91 : HE := ⟨64, [(eS [58,32,97,32,83,32,124,32,98])], [], [((.val (.tup [(.agg [(eI 3),(eS [58]),(eI 0),(eI 0)]),(eI 1),eB1])), [])]⟩
theorem hGramForms91_ok : HOk Tryd.prog hGramForms91 := hok_eq mmGramForms_ok hmGramForms91_ok folGramForms (lf := 100000) (k := 1000) (by kernel_rfl)
def hmGramForms92 : List HE := hGramForms91 :: hmGramForms91
theorem hmGramForms92_ok : ∀ x ∈ hmGramForms92, HOk Tryd.prog x := hmemo_cons hGramForms91_ok hmGramForms91_ok
def hGramForms92 : HE := ⟨77, [(eS [97,32,83,32,124,32,98])], [], [((.val (eI 1)), [])]⟩
theorem hGramForms92_ok : HOk Tryd.prog hGramForms92 := hok_eq mmGramForms_ok hmGramForms92_ok folGramForms (lf := 100000) (k := 1000) (by kernel_rfl)
def hmGramForms93 : List HE := hGramForms92 :: hmGramForms92
theorem hmGramForms93_ok : ∀ x ∈ hmGramForms93, HOk Tryd.prog x := hmemo_cons hGramForms92_ok hmGramForms92_ok
def hGramForms93 : HE := ⟨64, [(eS [97,32,83,32,124,32,98])], [], [((.val (.tup [(.agg [(eI 2),(eS [97]),(eI 0),(eI 0)]),(eI 1),eB1])), [])]⟩
theorem hGramForms93_ok : HOk Tryd.prog hGramForms93 := hok_eq mmGramForms_ok hmGramForms93_ok folGramForms (lf := 100000) (k := 1000) (by kernel_rfl)
def hmGramForms94 : List HE := hGramForms93 :: hmGramForms93
theorem hmGramForms94_ok : ∀ x ∈ hmGramForms94, HOk Tryd.prog x := hmemo_cons hGramForms93_ok hmGramForms93_ok
def hGramForms94 : HE := ⟨77, [(eS [83,32,124,32,98])], [], [((.val (eI 1)), [])]⟩
theorem hGramForms94_ok : HOk Tryd.prog hGramForms94 := hok_eq mmGramForms_ok hmGramForms94_ok folGramForms (lf := 100000) (k := 1000) (by kernel_rfl)
def hmGramForms95 : List HE := hGramForms94 :: hmGramForms94
theorem hmGramForms95_ok : ∀ x ∈ hmGramForms95, HOk Tryd.prog x := hmemo_cons hGramForms94_ok hmGramForms94_ok
def hGramForms95 : HE := ⟨64, [(eS [83,32,124,32,98])], [], [((.val (.tup [(.agg [(eI 1),(eS [83]),(eI 0),(eI 0)]),(eI 1),eB1])), [])]⟩
theorem hGramForms95_ok : HOk Tryd.prog hGramForms95 := hok_eq mmGramForms_ok hmGramForms95_ok folGramForms (lf := 100000) (k := 1000) (by kernel_rfl)
def hmGramForms96 : List HE := hGramForms95 :: hmGramForms95
theorem hmGramForms96_ok : ∀ x ∈ hmGramForms96, HOk Tryd.prog x := hmemo_cons hGramForms95_ok hmGramForms95_ok
def hGramForms96 : HE := ⟨64, [(eS [124,32,98])], [], [((.val (.tup [(.agg [(eI 4),(eS [124]),(eI 0),(eI 0)]),(eI 1),eB1])), [])]⟩
theorem hGramForms96_ok : HOk Tryd.prog hGramForms96 := hok_eq mmGramForms_ok hmGramForms96_ok folGramForms (lf := 100000) (k := 1000) (by kernel_rfl)
def hmGramForms97 : List HE := hGramForms96 :: hmGramForms96
theorem hmGramForms97_ok : ∀ x ∈ hmGramForms97, HOk Tryd.prog x := hmemo_cons hGramForms96_ok hmGramForms96_ok
def hGramForms97 : HE := ⟨77, [(eS [98])], [], [((.val (eI 1)), [])]⟩
theorem hGramForms97_ok : HOk Tryd.prog hGramForms97 := hok_eq mmGramForms_ok hmGramForms97_ok folGramForms (lf := 100000) (k := 1000) (by kernel_rfl)
def hmGramForms98 : List HE := hGramForms97 :: hmGramForms97
theorem hmGramForms98_ok : ∀ x ∈ hmGramForms98, HOk Tryd.prog x := hmemo_cons hGramForms97_ok hmGramForms97_ok
def hGramForms98 : HE := ⟨64, [(eS [98])], [], [((.val (.tup [(.agg [(eI 2),(eS [98]),(eI 0),(eI 0)]),(eI 1),eB1])), [])]⟩
theorem hGramForms98_ok : HOk Tryd.prog hGramForms98 := hok_eq mmGramForms_ok hmGramForms98_ok folGramForms (lf := 100000) (k := 1000) (by kernel_rfl)
def hmGramForms99 : List HE := hGramForms98 :: hmGramForms98
theorem hmGramForms99_ok : ∀ x ∈ hmGramForms99, HOk Tryd.prog x := hmemo_cons hGramForms98_ok hmGramForms98_ok
def bgramForms46 : Blk := ⟨[(eI 1),(eS [83]),(eI 1),(eI 1),(eI 3),(eS [58]),(eI 1),(eI 2),(eI 2),(eS [97]),(eI 1),(eI 4),(eI 1),(eS [83]),(eI 1),(eI 6),(eI 4),(eS [124]),(eI 1),(eI 8),(eI 2),(eS [98]),(eI 1),(eI 10)],81,[(5,24),(4,20),(3,16),(2,12),(1,8),(0,4)],6,0,false,5,none⟩
def hGramForms99 : HE := ⟨44, [(eS [83,58,32,97,32,83,32,124,32,98]),(eI 1)], [], [((.val (.tup [(.sl 0 5 0 6 none 4),(eI 0)])), [bgramForms46])]⟩
theorem hGramForms99_ok : HOk Tryd.prog hGramForms99 := hok_eq mmGramForms_ok hmGramForms99_ok folGramForms (lf := 100000) (k := 1000) (by kernel_rfl)
def hmGramForms100 : List HE := hGramForms99 :: hmGramForms99
theorem hmGramForms100_ok : ∀ x ∈ hmGramForms100, HOk Tryd.prog x := hmemo_cons hGramForms99_ok hmGramForms99_ok
def bgramForms47 : Blk := ⟨[(eI 1),(eS [83]),(eI 1),(eI 1),(eI 3),(eS [58]),(eI 1),(eI 2),(eI 2),(eS [97]),(eI 1),(eI 4),(eI 1),(eS [83]),(eI 1),(eI 6),(eI 4),(eS [124]),(eI 1),(eI 8),(eI 2),(eS [98]),(eI 1),(eI 10),(eI 5),(eS []),(eI 1),(eI 11)],81,[(1,28),(0,24)],2,0,false,1,none⟩
def hGramForms100 : HE := ⟨19, [(eS [83,58,32,97,32,83,32,124,32,98])], [], [((.val (.tup [(.sl 0 1 0 7 none 4),(eI 0),(eI 0),(eI 0)])), [bgramForms47])]⟩
theorem hGramForms100_ok : HOk Tryd.prog hGramForms100 := hok_eq mmGramForms_ok hmGramForms100_ok folGramForms (lf := 100000) (k := 1000) (by kernel_rfl)
def hmGramForms101 : List HE := hGramForms100 :: hmGramForms100
theorem hmGramForms101_ok : ∀ x ∈ hmGramForms101, HOk Tryd.prog x := hmemo_cons hGramForms100_ok hmGramForms100_ok
def bgramForms48 : Blk := ⟨[(.sl 2 1 0 2 none 4),(eI 2),(eS [97]),(eI 1),(eI 4),(.sl 3 0 0 1 none 4),(eI 2),(eS [98]),(eI 1),(eI 10)],91,[(1,10),(0,5)],2,0,false,1,none⟩
def bgramForms49 : Blk := ⟨[(eI 2),(eS [97]),(eI 1),(eI 4),(eI 1),(eS [83]),(eI 1),(eI 6)],81,[(1,8),(0,4)],2,0,false,1,none⟩
def bgramForms50 : Blk := ⟨[(eI 2),(eS [98]),(eI 1),(eI 10)],81,[(0,4)],1,0,false,0,none⟩
def hGramForms101 : HE := ⟨48, [(.sl 0 1 0 7 none 4)], [bgramForms47], [((.val (.agg [(eI 1),(eS [83]),(eI 1),(eI 1),(.sl 1 1 0 2 none 5)])), [bgramForms48, bgramForms49, bgramForms50])]⟩
theorem hGramForms101_ok : HOk Tryd.prog hGramForms101 := hok_eq mmGramForms_ok hmGramForms101_ok folGramForms (lf := 100000) (k := 1000) (by kernel_rfl)
def hmGramForms102 : List HE := hGramForms101 :: hmGramForms101
theorem hmGramForms102_ok : ∀ x ∈ hmGramForms102, HOk Tryd.prog x := hmemo_cons hGramForms101_ok hmGramForms101_ok
def bgramForms51 : Blk := ⟨[(eI 1),(eS [83]),(eI 1),(eI 1),(.sl 2 1 0 2 none 5)],87,[(0,5)],1,0,false,0,none⟩
def bgramForms52 : Blk := ⟨[(.sl 3 1 0 2 none 4),(eI 2),(eS [97]),(eI 1),(eI 4),(.sl 4 0 0 1 none 4),(eI 2),(eS [98]),(eI 1),(eI 10)],91,[(1,10),(0,5)],2,0,false,1,none⟩
def hGramForms102 : HE := ⟨22, [(.sl 0 1 0 7 none 4)], [bgramForms47], [((.val (.sl 1 0 0 1 none 5)), [bgramForms51, bgramForms52, bgramForms49, bgramForms50])]⟩
theorem hGramForms102_ok : HOk Tryd.prog hGramForms102 := hok_eq mmGramForms_ok hmGramForms102_ok folGramForms (lf := 100000) (k := 1000) (by kernel_rfl)
def hmGramForms103 : List HE := hGramForms102 :: hmGramForms102
theorem hmGramForms103_ok : ∀ x ∈ hmGramForms103, HOk Tryd.prog x := hmemo_cons hGramForms102_ok hmGramForms102_ok
def bgramForms53 : Blk := ⟨[(eI 1),(eI 100)],3,[(1,2),(0,1)],2,0,false,1,none⟩
def hGramForms103 : HE := ⟨57, [(.lit (.slice none 0 0)),(.agg [(eI 100),(.sl 0 1 0 2 none 1)])], [bgramForms53], [((.val eB0), [])]⟩
theorem hGramForms103_ok : HOk Tryd.prog hGramForms103 := hok_eq mmGramForms_ok hmGramForms103_ok folGramForms (lf := 100000) (k := 1000) (by kernel_rfl)
def hmGramForms104 : List HE := hGramForms103 :: hmGramForms103
theorem hmGramForms104_ok : ∀ x ∈ hmGramForms104, HOk Tryd.prog x := hmemo_cons hGramForms103_ok hmGramForms103_ok
def hGramForms104 : HE := ⟨57, [(.sl 0 0 0 1 none 2),(.agg [(eI 100),(.sl 2 0 0 1 none 1)])], [bgramForms14, bgramForms53, bgramForms15], [((.val eB0), [])]⟩
theorem hGramForms104_ok : HOk Tryd.prog hGramForms104 := hok_eq mmGramForms_ok hmGramForms104_ok folGramForms (lf := 100000) (k := 1000) (by kernel_rfl)
def hmGramForms105 : List HE := hGramForms104 :: hmGramForms104
theorem hmGramForms105_ok : ∀ x ∈ hmGramForms105, HOk Tryd.prog x := hmemo_cons hGramForms104_ok hmGramForms104_ok
def bgramForms54 : Blk := ⟨[(eI 1),(eS [83]),(eI 1),(eI 1),(.sl 1 1 0 2 none 5)],87,[(0,5)],1,0,false,0,none⟩
def bgramForms55 : Blk := ⟨[(eS [97]),(eS [98])],9,[(1,2),(0,1)],2,0,false,1,none⟩
def bgramForms56 : Blk := ⟨[(eI 100),(.sl 7 1 0 2 none 1),(eI 100),(.sl 8 0 0 1 none 1)],41,[(1,4),(0,2)],2,0,false,1,none⟩
def hGramForms105 : HE := ⟨21, [(.sl 0 0 0 1 none 5)], [bgramForms54, bgramForms48, bgramForms49, bgramForms50], [((.val (.agg [(.sl 4 1 0 2 none 1),(.sl 5 0 0 1 none 1),(.sl 6 1 0 2 none 2)])), [bgramForms55, bgramForms12, bgramForms56, bgramForms53, bgramForms15])]⟩
theorem hGramForms105_ok : HOk Tryd.prog hGramForms105 := hok_eq mmGramForms_ok hmGramForms105_ok folGramForms (lf := 100000) (k := 1000) (by kernel_rfl)
def hmGramForms106 : List HE := hGramForms105 :: hmGramForms105
theorem hmGramForms106_ok : ∀ x ∈ hmGramForms106, HOk Tryd.prog x := hmemo_cons hGramForms105_ok hmGramForms105_ok
def bgramForms57 : Blk := ⟨[(eI 100),(.sl 3 1 0 2 none 1),(eI 100),(.sl 4 0 0 1 none 1)],41,[(1,4),(0,2)],2,0,false,1,none⟩
def hGramForms106 : HE := ⟨8, [(eS [83,58,32,97,32,83,32,124,32,98])], [], [((.val (.tup [(.agg [(.sl 0 1 0 2 none 1),(.sl 1 0 0 1 none 1),(.sl 2 1 0 2 none 2)]),(eI 0),(eI 0),(eI 0)])), [bgramForms55, bgramForms12, bgramForms57, bgramForms53, bgramForms15])]⟩
theorem hGramForms106_ok : HOk Tryd.prog hGramForms106 := hok_eq mmGramForms_ok hmGramForms106_ok folGramForms (lf := 100000) (k := 1000) (by kernel_rfl)
def hmGramForms107 : List HE := hGramForms106 :: hmGramForms106
theorem hmGramForms107_ok : ∀ x ∈ hmGramForms107, HOk Tryd.prog x := hmemo_cons hGramForms106_ok hmGramForms106_ok
def hGramForms107 : HE := ⟨11, [], [], [((.val eB1), [])]⟩
theorem hGramForms107_ok : HOk Tryd.prog hGramForms107 := hok_eq mmGramForms_ok hmGramForms107_ok folGramForms (lf := 100000) (k := 1000) (by kernel_rfl)
def hmGramForms108 : List HE := hGramForms107 :: hmGramForms107
theorem hmGramForms108_ok : ∀ x ∈ hmGramForms108, HOk Tryd.prog x := hmemo_cons hGramForms107_ok hmGramForms107_ok
def hGramForms108 : HE := ⟨44, [(eS [35,32,111,110,101]),(eI 1)], [], [((.val (.tup [(.lit (.slice none 0 0)),(eI 0)])), [])]⟩
theorem hGramForms108_ok : HOk Tryd.prog hGramForms108 := hok_eq mmGramForms_ok hmGramForms108_ok folGramForms (lf := 100000) (k := 1000) (by kernel_rfl)
def hmGramForms109 : List HE := hGramForms108 :: hmGramForms108
theorem hmGramForms109_ok : ∀ x ∈ hmGramForms109, HOk Tryd.prog x := hmemo_cons hGramForms108_ok hmGramForms108_ok
def hGramForms109 : HE := ⟨77, [(eS [83,32,32,58,65,32,98,124,99])], [], [((.val (eI 1)), [])]⟩
theorem hGramForms109_ok : HOk Tryd.prog hGramForms109 := hok_eq mmGramForms_ok hmGramForms109_ok folGramForms (lf := 100000) (k := 1000) (by kernel_rfl)
def hmGramForms110 : List HE := hGramForms109 :: hmGramForms109
theorem hmGramForms110_ok : ∀ x ∈ hmGramForms110, HOk Tryd.prog x := hmemo_cons hGramForms109_ok hmGramForms109_ok
def hGramForms110 : HE := ⟨64, [(eS [83,32,32,58,65,32,98,124,99])], [], [((.val (.tup [(.agg [(eI 1),(eS [83]),(eI 0),(eI 0)]),(eI 1),eB1])), [])]⟩
theorem hGramForms110_ok : HOk Tryd.prog hGramForms110 := hok_eq mmGramForms_ok hmGramForms110_ok folGramForms (lf := 100000) (k := 1000) (by kernel_rfl)
def hmGramForms111 : List HE := hGramForms110 :: hmGramForms110
theorem hmGramForms111_ok : ∀ x ∈ hmGramForms111, HOk Tryd.prog x := hmemo_cons hGramForms110_ok hmGramForms110_ok
def hGramForms111 : HE := ⟨64, [(eS [58,65,32,98,124,99])], [], [((.val (.tup [(.agg [(eI 3),(eS [58]),(eI 0),(eI 0)]),(eI 1),eB1])), [])]⟩
theorem hGramForms111_ok : HOk Tryd.prog hGramForms111 := hok_eq mmGramForms_ok hmGramForms111_ok folGramForms (lf := 100000) (k := 1000) (by kernel_rfl)
def hmGramForms112 : List HE := hGramForms111 :: hmGramForms111
theorem hmGramForms112_ok : ∀ x ∈ hmGramForms112, HOk Tryd.prog x := hmemo_cons hGramForms111_ok hmGramForms111_ok
def hGramForms112 : HE := ⟨77, [(eS [65,32,98,124,99])], [], [((.val (eI 1)), [])]⟩
theorem hGramForms112_ok : HOk Tryd.prog hGramForms112 := hok_eq mmGramForms_ok hmGramForms112_ok folGramForms (lf := 100000) (k := 1000) (by kernel_rfl)
def hmGramForms113 : List HE := hGramForms112 :: hmGramForms112
theorem hmGramForms113_ok : ∀ x ∈ hmGramForms113, HOk Tryd.prog x := hmemo_cons hGramForms112_ok hmGramForms112_ok
def hGramForms113 : HE := ⟨64, [(eS [65,32,98,124,99])], [], [((.val (.tup [(.agg [(eI 1),(eS [65]),(eI 0),(eI 0)]),(eI 1),eB1])), [])]⟩
theorem hGramForms113_ok : HOk Tryd.prog hGramForms113 := hok_eq mmGramForms_ok hmGramForms113_ok folGramForms (lf := 100000) (k := 1000) (by kernel_rfl)
def hmGramForms114 : List HE := hGramForms113 :: hmGramForms113
theorem hmGramForms114_ok : ∀ x ∈ hmGramForms114, HOk Tryd.prog x := hmemo_cons hGramForms113_ok hmGramForms113_ok
def hGramForms114 : HE := ⟨77, [(eS [98,124,99])], [], [((.val (eI 1)), [])]⟩
theorem hGramForms114_ok : HOk Tryd.prog hGramForms114 := hok_eq mmGramForms_ok hmGramForms114_ok folGramForms (lf := 100000) (k := 1000) (by kernel_rfl)
def hmGramForms115 : List HE := hGramForms114 :: hmGramForms114
theorem hmGramForms115_ok : ∀ x ∈ hmGramForms115, HOk Tryd.prog x := hmemo_cons hGramForms114_ok hmGramForms114_ok
def hGramForms115 : HE := ⟨64, [(eS [98,124,99])], [], [((.val (.tup [(.agg [(eI 2),(eS [98]),(eI 0),(eI 0)]),(eI 1),eB1])), [])]⟩
theorem hGramForms115_ok : HOk Tryd.prog hGramForms115 := hok_eq mmGramForms_ok hmGramForms115_ok folGramForms (lf := 100000) (k := 1000) (by kernel_rfl)
def hmGramForms116 : List HE := hGramForms115 :: hmGramForms115
theorem hmGramForms116_ok : ∀ x ∈ hmGramForms116, HOk Tryd.prog x := hmemo_cons hGramForms115_ok hmGramForms115_ok
def hGramForms116 : HE := ⟨64, [(eS [124,99])], [], [((.val (.tup [(.agg [(eI 4),(eS [124]),(eI 0),(eI 0)]),(eI 1),eB1])), [])]⟩
theorem hGramForms116_ok : HOk Tryd.prog hGramForms116 := hok_eq mmGramForms_ok hmGramForms116_ok folGramForms (lf := 100000) (k := 1000) (by kernel_rfl)
def hmGramForms117 : List HE := hGramForms116 :: hmGramForms116
theorem hmGramForms117_ok : ∀ x ∈ hmGramForms117, HOk Tryd.prog x := hmemo_cons hGramForms116_ok hmGramForms116_ok
def bgramForms58 : Blk := ⟨[(eI 1),(eS [83]),(eI 2),(eI 1),(eI 3),(eS [58]),(eI 2),(eI 4),(eI 1),(eS [65]),(eI 2),(eI 5),(eI 2),(eS [98]),(eI 2),(eI 7),(eI 4),(eS [124]),(eI 2),(eI 8),(eI 2),(eS [99]),(eI 2),(eI 9)],81,[(5,24),(4,20),(3,16),(2,12),(1,8),(0,4)],6,0,false,5,none⟩
def hGramForms117 : HE := ⟨44, [(eS [83,32,32,58,65,32,98,124,99,35]),(eI 2)], [], [((.val (.tup [(.sl 0 5 0 6 none 4),(eI 0)])), [bgramForms58])]⟩
theorem hGramForms117_ok : HOk Tryd.prog hGramForms117 := hok_eq mmGramForms_ok hmGramForms117_ok folGramForms (lf := 100000) (k := 1000) (by kernel_rfl)
def hmGramForms118 : List HE := hGramForms117 :: hmGramForms117
theorem hmGramForms118_ok : ∀ x ∈ hmGramForms118, HOk Tryd.prog x := hmemo_cons hGramForms117_ok hmGramForms117_ok
def hGramForms118 : HE := ⟨77, [(eS [65,58,124,97,32,83,32,97])], [], [((.val (eI 1)), [])]⟩
theorem hGramForms118_ok : HOk Tryd.prog hGramForms118 := hok_eq mmGramForms_ok hmGramForms118_ok folGramForms (lf := 100000) (k := 1000) (by kernel_rfl)
def hmGramForms119 : List HE := hGramForms118 :: hmGramForms118
theorem hmGramForms119_ok : ∀ x ∈ hmGramForms119, HOk Tryd.prog x := hmemo_cons hGramForms118_ok hmGramForms118_ok
def hGramForms119 : HE := ⟨64, [(eS [65,58,124,97,32,83,32,97])], [], [((.val (.tup [(.agg [(eI 1),(eS [65]),(eI 0),(eI 0)]),(eI 1),eB1])), [])]⟩
theorem hGramForms119_ok : HOk Tryd.prog hGramForms119 := hok_eq mmGramForms_ok hmGramForms119_ok folGramForms (lf := 100000) (k := 1000) (by kernel_rfl)
def hmGramForms120 : List HE := hGramForms119 :: hmGramForms119
theorem hmGramForms120_ok : ∀ x ∈ hmGramForms120, HOk Tryd.prog x := hmemo_cons hGramForms119_ok hmGramForms119_ok
def hGramForms120 : HE := ⟨64, [(eS [58,124,97,32,83,32,97])], [], [((.val (.tup [(.agg [(eI 3),(eS [58]),(eI 0),(eI 0)]),(eI 1),eB1])), [])]⟩
theorem hGramForms120_ok : HOk Tryd.prog hGramForms120 := hok_eq mmGramForms_ok hmGramForms120_ok folGramForms (lf := 100000) (k := 1000) (by kernel_rfl)
def hmGramForms121 : List HE := hGramForms120 :: hmGramForms120
theorem hmGramForms121_ok : ∀ x ∈ hmGramForms121, HOk Tryd.prog x := hmemo_cons hGramForms120_ok hmGramForms120_ok
def hGramForms121 : HE := ⟨64, [(eS [124,97,32,83,32,97])], [], [((.val (.tup [(.agg [(eI 4),(eS [124]),(eI 0),(eI 0)]),(eI 1),eB1])), [])]⟩
theorem hGramForms121_ok : HOk Tryd.prog hGramForms121 := hok_eq mmGramForms_ok hmGramForms121_ok folGramForms (lf := 100000) (k := 1000) (by kernel_rfl)
def hmGramForms122 : List HE := hGramForms121 :: hmGramForms121
theorem hmGramForms122_ok : ∀ x ∈ hmGramForms122, HOk Tryd.prog x := hmemo_cons hGramForms121_ok hmGramForms121_ok
def bgramForms59 : Blk := ⟨[(eI 1),(eS [65]),(eI 4),(eI 1),(eI 3),(eS [58]),(eI 4),(eI 2),(eI 4),(eS [124]),(eI 4),(eI 3),(eI 2),(eS [97]),(eI 4),(eI 4),(eI 1),(eS [83]),(eI 4),(eI 6),(eI 2),(eS [97]),(eI 4),(eI 8)],81,[(5,24),(4,20),(3,16),(2,12),(1,8),(0,4)],6,0,false,5,none⟩
def hGramForms122 : HE := ⟨44, [(eS [65,58,124,97,32,83,32,97]),(eI 4)], [], [((.val (.tup [(.sl 0 5 0 6 none 4),(eI 0)])), [bgramForms59])]⟩
theorem hGramForms122_ok : HOk Tryd.prog hGramForms122 := hok_eq mmGramForms_ok hmGramForms122_ok folGramForms (lf := 100000) (k := 1000) (by kernel_rfl)
def hmGramForms123 : List HE := hGramForms122 :: hmGramForms122
theorem hmGramForms123_ok : ∀ x ∈ hmGramForms123, HOk Tryd.prog x := hmemo_cons hGramForms122_ok hmGramForms122_ok
def bgramForms60 : Blk := ⟨[(eI 5),(eS []),(eI 1),(eI 6),(eI 1),(eS [83]),(eI 2),(eI 1),(eI 3),(eS [58]),(eI 2),(eI 4),(eI 1),(eS [65]),(eI 2),(eI 5),(eI 2),(eS [98]),(eI 2),(eI 7),(eI 4),(eS [124]),(eI 2),(eI 8),(eI 2),(eS [99]),(eI 2),(eI 9),(eI 5),(eS []),(eI 2),(eI 11),(eI 5),(eS []),(eI 3),(eI 1),(eI 1),(eS [65]),(eI 4),(eI 1),(eI 3),(eS [58]),(eI 4),(eI 2),(eI 4),(eS [124]),(eI 4),(eI 3),(eI 2),(eS [97]),(eI 4),(eI 4),(eI 1),(eS [83]),(eI 4),(eI 6),(eI 2),(eS [97]),(eI 4),(eI 8),(eI 5),(eS []),(eI 4),(eI 9)],81,[(5,64),(4,60),(3,36),(2,32),(1,28),(0,4)],6,0,false,5,none⟩
def tgramForms4 : List Nat := [35,32,111,110,101,10,83,32,32,58,65,32,98,124,99,35,10,10,65,58,124,97,32,83,32,97]
def hGramForms123 : HE := ⟨19, [(eT tgramForms4)], [], [((.val (.tup [(.sl 0 5 0 16 none 4),(eI 0),(eI 0),(eI 0)])), [bgramForms60])]⟩
theorem hGramForms123_ok : HOk Tryd.prog hGramForms123 := hok_eq mmGramForms_ok hmGramForms123_ok folGramForms (lf := 100000) (k := 1000) (by kernel_rfl)
def hmGramForms124 : List HE := hGramForms123 :: hmGramForms123
theorem hmGramForms124_ok : ∀ x ∈ hmGramForms124, HOk Tryd.prog x := hmemo_cons hGramForms123_ok hmGramForms123_ok
def bgramForms61 : Blk := ⟨[(.sl 2 1 0 2 none 4),(eI 1),(eS [65]),(eI 2),(eI 5),(.sl 3 0 0 1 none 4),(eI 2),(eS [99]),(eI 2),(eI 9)],91,[(1,10),(0,5)],2,0,false,1,none⟩
def bgramForms62 : Blk := ⟨[(eI 1),(eS [65]),(eI 2),(eI 5),(eI 2),(eS [98]),(eI 2),(eI 7)],81,[(1,8),(0,4)],2,0,false,1,none⟩
def bgramForms63 : Blk := ⟨[(eI 2),(eS [99]),(eI 2),(eI 9)],81,[(0,4)],1,0,false,0,none⟩
def hGramForms124 : HE := ⟨48, [(.sl 0 5 4 7 none 4)], [bgramForms60], [((.val (.agg [(eI 1),(eS [83]),(eI 2),(eI 1),(.sl 1 1 0 2 none 5)])), [bgramForms61, bgramForms62, bgramForms63])]⟩
theorem hGramForms124_ok : HOk Tryd.prog hGramForms124 := hok_eq mmGramForms_ok hmGramForms124_ok folGramForms (lf := 100000) (k := 1000) (by kernel_rfl)
def hmGramForms125 : List HE := hGramForms124 :: hmGramForms124
theorem hmGramForms125_ok : ∀ x ∈ hmGramForms125, HOk Tryd.prog x := hmemo_cons hGramForms124_ok hmGramForms124_ok
def bgramForms64 : Blk := ⟨[(.lit (.slice none 0 0)),(eI 4),(eS [124]),(eI 4),(eI 3),(.sl 2 2 0 3 none 4),(eI 2),(eS [97]),(eI 4),(eI 4)],91,[(1,10),(0,5)],2,0,false,1,none⟩
def bgramForms65 : Blk := ⟨[(eI 2),(eS [97]),(eI 4),(eI 4),(eI 1),(eS [83]),(eI 4),(eI 6),(eI 2),(eS [97]),(eI 4),(eI 8)],81,[(2,12),(1,8),(0,4)],3,0,false,2,none⟩
def hGramForms125 : HE := ⟨48, [(.sl 0 5 36 7 none 4)], [bgramForms60], [((.val (.agg [(eI 1),(eS [65]),(eI 4),(eI 1),(.sl 1 1 0 2 none 5)])), [bgramForms64, bgramForms65])]⟩
theorem hGramForms125_ok : HOk Tryd.prog hGramForms125 := hok_eq mmGramForms_ok hmGramForms125_ok folGramForms (lf := 100000) (k := 1000) (by kernel_rfl)
def hmGramForms126 : List HE := hGramForms125 :: hmGramForms125
theorem hmGramForms126_ok : ∀ x ∈ hmGramForms126, HOk Tryd.prog x := hmemo_cons hGramForms125_ok hmGramForms125_ok
def bgramForms66 : Blk := ⟨[(eI 1),(eS [83]),(eI 2),(eI 1),(.sl 2 1 0 2 none 5),(eI 1),(eS [65]),(eI 4),(eI 1),(.sl 5 1 0 2 none 5)],87,[(1,10),(0,5)],2,0,false,1,none⟩
def bgramForms67 : Blk := ⟨[(.sl 3 1 0 2 none 4),(eI 1),(eS [65]),(eI 2),(eI 5),(.sl 4 0 0 1 none 4),(eI 2),(eS [99]),(eI 2),(eI 9)],91,[(1,10),(0,5)],2,0,false,1,none⟩
def bgramForms68 : Blk := ⟨[(.lit (.slice none 0 0)),(eI 4),(eS [124]),(eI 4),(eI 3),(.sl 6 2 0 3 none 4),(eI 2),(eS [97]),(eI 4),(eI 4)],91,[(1,10),(0,5)],2,0,false,1,none⟩
def hGramForms126 : HE := ⟨22, [(.sl 0 5 0 16 none 4)], [bgramForms60], [((.val (.sl 1 1 0 2 none 5)), [bgramForms66, bgramForms67, bgramForms62, bgramForms63, bgramForms68, bgramForms65])]⟩
theorem hGramForms126_ok : HOk Tryd.prog hGramForms126 := hok_eq mmGramForms_ok hmGramForms126_ok folGramForms (lf := 100000) (k := 1000) (by kernel_rfl)
def hmGramForms127 : List HE := hGramForms126 :: hmGramForms126
theorem hmGramForms127_ok : ∀ x ∈ hmGramForms127, HOk Tryd.prog x := hmemo_cons hGramForms126_ok hmGramForms126_ok
def bgramForms69 : Blk := ⟨[(eI 1),(eS [83]),(eI 2),(eI 1),(.sl 1 1 0 2 none 5),(eI 1),(eS [65]),(eI 4),(eI 1),(.sl 4 1 0 2 none 5)],87,[(1,10),(0,5)],2,0,false,1,none⟩
def bgramForms70 : Blk := ⟨[(.lit (.slice none 0 0)),(eI 4),(eS [124]),(eI 4),(eI 3),(.sl 5 2 0 3 none 4),(eI 2),(eS [97]),(eI 4),(eI 4)],91,[(1,10),(0,5)],2,0,false,1,none⟩
def hGramForms127 : HE := ⟨21, [(.sl 0 1 0 2 none 5)], [bgramForms69, bgramForms61, bgramForms62, bgramForms63, bgramForms70, bgramForms65], [((.val (.agg [(.sl 6 2 0 3 none 1),(.sl 7 1 0 2 none 1),(.sl 8 3 0 4 none 2)])), [bgramForms21, bgramForms22, bgramForms23, bgramForms13, bgramForms15, bgramForms18])]⟩
theorem hGramForms127_ok : HOk Tryd.prog hGramForms127 := hok_eq mmGramForms_ok hmGramForms127_ok folGramForms (lf := 100000) (k := 1000) (by kernel_rfl)
def hmGramForms128 : List HE := hGramForms127 :: hmGramForms127
theorem hmGramForms128_ok : ∀ x ∈ hmGramForms128, HOk Tryd.prog x := hmemo_cons hGramForms127_ok hmGramForms127_ok
def hGramForms128 : HE := ⟨8, [(eT tgramForms4)], [], [((.val (.tup [(.agg [(.sl 0 2 0 3 none 1),(.sl 1 1 0 2 none 1),(.sl 2 3 0 4 none 2)]),(eI 0),(eI 0),(eI 0)])), [bgramForms21, bgramForms22, bgramForms24, bgramForms13, bgramForms15, bgramForms18])]⟩
theorem hGramForms128_ok : HOk Tryd.prog hGramForms128 := hok_eq mmGramForms_ok hmGramForms128_ok folGramForms (lf := 100000) (k := 1000) (by kernel_rfl)
def hmGramForms129 : List HE := hGramForms128 :: hmGramForms128
theorem hmGramForms129_ok : ∀ x ∈ hmGramForms129, HOk Tryd.prog x := hmemo_cons hGramForms128_ok hmGramForms128_ok
def hGramForms129 : HE := ⟨77, [(eS [65,58,32,124,97,32,83,32,97])], [], [((.val (eI 1)), [])]⟩
theorem hGramForms129_ok : HOk Tryd.prog hGramForms129 := hok_eq mmGramForms_ok hmGramForms129_ok folGramForms (lf := 100000) (k := 1000) (by kernel_rfl)
def hmGramForms130 : List HE := hGramForms129 :: hmGramForms129
theorem hmGramForms130_ok : ∀ x ∈ hmGramForms130, HOk Tryd.prog x := hmemo_cons hGramForms129_ok hmGramForms129_ok
def hGramForms130 : HE := ⟨64, [(eS [65,58,32,124,97,32,83,32,97])], [], [((.val (.tup [(.agg [(eI 1),(eS [65]),(eI 0),(eI 0)]),(eI 1),eB1])), [])]⟩
theorem hGramForms130_ok : HOk Tryd.prog hGramForms130 := hok_eq mmGramForms_ok hmGramForms130_ok folGramForms (lf := 100000) (k := 1000) (by kernel_rfl)
def hmGramForms131 : List HE := hGramForms130 :: hmGramForms130
theorem hmGramForms131_ok : ∀ x ∈ hmGramForms131, HOk Tryd.prog x := hmemo_cons hGramForms130_ok hmGramForms130_ok
def hGramForms131 : HE := ⟨64, [(eS [58,32,124,97,32,83,32,97])], [], [((.val (.tup [(.agg [(eI 3),(eS [58]),(eI 0),(eI 0)]),(eI 1),eB1])), [])]⟩
theorem hGramForms131_ok : HOk Tryd.prog hGramForms131 := hok_eq mmGramForms_ok hmGramForms131_ok folGramForms (lf := 100000) (k := 1000) (by kernel_rfl)
def hmGramForms132 : List HE := hGramForms131 :: hmGramForms131
theorem hmGramForms132_ok : ∀ x ∈ hmGramForms132, HOk Tryd.prog x := hmemo_cons hGramForms131_ok hmGramForms131_ok
def bgramForms71 : Blk := ⟨[(eI 1),(eS [65]),(eI 2),(eI 1),(eI 3),(eS [58]),(eI 2),(eI 2),(eI 4),(eS [124]),(eI 2),(eI 4),(eI 2),(eS [97]),(eI 2),(eI 5),(eI 1),(eS [83]),(eI 2),(eI 7),(eI 2),(eS [97]),(eI 2),(eI 9)],81,[(5,24),(4,20),(3,16),(2,12),(1,8),(0,4)],6,0,false,5,none⟩
def hGramForms132 : HE := ⟨44, [(eS [65,58,32,124,97,32,83,32,97]),(eI 2)], [], [((.val (.tup [(.sl 0 5 0 6 none 4),(eI 0)])), [bgramForms71])]⟩
theorem hGramForms132_ok : HOk Tryd.prog hGramForms132 := hok_eq mmGramForms_ok hmGramForms132_ok folGramForms (lf := 100000) (k := 1000) (by kernel_rfl)
def hmGramForms133 : List HE := hGramForms132 :: hmGramForms132
theorem hmGramForms133_ok : ∀ x ∈ hmGramForms133, HOk Tryd.prog x := hmemo_cons hGramForms132_ok hmGramForms132_ok
def bgramForms72 : Blk := ⟨[(eI 1),(eS [83]),(eI 1),(eI 1),(eI 3),(eS [58]),(eI 1),(eI 2),(eI 1),(eS [65]),(eI 1),(eI 4),(eI 2),(eS [98]),(eI 1),(eI 6),(eI 4),(eS [124]),(eI 1),(eI 8),(eI 2),(eS [99]),(eI 1),(eI 10),(eI 5),(eS []),(eI 1),(eI 11),(eI 1),(eS [65]),(eI 2),(eI 1),(eI 3),(eS [58]),(eI 2),(eI 2),(eI 4),(eS [124]),(eI 2),(eI 4),(eI 2),(eS [97]),(eI 2),(eI 5),(eI 1),(eS [83]),(eI 2),(eI 7),(eI 2),(eS [97]),(eI 2),(eI 9),(eI 5),(eS []),(eI 2),(eI 10)],81,[(3,56),(2,52),(1,28),(0,24)],4,0,false,3,none⟩
def tgramForms5 : List Nat := [83,58,32,65,32,98,32,124,32,99,10,65,58,32,124,97,32,83,32,97,10]
def hGramForms133 : HE := ⟨19, [(eT tgramForms5)], [], [((.val (.tup [(.sl 0 3 0 14 none 4),(eI 0),(eI 0),(eI 0)])), [bgramForms72])]⟩
theorem hGramForms133_ok : HOk Tryd.prog hGramForms133 := hok_eq mmGramForms_ok hmGramForms133_ok folGramForms (lf := 100000) (k := 1000) (by kernel_rfl)
def hmGramForms134 : List HE := hGramForms133 :: hmGramForms133
theorem hmGramForms134_ok : ∀ x ∈ hmGramForms134, HOk Tryd.prog x := hmemo_cons hGramForms133_ok hmGramForms133_ok
def hGramForms134 : HE := ⟨48, [(.sl 0 3 0 7 none 4)], [bgramForms72], [((.val (.agg [(eI 1),(eS [83]),(eI 1),(eI 1),(.sl 1 1 0 2 none 5)])), [bgramForms35, bgramForms36, bgramForms37])]⟩
theorem hGramForms134_ok : HOk Tryd.prog hGramForms134 := hok_eq mmGramForms_ok hmGramForms134_ok folGramForms (lf := 100000) (k := 1000) (by kernel_rfl)
def hmGramForms135 : List HE := hGramForms134 :: hmGramForms134
theorem hmGramForms135_ok : ∀ x ∈ hmGramForms135, HOk Tryd.prog x := hmemo_cons hGramForms134_ok hmGramForms134_ok
def bgramForms73 : Blk := ⟨[(.lit (.slice none 0 0)),(eI 4),(eS [124]),(eI 2),(eI 4),(.sl 2 2 0 3 none 4),(eI 2),(eS [97]),(eI 2),(eI 5)],91,[(1,10),(0,5)],2,0,false,1,none⟩
def bgramForms74 : Blk := ⟨[(eI 2),(eS [97]),(eI 2),(eI 5),(eI 1),(eS [83]),(eI 2),(eI 7),(eI 2),(eS [97]),(eI 2),(eI 9)],81,[(2,12),(1,8),(0,4)],3,0,false,2,none⟩
def hGramForms135 : HE := ⟨48, [(.sl 0 3 28 7 none 4)], [bgramForms72], [((.val (.agg [(eI 1),(eS [65]),(eI 2),(eI 1),(.sl 1 1 0 2 none 5)])), [bgramForms73, bgramForms74])]⟩
theorem hGramForms135_ok : HOk Tryd.prog hGramForms135 := hok_eq mmGramForms_ok hmGramForms135_ok folGramForms (lf := 100000) (k := 1000) (by kernel_rfl)
def hmGramForms136 : List HE := hGramForms135 :: hmGramForms135
theorem hmGramForms136_ok : ∀ x ∈ hmGramForms136, HOk Tryd.prog x := hmemo_cons hGramForms135_ok hmGramForms135_ok
def bgramForms75 : Blk := ⟨[(.lit (.slice none 0 0)),(eI 4),(eS [124]),(eI 2),(eI 4),(.sl 6 2 0 3 none 4),(eI 2),(eS [97]),(eI 2),(eI 5)],91,[(1,10),(0,5)],2,0,false,1,none⟩
def hGramForms136 : HE := ⟨22, [(.sl 0 3 0 14 none 4)], [bgramForms72], [((.val (.sl 1 1 0 2 none 5)), [bgramForms40, bgramForms41, bgramForms36, bgramForms37, bgramForms75, bgramForms74])]⟩
theorem hGramForms136_ok : HOk Tryd.prog hGramForms136 := hok_eq mmGramForms_ok hmGramForms136_ok folGramForms (lf := 100000) (k := 1000) (by kernel_rfl)
def hmGramForms137 : List HE := hGramForms136 :: hmGramForms136
theorem hmGramForms137_ok : ∀ x ∈ hmGramForms137, HOk Tryd.prog x := hmemo_cons hGramForms136_ok hmGramForms136_ok
def bgramForms76 : Blk := ⟨[(.lit (.slice none 0 0)),(eI 4),(eS [124]),(eI 2),(eI 4),(.sl 5 2 0 3 none 4),(eI 2),(eS [97]),(eI 2),(eI 5)],91,[(1,10),(0,5)],2,0,false,1,none⟩
def hGramForms137 : HE := ⟨21, [(.sl 0 1 0 2 none 5)], [bgramForms43, bgramForms35, bgramForms36, bgramForms37, bgramForms76, bgramForms74], [((.val (.agg [(.sl 6 2 0 3 none 1),(.sl 7 1 0 2 none 1),(.sl 8 3 0 4 none 2)])), [bgramForms21, bgramForms22, bgramForms23, bgramForms13, bgramForms15, bgramForms18])]⟩
theorem hGramForms137_ok : HOk Tryd.prog hGramForms137 := hok_eq mmGramForms_ok hmGramForms137_ok folGramForms (lf := 100000) (k := 1000) (by kernel_rfl)
def hmGramForms138 : List HE := hGramForms137 :: hmGramForms137
theorem hmGramForms138_ok : ∀ x ∈ hmGramForms138, HOk Tryd.prog x := hmemo_cons hGramForms137_ok hmGramForms137_ok
def hGramForms138 : HE := ⟨8, [(eT tgramForms5)], [], [((.val (.tup [(.agg [(.sl 0 2 0 3 none 1),(.sl 1 1 0 2 none 1),(.sl 2 3 0 4 none 2)]),(eI 0),(eI 0),(eI 0)])), [bgramForms21, bgramForms22, bgramForms24, bgramForms13, bgramForms15, bgramForms18])]⟩
theorem hGramForms138_ok : HOk Tryd.prog hGramForms138 := hok_eq mmGramForms_ok hmGramForms138_ok folGramForms (lf := 100000) (k := 1000) (by kernel_rfl)
def hmGramForms139 : List HE := hGramForms138 :: hmGramForms138
theorem hmGramForms139_ok : ∀ x ∈ hmGramForms139, HOk Tryd.prog x := hmemo_cons hGramForms138_ok hmGramForms138_ok
end Go.Proofs.YthofgbkmmedjnaaDoor.E
