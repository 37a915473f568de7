/- Texts that the proof of a law rests on, put together: part 44. -/
import Derived.Test.YtiaimendiblgfaaDoorMw43
import Derived.KernelRfl
import Derived.Test.YtiaimendiblgfaaDoorProg
namespace Go.Proofs.YtiaimendiblgfaaDoor.E
open Go Go.EV Go.RowKit Go.Proofs
set_option linter.unusedVariables false
set_option maxRecDepth 100000
abbrev eI (n : Nat) : AV := .lit (.int .i64 (Int.ofNat n))
abbrev eS (l : List Nat) : AV := .lit (.string (sb l))
abbrev eB1 : AV := .lit (.bool true)
def mmWakes : Memo := []
theorem mmWakes_ok : ∀ x ∈ mmWakes, Contract Tryd.prog x := memo_nil _
theorem folWakes : Tryd.prog.follows .mixedOrders = true := by kernel_rfl
def hmWakes0 : List HE := []
theorem hmWakes0_ok : ∀ x ∈ hmWakes0, HOk Tryd.prog x := hmemo_nil _
def hWakes0 : HE := ⟨36, [(eS [83])], [], [((.val eB1), [], [])]⟩
theorem hWakes0_ok : HOk Tryd.prog hWakes0 := hok_eq mmWakes_ok hmWakes0_ok folWakes (lf := 100000) (k := 1000) (by kernel_rfl)
def hmWakes1 : List HE := hWakes0 :: hmWakes0
theorem hmWakes1_ok : ∀ x ∈ hmWakes1, HOk Tryd.prog x := hmemo_cons hWakes0_ok hmWakes0_ok
def hWakes1 : HE := ⟨36, [(eS [97])], [], [((.val eB1), [], [])]⟩
theorem hWakes1_ok : HOk Tryd.prog hWakes1 := hok_eq mmWakes_ok hmWakes1_ok folWakes (lf := 100000) (k := 1000) (by kernel_rfl)
def hmWakes2 : List HE := hWakes1 :: hmWakes1
theorem hmWakes2_ok : ∀ x ∈ hmWakes2, HOk Tryd.prog x := hmemo_cons hWakes1_ok hmWakes1_ok
def hWakes2 : HE := ⟨36, [(eS [98])], [], [((.val eB1), [], [])]⟩
theorem hWakes2_ok : HOk Tryd.prog hWakes2 := hok_eq mmWakes_ok hmWakes2_ok folWakes (lf := 100000) (k := 1000) (by kernel_rfl)
def hmWakes3 : List HE := hWakes2 :: hmWakes2
theorem hmWakes3_ok : ∀ x ∈ hmWakes3, HOk Tryd.prog x := hmemo_cons hWakes2_ok hmWakes2_ok
def bwakes1 : Blk := ⟨[(eS [97]),(eS [98])],9,[(1,2),(0,1)],2,0,false,1,none⟩
def bwakes2 : Blk := ⟨[(eS [83])],9,[(0,1)],1,0,false,0,none⟩
def bwakes3 : Blk := ⟨[(eI 100),(.sl 3 1 0 2 none 1),(eI 100),(.sl 4 0 0 1 none 1)],37,[(1,4),(0,2)],2,0,false,1,none⟩
def bwakes4 : Blk := ⟨[(eI 1),(eI 100)],3,[(1,2),(0,1)],2,0,false,1,none⟩
def bwakes5 : Blk := ⟨[(eI 2)],3,[(0,1)],1,0,false,0,none⟩
def hWakes3 : HE := ⟨13, [(eS [83,58,32,97,32,83,32,124,32,98,10])], [], [((.val (.tup [(.agg [(.sl 0 1 0 2 none 1),(.sl 1 0 0 1 none 1),(.sl 2 1 0 2 none 2)]),(eI 0),(eI 0),(eI 0)])), [], [bwakes1, bwakes2, bwakes3, bwakes4, bwakes5])]⟩
theorem hWakes3_ok : HOk Tryd.prog hWakes3 := hok_eq mmWakes_ok hmWakes3_ok folWakes (lf := 100000) (k := 1000) (by kernel_rfl)
def hmWakes4 : List HE := hWakes3 :: hmWakes3
theorem hmWakes4_ok : ∀ x ∈ hmWakes4, HOk Tryd.prog x := hmemo_cons hWakes3_ok hmWakes3_ok
def hWakes4 : HE := ⟨12, [], [], [((.val eB1), [], [])]⟩
theorem hWakes4_ok : HOk Tryd.prog hWakes4 := hok_eq mmWakes_ok hmWakes4_ok folWakes (lf := 100000) (k := 1000) (by kernel_rfl)
end Go.Proofs.YtiaimendiblgfaaDoor.E
