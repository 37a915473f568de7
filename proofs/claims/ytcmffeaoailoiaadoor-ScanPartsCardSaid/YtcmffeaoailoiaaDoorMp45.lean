/- Texts that the proof of a law rests on, put together: part 45. -/
import Derived.Test.YtcmffeaoailoiaaDoorMp44
import Derived.KernelRfl
import Derived.Test.YtcmffeaoailoiaaDoorProg
namespace Go.Proofs.YtcmffeaoailoiaaDoor.E
open Go Go.EV Go.RowKit Go.Proofs
set_option linter.unusedVariables false
set_option maxRecDepth 100000
abbrev eI (n : Nat) : AV := .lit (.int .i64 (Int.ofNat n))
abbrev eS (l : List Nat) : AV := .lit (.string (sb l))
abbrev eB1 : AV := .lit (.bool true)
def mmWakes : Memo := []
theorem mmWakes_ok : ∀ x ∈ mmWakes, Contract Tryd.prog x := memo_nil _
theorem folWakes : Tryd.prog.follows .mixedOrders = true := by kernel_rfl
def hmWakes0 : List HE := []
theorem hmWakes0_ok : ∀ x ∈ hmWakes0, HOk Tryd.prog x := hmemo_nil _
def bwakes1 : Blk := ⟨[(eI 1),(eS [65]),(eI 1),(eI 1),(eI 3),(eS [58]),(eI 1),(eI 2),(eI 2),(eS [98]),(eI 1),(eI 4)],27,[(2,12),(1,8),(0,4)],3,0,false,2,none⟩
def hWakes0 : HE := ⟨18, [(eS [65,58,32,98]),(eI 1)], [], [((.val (.tup [(.sl 0 2 0 3 none 4),(eI 0)])), [], [bwakes1])]⟩
theorem hWakes0_ok : HOk Tryd.prog hWakes0 := hok_eq mmWakes_ok hmWakes0_ok folWakes (lf := 100000) (k := 1000) (by kernel_rfl)
def hmWakes1 : List HE := hWakes0 :: hmWakes0
theorem hmWakes1_ok : ∀ x ∈ hmWakes1, HOk Tryd.prog x := hmemo_cons hWakes0_ok hmWakes0_ok
def bwakes2 : Blk := ⟨[(eI 1),(eS [65]),(eI 1),(eI 1),(eI 3),(eS [58]),(eI 1),(eI 2),(eI 2),(eS [98]),(eI 1),(eI 4),(eI 5),(eS []),(eI 1),(eI 5)],27,[(1,16),(0,12)],2,0,false,1,none⟩
def hWakes1 : HE := ⟨7, [(eS [65,58,32,98])], [], [((.val (.tup [(.sl 0 1 0 4 none 4),(eI 0),(eI 0),(eI 0)])), [], [bwakes2])]⟩
theorem hWakes1_ok : HOk Tryd.prog hWakes1 := hok_eq mmWakes_ok hmWakes1_ok folWakes (lf := 100000) (k := 1000) (by kernel_rfl)
def hmWakes2 : List HE := hWakes1 :: hmWakes1
theorem hmWakes2_ok : ∀ x ∈ hmWakes2, HOk Tryd.prog x := hmemo_cons hWakes1_ok hmWakes1_ok
def hWakes2 : HE := ⟨9, [], [], [((.val eB1), [], [])]⟩
theorem hWakes2_ok : HOk Tryd.prog hWakes2 := hok_eq mmWakes_ok hmWakes2_ok folWakes (lf := 100000) (k := 1000) (by kernel_rfl)
end Go.Proofs.YtcmffeaoailoiaaDoor.E
