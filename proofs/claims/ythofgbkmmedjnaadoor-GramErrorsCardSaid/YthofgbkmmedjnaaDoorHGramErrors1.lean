/- Calls that GramErrors makes, each carried out once over the memory that it is given. -/
import Derived.Test.YthofgbkmmedjnaaDoorHGramErrors0
namespace Go.Proofs.YthofgbkmmedjnaaDoor.E
open Go Go.EV Go.RowKit Go.Proofs
set_option linter.unusedVariables false
set_option maxRecDepth 100000
def hGramErrors421 : HE := ⟨48, [(.sl 0 2 4 2 none 4)], [bgramErrors204], [((.panic (.iface 51 (.agg [(eI 2),(eI 2),(eI 2)]))), [])]⟩
theorem hGramErrors421_ok : HOk Tryd.prog hGramErrors421 := hok_eq mmGramErrors_ok hmGramErrors421_ok folGramErrors (lf := 100000) (k := 1000) (by kernel_rfl)
def hmGramErrors422 : List HE := hGramErrors421 :: hmGramErrors421
theorem hmGramErrors422_ok : ∀ x ∈ hmGramErrors422, HOk Tryd.prog x := hmemo_cons hGramErrors421_ok hmGramErrors421_ok
def hGramErrors422 : HE := ⟨22, [(.sl 0 2 0 3 none 4)], [bgramErrors204], [((.panic (.iface 51 (.agg [(eI 2),(eI 2),(eI 2)]))), [])]⟩
theorem hGramErrors422_ok : HOk Tryd.prog hGramErrors422 := hok_eq mmGramErrors_ok hmGramErrors422_ok folGramErrors (lf := 100000) (k := 1000) (by kernel_rfl)
def hmGramErrors423 : List HE := hGramErrors422 :: hmGramErrors422
theorem hmGramErrors423_ok : ∀ x ∈ hmGramErrors423, HOk Tryd.prog x := hmemo_cons hGramErrors422_ok hmGramErrors422_ok
def hGramErrors423 : HE := ⟨8, [(eS [10,83,10])], [], [((.val (.tup [(.agg [(.lit (.slice none 0 0)),(.lit (.slice none 0 0)),(.lit (.slice none 0 0))]),(eI 2),(eI 2),(eI 2)])), [])]⟩
theorem hGramErrors423_ok : HOk Tryd.prog hGramErrors423 := hok_eq mmGramErrors_ok hmGramErrors423_ok folGramErrors (lf := 100000) (k := 1000) (by kernel_rfl)
def hmGramErrors424 : List HE := hGramErrors423 :: hmGramErrors423
theorem hmGramErrors424_ok : ∀ x ∈ hmGramErrors424, HOk Tryd.prog x := hmemo_cons hGramErrors423_ok hmGramErrors423_ok
def bgramErrors205 : Blk := ⟨[(eI 4),(eS [124]),(eI 2),(eI 1),(eI 2),(eS [97]),(eI 2),(eI 3)],81,[(1,8),(0,4)],2,0,false,1,none⟩
def hGramErrors424 : HE := ⟨44, [(eS [124,32,97]),(eI 2)], [], [((.val (.tup [(.sl 0 1 0 2 none 4),(eI 0)])), [bgramErrors205])]⟩
theorem hGramErrors424_ok : HOk Tryd.prog hGramErrors424 := hok_eq mmGramErrors_ok hmGramErrors424_ok folGramErrors (lf := 100000) (k := 1000) (by kernel_rfl)
def hmGramErrors425 : List HE := hGramErrors424 :: hmGramErrors424
theorem hmGramErrors425_ok : ∀ x ∈ hmGramErrors425, HOk Tryd.prog x := hmemo_cons hGramErrors424_ok hmGramErrors424_ok
def bgramErrors206 : Blk := ⟨[(eI 5),(eS []),(eI 1),(eI 1),(eI 4),(eS [124]),(eI 2),(eI 1),(eI 2),(eS [97]),(eI 2),(eI 3),(eI 5),(eS []),(eI 2),(eI 4)],81,[(2,16),(1,12),(0,4)],3,0,false,2,none⟩
def hGramErrors425 : HE := ⟨19, [(eS [10,124,32,97,10])], [], [((.val (.tup [(.sl 0 2 0 4 none 4),(eI 0),(eI 0),(eI 0)])), [bgramErrors206])]⟩
theorem hGramErrors425_ok : HOk Tryd.prog hGramErrors425 := hok_eq mmGramErrors_ok hmGramErrors425_ok folGramErrors (lf := 100000) (k := 1000) (by kernel_rfl)
def hmGramErrors426 : List HE := hGramErrors425 :: hmGramErrors425
theorem hmGramErrors426_ok : ∀ x ∈ hmGramErrors426, HOk Tryd.prog x := hmemo_cons hGramErrors425_ok hmGramErrors425_ok
def hGramErrors426 : HE := ⟨48, [(.sl 0 2 4 3 none 4)], [bgramErrors206], [((.panic (.iface 51 (.agg [(eI 2),(eI 1),(eI 2)]))), [])]⟩
theorem hGramErrors426_ok : HOk Tryd.prog hGramErrors426 := hok_eq mmGramErrors_ok hmGramErrors426_ok folGramErrors (lf := 100000) (k := 1000) (by kernel_rfl)
def hmGramErrors427 : List HE := hGramErrors426 :: hmGramErrors426
theorem hmGramErrors427_ok : ∀ x ∈ hmGramErrors427, HOk Tryd.prog x := hmemo_cons hGramErrors426_ok hmGramErrors426_ok
def hGramErrors427 : HE := ⟨22, [(.sl 0 2 0 4 none 4)], [bgramErrors206], [((.panic (.iface 51 (.agg [(eI 2),(eI 1),(eI 2)]))), [])]⟩
theorem hGramErrors427_ok : HOk Tryd.prog hGramErrors427 := hok_eq mmGramErrors_ok hmGramErrors427_ok folGramErrors (lf := 100000) (k := 1000) (by kernel_rfl)
def hmGramErrors428 : List HE := hGramErrors427 :: hmGramErrors427
theorem hmGramErrors428_ok : ∀ x ∈ hmGramErrors428, HOk Tryd.prog x := hmemo_cons hGramErrors427_ok hmGramErrors427_ok
def hGramErrors428 : HE := ⟨8, [(eS [10,124,32,97,10])], [], [((.val (.tup [(.agg [(.lit (.slice none 0 0)),(.lit (.slice none 0 0)),(.lit (.slice none 0 0))]),(eI 2),(eI 1),(eI 2)])), [])]⟩
theorem hGramErrors428_ok : HOk Tryd.prog hGramErrors428 := hok_eq mmGramErrors_ok hmGramErrors428_ok folGramErrors (lf := 100000) (k := 1000) (by kernel_rfl)
def hmGramErrors429 : List HE := hGramErrors428 :: hmGramErrors428
theorem hmGramErrors429_ok : ∀ x ∈ hmGramErrors429, HOk Tryd.prog x := hmemo_cons hGramErrors428_ok hmGramErrors428_ok
def bgramErrors207 : Blk := ⟨[(eI 1),(eS [83]),(eI 2),(eI 1),(eI 3),(eS [58]),(eI 2),(eI 2),(eI 1),(eS [84]),(eI 2),(eI 4)],81,[(2,12),(1,8),(0,4)],3,0,false,2,none⟩
def hGramErrors429 : HE := ⟨44, [(eS [83,58,32,84]),(eI 2)], [], [((.val (.tup [(.sl 0 2 0 3 none 4),(eI 0)])), [bgramErrors207])]⟩
theorem hGramErrors429_ok : HOk Tryd.prog hGramErrors429 := hok_eq mmGramErrors_ok hmGramErrors429_ok folGramErrors (lf := 100000) (k := 1000) (by kernel_rfl)
def hmGramErrors430 : List HE := hGramErrors429 :: hmGramErrors429
theorem hmGramErrors430_ok : ∀ x ∈ hmGramErrors430, HOk Tryd.prog x := hmemo_cons hGramErrors429_ok hmGramErrors429_ok
def bgramErrors208 : Blk := ⟨[(eI 1),(eS [83]),(eI 3),(eI 1),(eI 3),(eS [58]),(eI 3),(eI 2),(eI 2),(eS [97]),(eI 3),(eI 4)],81,[(2,12),(1,8),(0,4)],3,0,false,2,none⟩
def hGramErrors430 : HE := ⟨44, [(eS [83,58,32,97]),(eI 3)], [], [((.val (.tup [(.sl 0 2 0 3 none 4),(eI 0)])), [bgramErrors208])]⟩
theorem hGramErrors430_ok : HOk Tryd.prog hGramErrors430 := hok_eq mmGramErrors_ok hmGramErrors430_ok folGramErrors (lf := 100000) (k := 1000) (by kernel_rfl)
def hmGramErrors431 : List HE := hGramErrors430 :: hmGramErrors430
theorem hmGramErrors431_ok : ∀ x ∈ hmGramErrors431, HOk Tryd.prog x := hmemo_cons hGramErrors430_ok hmGramErrors430_ok
def bgramErrors209 : Blk := ⟨[(eI 5),(eS []),(eI 1),(eI 1),(eI 1),(eS [83]),(eI 2),(eI 1),(eI 3),(eS [58]),(eI 2),(eI 2),(eI 1),(eS [84]),(eI 2),(eI 4),(eI 5),(eS []),(eI 2),(eI 5),(eI 1),(eS [83]),(eI 3),(eI 1),(eI 3),(eS [58]),(eI 3),(eI 2),(eI 2),(eS [97]),(eI 3),(eI 4),(eI 5),(eS []),(eI 3),(eI 5)],81,[(4,36),(3,32),(2,20),(1,16),(0,4)],5,0,false,4,none⟩
def hGramErrors431 : HE := ⟨19, [(eS [10,83,58,32,84,10,83,58,32,97,10])], [], [((.val (.tup [(.sl 0 4 0 9 none 4),(eI 0),(eI 0),(eI 0)])), [bgramErrors209])]⟩
theorem hGramErrors431_ok : HOk Tryd.prog hGramErrors431 := hok_eq mmGramErrors_ok hmGramErrors431_ok folGramErrors (lf := 100000) (k := 1000) (by kernel_rfl)
def hmGramErrors432 : List HE := hGramErrors431 :: hmGramErrors431
theorem hmGramErrors432_ok : ∀ x ∈ hmGramErrors432, HOk Tryd.prog x := hmemo_cons hGramErrors431_ok hmGramErrors431_ok
def bgramErrors210 : Blk := ⟨[(.sl 2 0 0 1 none 4),(eI 1),(eS [84]),(eI 2),(eI 4)],91,[(0,5)],1,0,false,0,none⟩
def bgramErrors211 : Blk := ⟨[(eI 1),(eS [84]),(eI 2),(eI 4)],81,[(0,4)],1,0,false,0,none⟩
def hGramErrors432 : HE := ⟨48, [(.sl 0 4 4 4 none 4)], [bgramErrors209], [((.val (.agg [(eI 1),(eS [83]),(eI 2),(eI 1),(.sl 1 0 0 1 none 5)])), [bgramErrors210, bgramErrors211])]⟩
theorem hGramErrors432_ok : HOk Tryd.prog hGramErrors432 := hok_eq mmGramErrors_ok hmGramErrors432_ok folGramErrors (lf := 100000) (k := 1000) (by kernel_rfl)
def hmGramErrors433 : List HE := hGramErrors432 :: hmGramErrors432
theorem hmGramErrors433_ok : ∀ x ∈ hmGramErrors433, HOk Tryd.prog x := hmemo_cons hGramErrors432_ok hmGramErrors432_ok
def bgramErrors212 : Blk := ⟨[(.sl 2 0 0 1 none 4),(eI 2),(eS [97]),(eI 3),(eI 4)],91,[(0,5)],1,0,false,0,none⟩
def hGramErrors433 : HE := ⟨48, [(.sl 0 4 20 4 none 4)], [bgramErrors209], [((.val (.agg [(eI 1),(eS [83]),(eI 3),(eI 1),(.sl 1 0 0 1 none 5)])), [bgramErrors212, bgramErrors144])]⟩
theorem hGramErrors433_ok : HOk Tryd.prog hGramErrors433 := hok_eq mmGramErrors_ok hmGramErrors433_ok folGramErrors (lf := 100000) (k := 1000) (by kernel_rfl)
def hmGramErrors434 : List HE := hGramErrors433 :: hmGramErrors433
theorem hmGramErrors434_ok : ∀ x ∈ hmGramErrors434, HOk Tryd.prog x := hmemo_cons hGramErrors433_ok hmGramErrors433_ok
def bgramErrors213 : Blk := ⟨[(eI 1),(eS [83]),(eI 2),(eI 1),(.sl 2 0 0 1 none 5),(eI 1),(eS [83]),(eI 3),(eI 1),(.sl 4 0 0 1 none 5)],87,[(1,10),(0,5)],2,0,false,1,none⟩
def bgramErrors214 : Blk := ⟨[(.sl 3 0 0 1 none 4),(eI 1),(eS [84]),(eI 2),(eI 4)],91,[(0,5)],1,0,false,0,none⟩
def bgramErrors215 : Blk := ⟨[(.sl 5 0 0 1 none 4),(eI 2),(eS [97]),(eI 3),(eI 4)],91,[(0,5)],1,0,false,0,none⟩
def hGramErrors434 : HE := ⟨22, [(.sl 0 4 0 9 none 4)], [bgramErrors209], [((.val (.sl 1 1 0 2 none 5)), [bgramErrors213, bgramErrors214, bgramErrors211, bgramErrors215, bgramErrors144])]⟩
theorem hGramErrors434_ok : HOk Tryd.prog hGramErrors434 := hok_eq mmGramErrors_ok hmGramErrors434_ok folGramErrors (lf := 100000) (k := 1000) (by kernel_rfl)
def hmGramErrors435 : List HE := hGramErrors434 :: hmGramErrors434
theorem hmGramErrors435_ok : ∀ x ∈ hmGramErrors435, HOk Tryd.prog x := hmemo_cons hGramErrors434_ok hmGramErrors434_ok
def bgramErrors216 : Blk := ⟨[(eI 1),(eS [83]),(eI 2),(eI 1),(.sl 1 0 0 1 none 5),(eI 1),(eS [83]),(eI 3),(eI 1),(.sl 3 0 0 1 none 5)],87,[(1,10),(0,5)],2,0,false,1,none⟩
def bgramErrors217 : Blk := ⟨[(.sl 4 0 0 1 none 4),(eI 2),(eS [97]),(eI 3),(eI 4)],91,[(0,5)],1,0,false,0,none⟩
def hGramErrors435 : HE := ⟨21, [(.sl 0 1 0 2 none 5)], [bgramErrors216, bgramErrors210, bgramErrors211, bgramErrors217, bgramErrors144], [((.panic (.iface 51 (.agg [(eI 3),(eI 1),(eI 4)]))), [])]⟩
theorem hGramErrors435_ok : HOk Tryd.prog hGramErrors435 := hok_eq mmGramErrors_ok hmGramErrors435_ok folGramErrors (lf := 100000) (k := 1000) (by kernel_rfl)
def hmGramErrors436 : List HE := hGramErrors435 :: hmGramErrors435
theorem hmGramErrors436_ok : ∀ x ∈ hmGramErrors436, HOk Tryd.prog x := hmemo_cons hGramErrors435_ok hmGramErrors435_ok
def hGramErrors436 : HE := ⟨8, [(eS [10,83,58,32,84,10,83,58,32,97,10])], [], [((.val (.tup [(.agg [(.lit (.slice none 0 0)),(.lit (.slice none 0 0)),(.lit (.slice none 0 0))]),(eI 3),(eI 1),(eI 4)])), [])]⟩
theorem hGramErrors436_ok : HOk Tryd.prog hGramErrors436 := hok_eq mmGramErrors_ok hmGramErrors436_ok folGramErrors (lf := 100000) (k := 1000) (by kernel_rfl)
def hmGramErrors437 : List HE := hGramErrors436 :: hmGramErrors436
theorem hmGramErrors437_ok : ∀ x ∈ hmGramErrors437, HOk Tryd.prog x := hmemo_cons hGramErrors436_ok hmGramErrors436_ok
def bgramErrors218 : Blk := ⟨[(eI 1),(eS [83]),(eI 2),(eI 1),(eI 3),(eS [58]),(eI 2),(eI 2),(eI 1),(eS [84]),(eI 2),(eI 4),(eI 2),(eS [97]),(eI 2),(eI 6)],81,[(3,16),(2,12),(1,8),(0,4)],4,0,false,3,none⟩
def hGramErrors437 : HE := ⟨44, [(eS [83,58,32,84,32,97]),(eI 2)], [], [((.val (.tup [(.sl 0 3 0 4 none 4),(eI 0)])), [bgramErrors218])]⟩
theorem hGramErrors437_ok : HOk Tryd.prog hGramErrors437 := hok_eq mmGramErrors_ok hmGramErrors437_ok folGramErrors (lf := 100000) (k := 1000) (by kernel_rfl)
def hmGramErrors438 : List HE := hGramErrors437 :: hmGramErrors437
theorem hmGramErrors438_ok : ∀ x ∈ hmGramErrors438, HOk Tryd.prog x := hmemo_cons hGramErrors437_ok hmGramErrors437_ok
def bgramErrors219 : Blk := ⟨[(eI 5),(eS []),(eI 1),(eI 1),(eI 1),(eS [83]),(eI 2),(eI 1),(eI 3),(eS [58]),(eI 2),(eI 2),(eI 1),(eS [84]),(eI 2),(eI 4),(eI 2),(eS [97]),(eI 2),(eI 6),(eI 5),(eS []),(eI 2),(eI 7)],81,[(2,24),(1,20),(0,4)],3,0,false,2,none⟩
def hGramErrors438 : HE := ⟨19, [(eS [10,83,58,32,84,32,97,10])], [], [((.val (.tup [(.sl 0 2 0 6 none 4),(eI 0),(eI 0),(eI 0)])), [bgramErrors219])]⟩
theorem hGramErrors438_ok : HOk Tryd.prog hGramErrors438 := hok_eq mmGramErrors_ok hmGramErrors438_ok folGramErrors (lf := 100000) (k := 1000) (by kernel_rfl)
def hmGramErrors439 : List HE := hGramErrors438 :: hmGramErrors438
theorem hmGramErrors439_ok : ∀ x ∈ hmGramErrors439, HOk Tryd.prog x := hmemo_cons hGramErrors438_ok hmGramErrors438_ok
def bgramErrors220 : Blk := ⟨[(.sl 2 1 0 2 none 4),(eI 1),(eS [84]),(eI 2),(eI 4)],91,[(0,5)],1,0,false,0,none⟩
def bgramErrors221 : Blk := ⟨[(eI 1),(eS [84]),(eI 2),(eI 4),(eI 2),(eS [97]),(eI 2),(eI 6)],81,[(1,8),(0,4)],2,0,false,1,none⟩
def hGramErrors439 : HE := ⟨48, [(.sl 0 2 4 5 none 4)], [bgramErrors219], [((.val (.agg [(eI 1),(eS [83]),(eI 2),(eI 1),(.sl 1 0 0 1 none 5)])), [bgramErrors220, bgramErrors221])]⟩
theorem hGramErrors439_ok : HOk Tryd.prog hGramErrors439 := hok_eq mmGramErrors_ok hmGramErrors439_ok folGramErrors (lf := 100000) (k := 1000) (by kernel_rfl)
def hmGramErrors440 : List HE := hGramErrors439 :: hmGramErrors439
theorem hmGramErrors440_ok : ∀ x ∈ hmGramErrors440, HOk Tryd.prog x := hmemo_cons hGramErrors439_ok hmGramErrors439_ok
def bgramErrors222 : Blk := ⟨[(eI 1),(eS [83]),(eI 2),(eI 1),(.sl 2 0 0 1 none 5)],87,[(0,5)],1,0,false,0,none⟩
def bgramErrors223 : Blk := ⟨[(.sl 3 1 0 2 none 4),(eI 1),(eS [84]),(eI 2),(eI 4)],91,[(0,5)],1,0,false,0,none⟩
def hGramErrors440 : HE := ⟨22, [(.sl 0 2 0 6 none 4)], [bgramErrors219], [((.val (.sl 1 0 0 1 none 5)), [bgramErrors222, bgramErrors223, bgramErrors221])]⟩
theorem hGramErrors440_ok : HOk Tryd.prog hGramErrors440 := hok_eq mmGramErrors_ok hmGramErrors440_ok folGramErrors (lf := 100000) (k := 1000) (by kernel_rfl)
def hmGramErrors441 : List HE := hGramErrors440 :: hmGramErrors440
theorem hmGramErrors441_ok : ∀ x ∈ hmGramErrors441, HOk Tryd.prog x := hmemo_cons hGramErrors440_ok hmGramErrors440_ok
def bgramErrors224 : Blk := ⟨[(eI 1),(eS [83]),(eI 2),(eI 1),(.sl 1 0 0 1 none 5)],87,[(0,5)],1,0,false,0,none⟩
def hGramErrors441 : HE := ⟨21, [(.sl 0 0 0 1 none 5)], [bgramErrors224, bgramErrors220, bgramErrors221], [((.panic (.iface 51 (.agg [(eI 2),(eI 4),(eI 3)]))), [])]⟩
theorem hGramErrors441_ok : HOk Tryd.prog hGramErrors441 := hok_eq mmGramErrors_ok hmGramErrors441_ok folGramErrors (lf := 100000) (k := 1000) (by kernel_rfl)
def hmGramErrors442 : List HE := hGramErrors441 :: hmGramErrors441
theorem hmGramErrors442_ok : ∀ x ∈ hmGramErrors442, HOk Tryd.prog x := hmemo_cons hGramErrors441_ok hmGramErrors441_ok
def hGramErrors442 : HE := ⟨8, [(eS [10,83,58,32,84,32,97,10])], [], [((.val (.tup [(.agg [(.lit (.slice none 0 0)),(.lit (.slice none 0 0)),(.lit (.slice none 0 0))]),(eI 2),(eI 4),(eI 3)])), [])]⟩
theorem hGramErrors442_ok : HOk Tryd.prog hGramErrors442 := hok_eq mmGramErrors_ok hmGramErrors442_ok folGramErrors (lf := 100000) (k := 1000) (by kernel_rfl)
def hmGramErrors443 : List HE := hGramErrors442 :: hmGramErrors442
theorem hmGramErrors443_ok : ∀ x ∈ hmGramErrors443, HOk Tryd.prog x := hmemo_cons hGramErrors442_ok hmGramErrors442_ok
def bgramErrors225 : Blk := ⟨[(eI 1),(eS [83]),(eI 2),(eI 1),(eI 3),(eS [58]),(eI 2),(eI 2),(eI 2),(eS [97]),(eI 2),(eI 4),(eI 4),(eS [124]),(eI 2),(eI 6),(eI 2),(eS [98]),(eI 2),(eI 8),(eI 4),(eS [124]),(eI 2),(eI 10),(eI 2),(eS [97]),(eI 2),(eI 12)],81,[(6,28),(5,24),(4,20),(3,16),(2,12),(1,8),(0,4)],7,0,false,6,none⟩
def hGramErrors443 : HE := ⟨44, [(eS [83,58,32,97,32,124,32,98,32,124,32,97]),(eI 2)], [], [((.val (.tup [(.sl 0 6 0 7 none 4),(eI 0)])), [bgramErrors225])]⟩
theorem hGramErrors443_ok : HOk Tryd.prog hGramErrors443 := hok_eq mmGramErrors_ok hmGramErrors443_ok folGramErrors (lf := 100000) (k := 1000) (by kernel_rfl)
def hmGramErrors444 : List HE := hGramErrors443 :: hmGramErrors443
theorem hmGramErrors444_ok : ∀ x ∈ hmGramErrors444, HOk Tryd.prog x := hmemo_cons hGramErrors443_ok hmGramErrors443_ok
def bgramErrors226 : Blk := ⟨[(eI 5),(eS []),(eI 1),(eI 1),(eI 1),(eS [83]),(eI 2),(eI 1),(eI 3),(eS [58]),(eI 2),(eI 2),(eI 2),(eS [97]),(eI 2),(eI 4),(eI 4),(eS [124]),(eI 2),(eI 6),(eI 2),(eS [98]),(eI 2),(eI 8),(eI 4),(eS [124]),(eI 2),(eI 10),(eI 2),(eS [97]),(eI 2),(eI 12),(eI 5),(eS []),(eI 2),(eI 13)],81,[(2,36),(1,32),(0,4)],3,0,false,2,none⟩
def hGramErrors444 : HE := ⟨19, [(eS [10,83,58,32,97,32,124,32,98,32,124,32,97,10])], [], [((.val (.tup [(.sl 0 2 0 9 none 4),(eI 0),(eI 0),(eI 0)])), [bgramErrors226])]⟩
theorem hGramErrors444_ok : HOk Tryd.prog hGramErrors444 := hok_eq mmGramErrors_ok hmGramErrors444_ok folGramErrors (lf := 100000) (k := 1000) (by kernel_rfl)
def hmGramErrors445 : List HE := hGramErrors444 :: hmGramErrors444
theorem hmGramErrors445_ok : ∀ x ∈ hmGramErrors445, HOk Tryd.prog x := hmemo_cons hGramErrors444_ok hmGramErrors444_ok
def bgramErrors227 : Blk := ⟨[(.sl 2 0 0 1 none 4),(eI 2),(eS [97]),(eI 2),(eI 4),(.sl 3 0 0 1 none 4),(eI 2),(eS [98]),(eI 2),(eI 8),(.sl 4 0 0 1 none 4),(eI 2),(eS [97]),(eI 2),(eI 12)],91,[(2,15),(1,10),(0,5)],3,0,false,2,none⟩
def bgramErrors228 : Blk := ⟨[(eI 2),(eS [97]),(eI 2),(eI 4)],81,[(0,4)],1,0,false,0,none⟩
def bgramErrors229 : Blk := ⟨[(eI 2),(eS [98]),(eI 2),(eI 8)],81,[(0,4)],1,0,false,0,none⟩
def bgramErrors230 : Blk := ⟨[(eI 2),(eS [97]),(eI 2),(eI 12)],81,[(0,4)],1,0,false,0,none⟩
def hGramErrors445 : HE := ⟨48, [(.sl 0 2 4 8 none 4)], [bgramErrors226], [((.val (.agg [(eI 1),(eS [83]),(eI 2),(eI 1),(.sl 1 2 0 3 none 5)])), [bgramErrors227, bgramErrors228, bgramErrors229, bgramErrors230])]⟩
theorem hGramErrors445_ok : HOk Tryd.prog hGramErrors445 := hok_eq mmGramErrors_ok hmGramErrors445_ok folGramErrors (lf := 100000) (k := 1000) (by kernel_rfl)
def hmGramErrors446 : List HE := hGramErrors445 :: hmGramErrors445
theorem hmGramErrors446_ok : ∀ x ∈ hmGramErrors446, HOk Tryd.prog x := hmemo_cons hGramErrors445_ok hmGramErrors445_ok
def bgramErrors231 : Blk := ⟨[(eI 1),(eS [83]),(eI 2),(eI 1),(.sl 2 2 0 3 none 5)],87,[(0,5)],1,0,false,0,none⟩
def bgramErrors232 : Blk := ⟨[(.sl 3 0 0 1 none 4),(eI 2),(eS [97]),(eI 2),(eI 4),(.sl 4 0 0 1 none 4),(eI 2),(eS [98]),(eI 2),(eI 8),(.sl 5 0 0 1 none 4),(eI 2),(eS [97]),(eI 2),(eI 12)],91,[(2,15),(1,10),(0,5)],3,0,false,2,none⟩
def hGramErrors446 : HE := ⟨22, [(.sl 0 2 0 9 none 4)], [bgramErrors226], [((.val (.sl 1 0 0 1 none 5)), [bgramErrors231, bgramErrors232, bgramErrors228, bgramErrors229, bgramErrors230])]⟩
theorem hGramErrors446_ok : HOk Tryd.prog hGramErrors446 := hok_eq mmGramErrors_ok hmGramErrors446_ok folGramErrors (lf := 100000) (k := 1000) (by kernel_rfl)
def hmGramErrors447 : List HE := hGramErrors446 :: hmGramErrors446
theorem hmGramErrors447_ok : ∀ x ∈ hmGramErrors447, HOk Tryd.prog x := hmemo_cons hGramErrors446_ok hmGramErrors446_ok
def bgramErrors233 : Blk := ⟨[(eI 1),(eS [83]),(eI 2),(eI 1),(.sl 1 2 0 3 none 5)],87,[(0,5)],1,0,false,0,none⟩
def hGramErrors447 : HE := ⟨21, [(.sl 0 0 0 1 none 5)], [bgramErrors233, bgramErrors227, bgramErrors228, bgramErrors229, bgramErrors230], [((.panic (.iface 51 (.agg [(eI 2),(eI 12),(eI 4)]))), [])]⟩
theorem hGramErrors447_ok : HOk Tryd.prog hGramErrors447 := hok_eq mmGramErrors_ok hmGramErrors447_ok folGramErrors (lf := 100000) (k := 1000) (by kernel_rfl)
def hmGramErrors448 : List HE := hGramErrors447 :: hmGramErrors447
theorem hmGramErrors448_ok : ∀ x ∈ hmGramErrors448, HOk Tryd.prog x := hmemo_cons hGramErrors447_ok hmGramErrors447_ok
def hGramErrors448 : HE := ⟨8, [(eS [10,83,58,32,97,32,124,32,98,32,124,32,97,10])], [], [((.val (.tup [(.agg [(.lit (.slice none 0 0)),(.lit (.slice none 0 0)),(.lit (.slice none 0 0))]),(eI 2),(eI 12),(eI 4)])), [])]⟩
theorem hGramErrors448_ok : HOk Tryd.prog hGramErrors448 := hok_eq mmGramErrors_ok hmGramErrors448_ok folGramErrors (lf := 100000) (k := 1000) (by kernel_rfl)
def hmGramErrors449 : List HE := hGramErrors448 :: hmGramErrors448
theorem hmGramErrors449_ok : ∀ x ∈ hmGramErrors449, HOk Tryd.prog x := hmemo_cons hGramErrors448_ok hmGramErrors448_ok
def bgramErrors234 : Blk := ⟨[(eI 1),(eS [83]),(eI 2),(eI 1),(eI 3),(eS [58]),(eI 2),(eI 2),(eI 4),(eS [124]),(eI 2),(eI 4),(eI 2),(eS [97]),(eI 2),(eI 6),(eI 4),(eS [124]),(eI 2),(eI 8)],81,[(4,20),(3,16),(2,12),(1,8),(0,4)],5,0,false,4,none⟩
def hGramErrors449 : HE := ⟨44, [(eS [83,58,32,124,32,97,32,124]),(eI 2)], [], [((.val (.tup [(.sl 0 4 0 5 none 4),(eI 0)])), [bgramErrors234])]⟩
theorem hGramErrors449_ok : HOk Tryd.prog hGramErrors449 := hok_eq mmGramErrors_ok hmGramErrors449_ok folGramErrors (lf := 100000) (k := 1000) (by kernel_rfl)
def hmGramErrors450 : List HE := hGramErrors449 :: hmGramErrors449
theorem hmGramErrors450_ok : ∀ x ∈ hmGramErrors450, HOk Tryd.prog x := hmemo_cons hGramErrors449_ok hmGramErrors449_ok
def bgramErrors235 : Blk := ⟨[(eI 5),(eS []),(eI 1),(eI 1),(eI 1),(eS [83]),(eI 2),(eI 1),(eI 3),(eS [58]),(eI 2),(eI 2),(eI 4),(eS [124]),(eI 2),(eI 4),(eI 2),(eS [97]),(eI 2),(eI 6),(eI 4),(eS [124]),(eI 2),(eI 8),(eI 5),(eS []),(eI 2),(eI 9)],81,[(2,28),(1,24),(0,4)],3,0,false,2,none⟩
def hGramErrors450 : HE := ⟨19, [(eS [10,83,58,32,124,32,97,32,124,10])], [], [((.val (.tup [(.sl 0 2 0 7 none 4),(eI 0),(eI 0),(eI 0)])), [bgramErrors235])]⟩
theorem hGramErrors450_ok : HOk Tryd.prog hGramErrors450 := hok_eq mmGramErrors_ok hmGramErrors450_ok folGramErrors (lf := 100000) (k := 1000) (by kernel_rfl)
def hmGramErrors451 : List HE := hGramErrors450 :: hmGramErrors450
theorem hmGramErrors451_ok : ∀ x ∈ hmGramErrors451, HOk Tryd.prog x := hmemo_cons hGramErrors450_ok hmGramErrors450_ok
def bgramErrors236 : Blk := ⟨[(.lit (.slice none 0 0)),(eI 4),(eS [124]),(eI 2),(eI 4),(.sl 2 0 0 1 none 4),(eI 2),(eS [97]),(eI 2),(eI 6),(.lit (.slice none 0 0)),(eI 5),(eS []),(eI 2),(eI 9)],91,[(2,15),(1,10),(0,5)],3,0,false,2,none⟩
def bgramErrors237 : Blk := ⟨[(eI 2),(eS [97]),(eI 2),(eI 6)],81,[(0,4)],1,0,false,0,none⟩
def hGramErrors451 : HE := ⟨48, [(.sl 0 2 4 6 none 4)], [bgramErrors235], [((.val (.agg [(eI 1),(eS [83]),(eI 2),(eI 1),(.sl 1 2 0 3 none 5)])), [bgramErrors236, bgramErrors237])]⟩
theorem hGramErrors451_ok : HOk Tryd.prog hGramErrors451 := hok_eq mmGramErrors_ok hmGramErrors451_ok folGramErrors (lf := 100000) (k := 1000) (by kernel_rfl)
def hmGramErrors452 : List HE := hGramErrors451 :: hmGramErrors451
theorem hmGramErrors452_ok : ∀ x ∈ hmGramErrors452, HOk Tryd.prog x := hmemo_cons hGramErrors451_ok hmGramErrors451_ok
def bgramErrors238 : Blk := ⟨[(.lit (.slice none 0 0)),(eI 4),(eS [124]),(eI 2),(eI 4),(.sl 3 0 0 1 none 4),(eI 2),(eS [97]),(eI 2),(eI 6),(.lit (.slice none 0 0)),(eI 5),(eS []),(eI 2),(eI 9)],91,[(2,15),(1,10),(0,5)],3,0,false,2,none⟩
def hGramErrors452 : HE := ⟨22, [(.sl 0 2 0 7 none 4)], [bgramErrors235], [((.val (.sl 1 0 0 1 none 5)), [bgramErrors231, bgramErrors238, bgramErrors237])]⟩
theorem hGramErrors452_ok : HOk Tryd.prog hGramErrors452 := hok_eq mmGramErrors_ok hmGramErrors452_ok folGramErrors (lf := 100000) (k := 1000) (by kernel_rfl)
def hmGramErrors453 : List HE := hGramErrors452 :: hmGramErrors452
theorem hmGramErrors453_ok : ∀ x ∈ hmGramErrors453, HOk Tryd.prog x := hmemo_cons hGramErrors452_ok hmGramErrors452_ok
def hGramErrors453 : HE := ⟨21, [(.sl 0 0 0 1 none 5)], [bgramErrors233, bgramErrors236, bgramErrors237], [((.panic (.iface 51 (.agg [(eI 2),(eI 9),(eI 4)]))), [])]⟩
theorem hGramErrors453_ok : HOk Tryd.prog hGramErrors453 := hok_eq mmGramErrors_ok hmGramErrors453_ok folGramErrors (lf := 100000) (k := 1000) (by kernel_rfl)
def hmGramErrors454 : List HE := hGramErrors453 :: hmGramErrors453
theorem hmGramErrors454_ok : ∀ x ∈ hmGramErrors454, HOk Tryd.prog x := hmemo_cons hGramErrors453_ok hmGramErrors453_ok
def hGramErrors454 : HE := ⟨8, [(eS [10,83,58,32,124,32,97,32,124,10])], [], [((.val (.tup [(.agg [(.lit (.slice none 0 0)),(.lit (.slice none 0 0)),(.lit (.slice none 0 0))]),(eI 2),(eI 9),(eI 4)])), [])]⟩
theorem hGramErrors454_ok : HOk Tryd.prog hGramErrors454 := hok_eq mmGramErrors_ok hmGramErrors454_ok folGramErrors (lf := 100000) (k := 1000) (by kernel_rfl)
def hmGramErrors455 : List HE := hGramErrors454 :: hmGramErrors454
theorem hmGramErrors455_ok : ∀ x ∈ hmGramErrors455, HOk Tryd.prog x := hmemo_cons hGramErrors454_ok hmGramErrors454_ok
def bgramErrors239 : Blk := ⟨[(eI 1),(eS [83]),(eI 2),(eI 1),(eI 3),(eS [58]),(eI 2),(eI 2),(eI 4),(eS [124]),(eI 2),(eI 4),(eI 4),(eS [124]),(eI 2),(eI 6)],81,[(3,16),(2,12),(1,8),(0,4)],4,0,false,3,none⟩
def hGramErrors455 : HE := ⟨44, [(eS [83,58,32,124,32,124]),(eI 2)], [], [((.val (.tup [(.sl 0 3 0 4 none 4),(eI 0)])), [bgramErrors239])]⟩
theorem hGramErrors455_ok : HOk Tryd.prog hGramErrors455 := hok_eq mmGramErrors_ok hmGramErrors455_ok folGramErrors (lf := 100000) (k := 1000) (by kernel_rfl)
def hmGramErrors456 : List HE := hGramErrors455 :: hmGramErrors455
theorem hmGramErrors456_ok : ∀ x ∈ hmGramErrors456, HOk Tryd.prog x := hmemo_cons hGramErrors455_ok hmGramErrors455_ok
def bgramErrors240 : Blk := ⟨[(eI 5),(eS []),(eI 1),(eI 1),(eI 1),(eS [83]),(eI 2),(eI 1),(eI 3),(eS [58]),(eI 2),(eI 2),(eI 4),(eS [124]),(eI 2),(eI 4),(eI 4),(eS [124]),(eI 2),(eI 6),(eI 5),(eS []),(eI 2),(eI 7)],81,[(2,24),(1,20),(0,4)],3,0,false,2,none⟩
def hGramErrors456 : HE := ⟨19, [(eS [10,83,58,32,124,32,124,10])], [], [((.val (.tup [(.sl 0 2 0 6 none 4),(eI 0),(eI 0),(eI 0)])), [bgramErrors240])]⟩
theorem hGramErrors456_ok : HOk Tryd.prog hGramErrors456 := hok_eq mmGramErrors_ok hmGramErrors456_ok folGramErrors (lf := 100000) (k := 1000) (by kernel_rfl)
def hmGramErrors457 : List HE := hGramErrors456 :: hmGramErrors456
theorem hmGramErrors457_ok : ∀ x ∈ hmGramErrors457, HOk Tryd.prog x := hmemo_cons hGramErrors456_ok hmGramErrors456_ok
def bgramErrors241 : Blk := ⟨[(.lit (.slice none 0 0)),(eI 4),(eS [124]),(eI 2),(eI 4),(.lit (.slice none 0 0)),(eI 4),(eS [124]),(eI 2),(eI 6),(.lit (.slice none 0 0)),(eI 5),(eS []),(eI 2),(eI 7)],91,[(2,15),(1,10),(0,5)],3,0,false,2,none⟩
def hGramErrors457 : HE := ⟨48, [(.sl 0 2 4 5 none 4)], [bgramErrors240], [((.val (.agg [(eI 1),(eS [83]),(eI 2),(eI 1),(.sl 1 2 0 3 none 5)])), [bgramErrors241])]⟩
theorem hGramErrors457_ok : HOk Tryd.prog hGramErrors457 := hok_eq mmGramErrors_ok hmGramErrors457_ok folGramErrors (lf := 100000) (k := 1000) (by kernel_rfl)
def hmGramErrors458 : List HE := hGramErrors457 :: hmGramErrors457
theorem hmGramErrors458_ok : ∀ x ∈ hmGramErrors458, HOk Tryd.prog x := hmemo_cons hGramErrors457_ok hmGramErrors457_ok
def hGramErrors458 : HE := ⟨22, [(.sl 0 2 0 6 none 4)], [bgramErrors240], [((.val (.sl 1 0 0 1 none 5)), [bgramErrors231, bgramErrors241])]⟩
theorem hGramErrors458_ok : HOk Tryd.prog hGramErrors458 := hok_eq mmGramErrors_ok hmGramErrors458_ok folGramErrors (lf := 100000) (k := 1000) (by kernel_rfl)
def hmGramErrors459 : List HE := hGramErrors458 :: hmGramErrors458
theorem hmGramErrors459_ok : ∀ x ∈ hmGramErrors459, HOk Tryd.prog x := hmemo_cons hGramErrors458_ok hmGramErrors458_ok
def hGramErrors459 : HE := ⟨21, [(.sl 0 0 0 1 none 5)], [bgramErrors233, bgramErrors241], [((.panic (.iface 51 (.agg [(eI 2),(eI 6),(eI 4)]))), [])]⟩
theorem hGramErrors459_ok : HOk Tryd.prog hGramErrors459 := hok_eq mmGramErrors_ok hmGramErrors459_ok folGramErrors (lf := 100000) (k := 1000) (by kernel_rfl)
def hmGramErrors460 : List HE := hGramErrors459 :: hmGramErrors459
theorem hmGramErrors460_ok : ∀ x ∈ hmGramErrors460, HOk Tryd.prog x := hmemo_cons hGramErrors459_ok hmGramErrors459_ok
def hGramErrors460 : HE := ⟨8, [(eS [10,83,58,32,124,32,124,10])], [], [((.val (.tup [(.agg [(.lit (.slice none 0 0)),(.lit (.slice none 0 0)),(.lit (.slice none 0 0))]),(eI 2),(eI 6),(eI 4)])), [])]⟩
theorem hGramErrors460_ok : HOk Tryd.prog hGramErrors460 := hok_eq mmGramErrors_ok hmGramErrors460_ok folGramErrors (lf := 100000) (k := 1000) (by kernel_rfl)
def hmGramErrors461 : List HE := hGramErrors460 :: hmGramErrors460
theorem hmGramErrors461_ok : ∀ x ∈ hmGramErrors461, HOk Tryd.prog x := hmemo_cons hGramErrors460_ok hmGramErrors460_ok
def bgramErrors242 : Blk := ⟨[(eI 1),(eS [83]),(eI 2),(eI 1),(eI 3),(eS [58]),(eI 2),(eI 2),(eI 2),(eS [97]),(eI 2),(eI 4),(eI 2),(eS [98]),(eI 2),(eI 6),(eI 2),(eS [99]),(eI 2),(eI 8),(eI 2),(eS [100]),(eI 2),(eI 10),(eI 2),(eS [101]),(eI 2),(eI 12),(eI 2),(eS [102]),(eI 2),(eI 14),(eI 2),(eS [97]),(eI 2),(eI 16)],81,[(8,36),(7,32),(6,28),(5,24),(4,20),(3,16),(2,12),(1,8),(0,4)],9,0,false,8,none⟩
def hGramErrors461 : HE := ⟨44, [(eS [83,58,32,97,32,98,32,99,32,100,32,101,32,102,32,97]),(eI 2)], [], [((.val (.tup [(.sl 0 8 0 9 none 4),(eI 0)])), [bgramErrors242])]⟩
theorem hGramErrors461_ok : HOk Tryd.prog hGramErrors461 := hok_eq mmGramErrors_ok hmGramErrors461_ok folGramErrors (lf := 100000) (k := 1000) (by kernel_rfl)
def hmGramErrors462 : List HE := hGramErrors461 :: hmGramErrors461
theorem hmGramErrors462_ok : ∀ x ∈ hmGramErrors462, HOk Tryd.prog x := hmemo_cons hGramErrors461_ok hmGramErrors461_ok
def bgramErrors243 : Blk := ⟨[(eI 5),(eS []),(eI 1),(eI 1),(eI 1),(eS [83]),(eI 2),(eI 1),(eI 3),(eS [58]),(eI 2),(eI 2),(eI 2),(eS [97]),(eI 2),(eI 4),(eI 2),(eS [98]),(eI 2),(eI 6),(eI 2),(eS [99]),(eI 2),(eI 8),(eI 2),(eS [100]),(eI 2),(eI 10),(eI 2),(eS [101]),(eI 2),(eI 12),(eI 2),(eS [102]),(eI 2),(eI 14),(eI 2),(eS [97]),(eI 2),(eI 16),(eI 5),(eS []),(eI 2),(eI 17)],81,[(2,44),(1,40),(0,4)],3,0,false,2,none⟩
def hGramErrors462 : HE := ⟨19, [(eS [10,83,58,32,97,32,98,32,99,32,100,32,101,32,102,32,97,10])], [], [((.val (.tup [(.sl 0 2 0 11 none 4),(eI 0),(eI 0),(eI 0)])), [bgramErrors243])]⟩
theorem hGramErrors462_ok : HOk Tryd.prog hGramErrors462 := hok_eq mmGramErrors_ok hmGramErrors462_ok folGramErrors (lf := 100000) (k := 1000) (by kernel_rfl)
def hmGramErrors463 : List HE := hGramErrors462 :: hmGramErrors462
theorem hmGramErrors463_ok : ∀ x ∈ hmGramErrors463, HOk Tryd.prog x := hmemo_cons hGramErrors462_ok hmGramErrors462_ok
def bgramErrors244 : Blk := ⟨[(.sl 2 6 0 7 none 4),(eI 2),(eS [97]),(eI 2),(eI 4)],91,[(0,5)],1,0,false,0,none⟩
def bgramErrors245 : Blk := ⟨[(eI 2),(eS [97]),(eI 2),(eI 4),(eI 2),(eS [98]),(eI 2),(eI 6),(eI 2),(eS [99]),(eI 2),(eI 8),(eI 2),(eS [100]),(eI 2),(eI 10),(eI 2),(eS [101]),(eI 2),(eI 12),(eI 2),(eS [102]),(eI 2),(eI 14),(eI 2),(eS [97]),(eI 2),(eI 16)],81,[(6,28),(5,24),(4,20),(3,16),(2,12),(1,8),(0,4)],7,0,false,6,none⟩
def hGramErrors463 : HE := ⟨48, [(.sl 0 2 4 10 none 4)], [bgramErrors243], [((.val (.agg [(eI 1),(eS [83]),(eI 2),(eI 1),(.sl 1 0 0 1 none 5)])), [bgramErrors244, bgramErrors245])]⟩
theorem hGramErrors463_ok : HOk Tryd.prog hGramErrors463 := hok_eq mmGramErrors_ok hmGramErrors463_ok folGramErrors (lf := 100000) (k := 1000) (by kernel_rfl)
def hmGramErrors464 : List HE := hGramErrors463 :: hmGramErrors463
theorem hmGramErrors464_ok : ∀ x ∈ hmGramErrors464, HOk Tryd.prog x := hmemo_cons hGramErrors463_ok hmGramErrors463_ok
def bgramErrors246 : Blk := ⟨[(.sl 3 6 0 7 none 4),(eI 2),(eS [97]),(eI 2),(eI 4)],91,[(0,5)],1,0,false,0,none⟩
def hGramErrors464 : HE := ⟨22, [(.sl 0 2 0 11 none 4)], [bgramErrors243], [((.val (.sl 1 0 0 1 none 5)), [bgramErrors222, bgramErrors246, bgramErrors245])]⟩
theorem hGramErrors464_ok : HOk Tryd.prog hGramErrors464 := hok_eq mmGramErrors_ok hmGramErrors464_ok folGramErrors (lf := 100000) (k := 1000) (by kernel_rfl)
def hmGramErrors465 : List HE := hGramErrors464 :: hmGramErrors464
theorem hmGramErrors465_ok : ∀ x ∈ hmGramErrors465, HOk Tryd.prog x := hmemo_cons hGramErrors464_ok hmGramErrors464_ok
def hGramErrors465 : HE := ⟨21, [(.sl 0 0 0 1 none 5)], [bgramErrors224, bgramErrors244, bgramErrors245], [((.panic (.iface 51 (.agg [(eI 2),(eI 16),(eI 5)]))), [])]⟩
theorem hGramErrors465_ok : HOk Tryd.prog hGramErrors465 := hok_eq mmGramErrors_ok hmGramErrors465_ok folGramErrors (lf := 100000) (k := 1000) (by kernel_rfl)
def hmGramErrors466 : List HE := hGramErrors465 :: hmGramErrors465
theorem hmGramErrors466_ok : ∀ x ∈ hmGramErrors466, HOk Tryd.prog x := hmemo_cons hGramErrors465_ok hmGramErrors465_ok
def hGramErrors466 : HE := ⟨8, [(eS [10,83,58,32,97,32,98,32,99,32,100,32,101,32,102,32,97,10])], [], [((.val (.tup [(.agg [(.lit (.slice none 0 0)),(.lit (.slice none 0 0)),(.lit (.slice none 0 0))]),(eI 2),(eI 16),(eI 5)])), [])]⟩
theorem hGramErrors466_ok : HOk Tryd.prog hGramErrors466 := hok_eq mmGramErrors_ok hmGramErrors466_ok folGramErrors (lf := 100000) (k := 1000) (by kernel_rfl)
def hmGramErrors467 : List HE := hGramErrors466 :: hmGramErrors466
theorem hmGramErrors467_ok : ∀ x ∈ hmGramErrors467, HOk Tryd.prog x := hmemo_cons hGramErrors466_ok hmGramErrors466_ok
def bgramErrors247 : Blk := ⟨[(eI 1),(eS [83]),(eI 2),(eI 1),(eI 3),(eS [58]),(eI 2),(eI 2),(eI 2),(eS [97]),(eI 2),(eI 4),(eI 2),(eS [98]),(eI 2),(eI 6),(eI 2),(eS [99]),(eI 2),(eI 8),(eI 2),(eS [100]),(eI 2),(eI 10),(eI 2),(eS [101]),(eI 2),(eI 12),(eI 2),(eS [102]),(eI 2),(eI 14),(eI 1),(eS [84]),(eI 2),(eI 16)],81,[(8,36),(7,32),(6,28),(5,24),(4,20),(3,16),(2,12),(1,8),(0,4)],9,0,false,8,none⟩
def hGramErrors467 : HE := ⟨44, [(eS [83,58,32,97,32,98,32,99,32,100,32,101,32,102,32,84]),(eI 2)], [], [((.val (.tup [(.sl 0 8 0 9 none 4),(eI 0)])), [bgramErrors247])]⟩
theorem hGramErrors467_ok : HOk Tryd.prog hGramErrors467 := hok_eq mmGramErrors_ok hmGramErrors467_ok folGramErrors (lf := 100000) (k := 1000) (by kernel_rfl)
def hmGramErrors468 : List HE := hGramErrors467 :: hmGramErrors467
theorem hmGramErrors468_ok : ∀ x ∈ hmGramErrors468, HOk Tryd.prog x := hmemo_cons hGramErrors467_ok hmGramErrors467_ok
def bgramErrors248 : Blk := ⟨[(eI 5),(eS []),(eI 1),(eI 1),(eI 1),(eS [83]),(eI 2),(eI 1),(eI 3),(eS [58]),(eI 2),(eI 2),(eI 2),(eS [97]),(eI 2),(eI 4),(eI 2),(eS [98]),(eI 2),(eI 6),(eI 2),(eS [99]),(eI 2),(eI 8),(eI 2),(eS [100]),(eI 2),(eI 10),(eI 2),(eS [101]),(eI 2),(eI 12),(eI 2),(eS [102]),(eI 2),(eI 14),(eI 1),(eS [84]),(eI 2),(eI 16),(eI 5),(eS []),(eI 2),(eI 17)],81,[(2,44),(1,40),(0,4)],3,0,false,2,none⟩
def hGramErrors468 : HE := ⟨19, [(eS [10,83,58,32,97,32,98,32,99,32,100,32,101,32,102,32,84,10])], [], [((.val (.tup [(.sl 0 2 0 11 none 4),(eI 0),(eI 0),(eI 0)])), [bgramErrors248])]⟩
theorem hGramErrors468_ok : HOk Tryd.prog hGramErrors468 := hok_eq mmGramErrors_ok hmGramErrors468_ok folGramErrors (lf := 100000) (k := 1000) (by kernel_rfl)
def hmGramErrors469 : List HE := hGramErrors468 :: hmGramErrors468
theorem hmGramErrors469_ok : ∀ x ∈ hmGramErrors469, HOk Tryd.prog x := hmemo_cons hGramErrors468_ok hmGramErrors468_ok
def bgramErrors249 : Blk := ⟨[(eI 2),(eS [97]),(eI 2),(eI 4),(eI 2),(eS [98]),(eI 2),(eI 6),(eI 2),(eS [99]),(eI 2),(eI 8),(eI 2),(eS [100]),(eI 2),(eI 10),(eI 2),(eS [101]),(eI 2),(eI 12),(eI 2),(eS [102]),(eI 2),(eI 14),(eI 1),(eS [84]),(eI 2),(eI 16)],81,[(6,28),(5,24),(4,20),(3,16),(2,12),(1,8),(0,4)],7,0,false,6,none⟩
def hGramErrors469 : HE := ⟨48, [(.sl 0 2 4 10 none 4)], [bgramErrors248], [((.val (.agg [(eI 1),(eS [83]),(eI 2),(eI 1),(.sl 1 0 0 1 none 5)])), [bgramErrors244, bgramErrors249])]⟩
theorem hGramErrors469_ok : HOk Tryd.prog hGramErrors469 := hok_eq mmGramErrors_ok hmGramErrors469_ok folGramErrors (lf := 100000) (k := 1000) (by kernel_rfl)
def hmGramErrors470 : List HE := hGramErrors469 :: hmGramErrors469
theorem hmGramErrors470_ok : ∀ x ∈ hmGramErrors470, HOk Tryd.prog x := hmemo_cons hGramErrors469_ok hmGramErrors469_ok
def hGramErrors470 : HE := ⟨22, [(.sl 0 2 0 11 none 4)], [bgramErrors248], [((.val (.sl 1 0 0 1 none 5)), [bgramErrors222, bgramErrors246, bgramErrors249])]⟩
theorem hGramErrors470_ok : HOk Tryd.prog hGramErrors470 := hok_eq mmGramErrors_ok hmGramErrors470_ok folGramErrors (lf := 100000) (k := 1000) (by kernel_rfl)
def hmGramErrors471 : List HE := hGramErrors470 :: hmGramErrors470
theorem hmGramErrors471_ok : ∀ x ∈ hmGramErrors471, HOk Tryd.prog x := hmemo_cons hGramErrors470_ok hmGramErrors470_ok
def hGramErrors471 : HE := ⟨21, [(.sl 0 0 0 1 none 5)], [bgramErrors224, bgramErrors244, bgramErrors249], [((.panic (.iface 51 (.agg [(eI 2),(eI 16),(eI 5)]))), [])]⟩
theorem hGramErrors471_ok : HOk Tryd.prog hGramErrors471 := hok_eq mmGramErrors_ok hmGramErrors471_ok folGramErrors (lf := 100000) (k := 1000) (by kernel_rfl)
def hmGramErrors472 : List HE := hGramErrors471 :: hmGramErrors471
theorem hmGramErrors472_ok : ∀ x ∈ hmGramErrors472, HOk Tryd.prog x := hmemo_cons hGramErrors471_ok hmGramErrors471_ok
def hGramErrors472 : HE := ⟨8, [(eS [10,83,58,32,97,32,98,32,99,32,100,32,101,32,102,32,84,10])], [], [((.val (.tup [(.agg [(.lit (.slice none 0 0)),(.lit (.slice none 0 0)),(.lit (.slice none 0 0))]),(eI 2),(eI 16),(eI 5)])), [])]⟩
theorem hGramErrors472_ok : HOk Tryd.prog hGramErrors472 := hok_eq mmGramErrors_ok hmGramErrors472_ok folGramErrors (lf := 100000) (k := 1000) (by kernel_rfl)
def hmGramErrors473 : List HE := hGramErrors472 :: hmGramErrors472
theorem hmGramErrors473_ok : ∀ x ∈ hmGramErrors473, HOk Tryd.prog x := hmemo_cons hGramErrors472_ok hmGramErrors472_ok
def bgramErrors250 : Blk := ⟨[(eI 1),(eS [83]),(eI 2),(eI 1),(eI 3),(eS [58]),(eI 2),(eI 2),(eI 2),(eS [97]),(eI 2),(eI 4),(eI 2),(eS [98]),(eI 2),(eI 6),(eI 2),(eS [99]),(eI 2),(eI 8),(eI 2),(eS [100]),(eI 2),(eI 10)],81,[(5,24),(4,20),(3,16),(2,12),(1,8),(0,4)],6,0,false,5,none⟩
def hGramErrors473 : HE := ⟨44, [(eS [83,58,32,97,32,98,32,99,32,100]),(eI 2)], [], [((.val (.tup [(.sl 0 5 0 6 none 4),(eI 0)])), [bgramErrors250])]⟩
theorem hGramErrors473_ok : HOk Tryd.prog hGramErrors473 := hok_eq mmGramErrors_ok hmGramErrors473_ok folGramErrors (lf := 100000) (k := 1000) (by kernel_rfl)
def hmGramErrors474 : List HE := hGramErrors473 :: hmGramErrors473
theorem hmGramErrors474_ok : ∀ x ∈ hmGramErrors474, HOk Tryd.prog x := hmemo_cons hGramErrors473_ok hmGramErrors473_ok
def bgramErrors251 : Blk := ⟨[(eI 1),(eS [84]),(eI 3),(eI 1),(eI 3),(eS [58]),(eI 3),(eI 2),(eI 2),(eS [101]),(eI 3),(eI 4),(eI 2),(eS [102]),(eI 3),(eI 6),(eI 2),(eS [103]),(eI 3),(eI 8),(eI 2),(eS [104]),(eI 3),(eI 10),(eI 2),(eS [105]),(eI 3),(eI 12)],81,[(6,28),(5,24),(4,20),(3,16),(2,12),(1,8),(0,4)],7,0,false,6,none⟩
def hGramErrors474 : HE := ⟨44, [(eS [84,58,32,101,32,102,32,103,32,104,32,105]),(eI 3)], [], [((.val (.tup [(.sl 0 6 0 7 none 4),(eI 0)])), [bgramErrors251])]⟩
theorem hGramErrors474_ok : HOk Tryd.prog hGramErrors474 := hok_eq mmGramErrors_ok hmGramErrors474_ok folGramErrors (lf := 100000) (k := 1000) (by kernel_rfl)
def hmGramErrors475 : List HE := hGramErrors474 :: hmGramErrors474
theorem hmGramErrors475_ok : ∀ x ∈ hmGramErrors475, HOk Tryd.prog x := hmemo_cons hGramErrors474_ok hmGramErrors474_ok
def bgramErrors252 : Blk := ⟨[(eI 5),(eS []),(eI 1),(eI 1),(eI 1),(eS [83]),(eI 2),(eI 1),(eI 3),(eS [58]),(eI 2),(eI 2),(eI 2),(eS [97]),(eI 2),(eI 4),(eI 2),(eS [98]),(eI 2),(eI 6),(eI 2),(eS [99]),(eI 2),(eI 8),(eI 2),(eS [100]),(eI 2),(eI 10),(eI 5),(eS []),(eI 2),(eI 11),(eI 1),(eS [84]),(eI 3),(eI 1),(eI 3),(eS [58]),(eI 3),(eI 2),(eI 2),(eS [101]),(eI 3),(eI 4),(eI 2),(eS [102]),(eI 3),(eI 6),(eI 2),(eS [103]),(eI 3),(eI 8),(eI 2),(eS [104]),(eI 3),(eI 10),(eI 2),(eS [105]),(eI 3),(eI 12),(eI 5),(eS []),(eI 3),(eI 13)],81,[(4,64),(3,60),(2,32),(1,28),(0,4)],5,0,false,4,none⟩
def tgramErrors8 : List Nat := [10,83,58,32,97,32,98,32,99,32,100,10,84,58,32,101,32,102,32,103,32,104,32,105,10]
def hGramErrors475 : HE := ⟨19, [(eT tgramErrors8)], [], [((.val (.tup [(.sl 0 4 0 16 none 4),(eI 0),(eI 0),(eI 0)])), [bgramErrors252])]⟩
theorem hGramErrors475_ok : HOk Tryd.prog hGramErrors475 := hok_eq mmGramErrors_ok hmGramErrors475_ok folGramErrors (lf := 100000) (k := 1000) (by kernel_rfl)
def hmGramErrors476 : List HE := hGramErrors475 :: hmGramErrors475
theorem hmGramErrors476_ok : ∀ x ∈ hmGramErrors476, HOk Tryd.prog x := hmemo_cons hGramErrors475_ok hmGramErrors475_ok
def bgramErrors253 : Blk := ⟨[(.sl 2 3 0 4 none 4),(eI 2),(eS [97]),(eI 2),(eI 4)],91,[(0,5)],1,0,false,0,none⟩
def bgramErrors254 : Blk := ⟨[(eI 2),(eS [97]),(eI 2),(eI 4),(eI 2),(eS [98]),(eI 2),(eI 6),(eI 2),(eS [99]),(eI 2),(eI 8),(eI 2),(eS [100]),(eI 2),(eI 10)],81,[(3,16),(2,12),(1,8),(0,4)],4,0,false,3,none⟩
def hGramErrors476 : HE := ⟨48, [(.sl 0 4 4 7 none 4)], [bgramErrors252], [((.val (.agg [(eI 1),(eS [83]),(eI 2),(eI 1),(.sl 1 0 0 1 none 5)])), [bgramErrors253, bgramErrors254])]⟩
theorem hGramErrors476_ok : HOk Tryd.prog hGramErrors476 := hok_eq mmGramErrors_ok hmGramErrors476_ok folGramErrors (lf := 100000) (k := 1000) (by kernel_rfl)
def hmGramErrors477 : List HE := hGramErrors476 :: hmGramErrors476
theorem hmGramErrors477_ok : ∀ x ∈ hmGramErrors477, HOk Tryd.prog x := hmemo_cons hGramErrors476_ok hmGramErrors476_ok
def bgramErrors255 : Blk := ⟨[(.sl 2 4 0 5 none 4),(eI 2),(eS [101]),(eI 3),(eI 4)],91,[(0,5)],1,0,false,0,none⟩
def bgramErrors256 : Blk := ⟨[(eI 2),(eS [101]),(eI 3),(eI 4),(eI 2),(eS [102]),(eI 3),(eI 6),(eI 2),(eS [103]),(eI 3),(eI 8),(eI 2),(eS [104]),(eI 3),(eI 10),(eI 2),(eS [105]),(eI 3),(eI 12)],81,[(4,20),(3,16),(2,12),(1,8),(0,4)],5,0,false,4,none⟩
def hGramErrors477 : HE := ⟨48, [(.sl 0 4 32 8 none 4)], [bgramErrors252], [((.val (.agg [(eI 1),(eS [84]),(eI 3),(eI 1),(.sl 1 0 0 1 none 5)])), [bgramErrors255, bgramErrors256])]⟩
theorem hGramErrors477_ok : HOk Tryd.prog hGramErrors477 := hok_eq mmGramErrors_ok hmGramErrors477_ok folGramErrors (lf := 100000) (k := 1000) (by kernel_rfl)
def hmGramErrors478 : List HE := hGramErrors477 :: hmGramErrors477
theorem hmGramErrors478_ok : ∀ x ∈ hmGramErrors478, HOk Tryd.prog x := hmemo_cons hGramErrors477_ok hmGramErrors477_ok
def bgramErrors257 : Blk := ⟨[(eI 1),(eS [83]),(eI 2),(eI 1),(.sl 2 0 0 1 none 5),(eI 1),(eS [84]),(eI 3),(eI 1),(.sl 4 0 0 1 none 5)],87,[(1,10),(0,5)],2,0,false,1,none⟩
def bgramErrors258 : Blk := ⟨[(.sl 3 3 0 4 none 4),(eI 2),(eS [97]),(eI 2),(eI 4)],91,[(0,5)],1,0,false,0,none⟩
def bgramErrors259 : Blk := ⟨[(.sl 5 4 0 5 none 4),(eI 2),(eS [101]),(eI 3),(eI 4)],91,[(0,5)],1,0,false,0,none⟩
def hGramErrors478 : HE := ⟨22, [(.sl 0 4 0 16 none 4)], [bgramErrors252], [((.val (.sl 1 1 0 2 none 5)), [bgramErrors257, bgramErrors258, bgramErrors254, bgramErrors259, bgramErrors256])]⟩
theorem hGramErrors478_ok : HOk Tryd.prog hGramErrors478 := hok_eq mmGramErrors_ok hmGramErrors478_ok folGramErrors (lf := 100000) (k := 1000) (by kernel_rfl)
def hmGramErrors479 : List HE := hGramErrors478 :: hmGramErrors478
theorem hmGramErrors479_ok : ∀ x ∈ hmGramErrors479, HOk Tryd.prog x := hmemo_cons hGramErrors478_ok hmGramErrors478_ok
def bgramErrors260 : Blk := ⟨[(eI 1),(eS [83]),(eI 2),(eI 1),(.sl 1 0 0 1 none 5),(eI 1),(eS [84]),(eI 3),(eI 1),(.sl 3 0 0 1 none 5)],87,[(1,10),(0,5)],2,0,false,1,none⟩
def bgramErrors261 : Blk := ⟨[(.sl 4 4 0 5 none 4),(eI 2),(eS [101]),(eI 3),(eI 4)],91,[(0,5)],1,0,false,0,none⟩
def hGramErrors479 : HE := ⟨21, [(.sl 0 1 0 2 none 5)], [bgramErrors260, bgramErrors253, bgramErrors254, bgramErrors261, bgramErrors256], [((.panic (.iface 51 (.agg [(eI 3),(eI 12),(eI 5)]))), [])]⟩
theorem hGramErrors479_ok : HOk Tryd.prog hGramErrors479 := hok_eq mmGramErrors_ok hmGramErrors479_ok folGramErrors (lf := 100000) (k := 1000) (by kernel_rfl)
def hmGramErrors480 : List HE := hGramErrors479 :: hmGramErrors479
theorem hmGramErrors480_ok : ∀ x ∈ hmGramErrors480, HOk Tryd.prog x := hmemo_cons hGramErrors479_ok hmGramErrors479_ok
def hGramErrors480 : HE := ⟨8, [(eT tgramErrors8)], [], [((.val (.tup [(.agg [(.lit (.slice none 0 0)),(.lit (.slice none 0 0)),(.lit (.slice none 0 0))]),(eI 3),(eI 12),(eI 5)])), [])]⟩
theorem hGramErrors480_ok : HOk Tryd.prog hGramErrors480 := hok_eq mmGramErrors_ok hmGramErrors480_ok folGramErrors (lf := 100000) (k := 1000) (by kernel_rfl)
def hmGramErrors481 : List HE := hGramErrors480 :: hmGramErrors480
theorem hmGramErrors481_ok : ∀ x ∈ hmGramErrors481, HOk Tryd.prog x := hmemo_cons hGramErrors480_ok hmGramErrors480_ok
def bgramErrors262 : Blk := ⟨[(eI 1),(eS [84]),(eI 3),(eI 1),(eI 3),(eS [58]),(eI 3),(eI 2),(eI 1),(eS [83]),(eI 3),(eI 4)],81,[(2,12),(1,8),(0,4)],3,0,false,2,none⟩
def hGramErrors481 : HE := ⟨44, [(eS [84,58,32,83]),(eI 3)], [], [((.val (.tup [(.sl 0 2 0 3 none 4),(eI 0)])), [bgramErrors262])]⟩
theorem hGramErrors481_ok : HOk Tryd.prog hGramErrors481 := hok_eq mmGramErrors_ok hmGramErrors481_ok folGramErrors (lf := 100000) (k := 1000) (by kernel_rfl)
def hmGramErrors482 : List HE := hGramErrors481 :: hmGramErrors481
theorem hmGramErrors482_ok : ∀ x ∈ hmGramErrors482, HOk Tryd.prog x := hmemo_cons hGramErrors481_ok hmGramErrors481_ok
def hGramErrors482 : HE := ⟨44, [(eS [85,58,32,59]),(eI 4)], [], [((.val (.tup [(.lit (.slice none 0 0)),(eI 4)])), [])]⟩
theorem hGramErrors482_ok : HOk Tryd.prog hGramErrors482 := hok_eq mmGramErrors_ok hmGramErrors482_ok folGramErrors (lf := 100000) (k := 1000) (by kernel_rfl)
def hmGramErrors483 : List HE := hGramErrors482 :: hmGramErrors482
theorem hmGramErrors483_ok : ∀ x ∈ hmGramErrors483, HOk Tryd.prog x := hmemo_cons hGramErrors482_ok hmGramErrors482_ok
def hGramErrors483 : HE := ⟨19, [(eS [10,83,58,32,84,10,84,58,32,83,10,85,58,32,59,10])], [], [((.val (.tup [(.lit (.slice none 0 0)),(eI 4),(eI 4),(eI 2)])), [])]⟩
theorem hGramErrors483_ok : HOk Tryd.prog hGramErrors483 := hok_eq mmGramErrors_ok hmGramErrors483_ok folGramErrors (lf := 100000) (k := 1000) (by kernel_rfl)
def hmGramErrors484 : List HE := hGramErrors483 :: hmGramErrors483
theorem hmGramErrors484_ok : ∀ x ∈ hmGramErrors484, HOk Tryd.prog x := hmemo_cons hGramErrors483_ok hmGramErrors483_ok
def hGramErrors484 : HE := ⟨8, [(eS [10,83,58,32,84,10,84,58,32,83,10,85,58,32,59,10])], [], [((.val (.tup [(.agg [(.lit (.slice none 0 0)),(.lit (.slice none 0 0)),(.lit (.slice none 0 0))]),(eI 4),(eI 4),(eI 2)])), [])]⟩
theorem hGramErrors484_ok : HOk Tryd.prog hGramErrors484 := hok_eq mmGramErrors_ok hmGramErrors484_ok folGramErrors (lf := 100000) (k := 1000) (by kernel_rfl)
def hmGramErrors485 : List HE := hGramErrors484 :: hmGramErrors484
theorem hmGramErrors485_ok : ∀ x ∈ hmGramErrors485, HOk Tryd.prog x := hmemo_cons hGramErrors484_ok hmGramErrors484_ok
def bgramErrors263 : Blk := ⟨[(eI 5),(eS []),(eI 1),(eI 1)],81,[(0,4)],1,0,false,0,none⟩
def hGramErrors485 : HE := ⟨19, [(eS [10])], [], [((.val (.tup [(.sl 0 0 0 1 none 4),(eI 0),(eI 0),(eI 0)])), [bgramErrors263])]⟩
theorem hGramErrors485_ok : HOk Tryd.prog hGramErrors485 := hok_eq mmGramErrors_ok hmGramErrors485_ok folGramErrors (lf := 100000) (k := 1000) (by kernel_rfl)
def hmGramErrors486 : List HE := hGramErrors485 :: hmGramErrors485
theorem hmGramErrors486_ok : ∀ x ∈ hmGramErrors486, HOk Tryd.prog x := hmemo_cons hGramErrors485_ok hmGramErrors485_ok
def hGramErrors486 : HE := ⟨22, [(.sl 0 0 0 1 none 4)], [bgramErrors263], [((.val (.lit (.slice none 0 0))), [])]⟩
theorem hGramErrors486_ok : HOk Tryd.prog hGramErrors486 := hok_eq mmGramErrors_ok hmGramErrors486_ok folGramErrors (lf := 100000) (k := 1000) (by kernel_rfl)
def hmGramErrors487 : List HE := hGramErrors486 :: hmGramErrors486
theorem hmGramErrors487_ok : ∀ x ∈ hmGramErrors487, HOk Tryd.prog x := hmemo_cons hGramErrors486_ok hmGramErrors486_ok
def hGramErrors487 : HE := ⟨8, [(eS [10])], [], [((.val (.tup [(.agg [(.lit (.slice none 0 0)),(.lit (.slice none 0 0)),(.lit (.slice none 0 0))]),(eI 0),(eI 0),(eI 2)])), [])]⟩
theorem hGramErrors487_ok : HOk Tryd.prog hGramErrors487 := hok_eq mmGramErrors_ok hmGramErrors487_ok folGramErrors (lf := 100000) (k := 1000) (by kernel_rfl)
def hmGramErrors488 : List HE := hGramErrors487 :: hmGramErrors487
theorem hmGramErrors488_ok : ∀ x ∈ hmGramErrors488, HOk Tryd.prog x := hmemo_cons hGramErrors487_ok hmGramErrors487_ok
def hGramErrors488 : HE := ⟨44, [(eS [35,32,97]),(eI 2)], [], [((.val (.tup [(.lit (.slice none 0 0)),(eI 0)])), [])]⟩
theorem hGramErrors488_ok : HOk Tryd.prog hGramErrors488 := hok_eq mmGramErrors_ok hmGramErrors488_ok folGramErrors (lf := 100000) (k := 1000) (by kernel_rfl)
def hmGramErrors489 : List HE := hGramErrors488 :: hmGramErrors488
theorem hmGramErrors489_ok : ∀ x ∈ hmGramErrors489, HOk Tryd.prog x := hmemo_cons hGramErrors488_ok hmGramErrors488_ok
def bgramErrors264 : Blk := ⟨[(eI 5),(eS []),(eI 1),(eI 1),(eI 5),(eS []),(eI 2),(eI 4)],81,[(1,8),(0,4)],2,0,false,1,none⟩
def hGramErrors489 : HE := ⟨19, [(eS [10,35,32,97,10])], [], [((.val (.tup [(.sl 0 1 0 2 none 4),(eI 0),(eI 0),(eI 0)])), [bgramErrors264])]⟩
theorem hGramErrors489_ok : HOk Tryd.prog hGramErrors489 := hok_eq mmGramErrors_ok hmGramErrors489_ok folGramErrors (lf := 100000) (k := 1000) (by kernel_rfl)
def hmGramErrors490 : List HE := hGramErrors489 :: hmGramErrors489
theorem hmGramErrors490_ok : ∀ x ∈ hmGramErrors490, HOk Tryd.prog x := hmemo_cons hGramErrors489_ok hmGramErrors489_ok
def hGramErrors490 : HE := ⟨22, [(.sl 0 1 0 2 none 4)], [bgramErrors264], [((.val (.lit (.slice none 0 0))), [])]⟩
theorem hGramErrors490_ok : HOk Tryd.prog hGramErrors490 := hok_eq mmGramErrors_ok hmGramErrors490_ok folGramErrors (lf := 100000) (k := 1000) (by kernel_rfl)
def hmGramErrors491 : List HE := hGramErrors490 :: hmGramErrors490
theorem hmGramErrors491_ok : ∀ x ∈ hmGramErrors491, HOk Tryd.prog x := hmemo_cons hGramErrors490_ok hmGramErrors490_ok
def hGramErrors491 : HE := ⟨8, [(eS [10,35,32,97,10])], [], [((.val (.tup [(.agg [(.lit (.slice none 0 0)),(.lit (.slice none 0 0)),(.lit (.slice none 0 0))]),(eI 0),(eI 0),(eI 2)])), [])]⟩
theorem hGramErrors491_ok : HOk Tryd.prog hGramErrors491 := hok_eq mmGramErrors_ok hmGramErrors491_ok folGramErrors (lf := 100000) (k := 1000) (by kernel_rfl)
def hmGramErrors492 : List HE := hGramErrors491 :: hmGramErrors491
theorem hmGramErrors492_ok : ∀ x ∈ hmGramErrors492, HOk Tryd.prog x := hmemo_cons hGramErrors491_ok hmGramErrors491_ok
def bgramErrors265 : Blk := ⟨[(eI 1),(eS [83]),(eI 2),(eI 1),(eI 3),(eS [58]),(eI 2),(eI 2),(eI 1),(eS [83]),(eI 2),(eI 4)],81,[(2,12),(1,8),(0,4)],3,0,false,2,none⟩
def hGramErrors492 : HE := ⟨44, [(eS [83,58,32,83]),(eI 2)], [], [((.val (.tup [(.sl 0 2 0 3 none 4),(eI 0)])), [bgramErrors265])]⟩
theorem hGramErrors492_ok : HOk Tryd.prog hGramErrors492 := hok_eq mmGramErrors_ok hmGramErrors492_ok folGramErrors (lf := 100000) (k := 1000) (by kernel_rfl)
def hmGramErrors493 : List HE := hGramErrors492 :: hmGramErrors492
theorem hmGramErrors493_ok : ∀ x ∈ hmGramErrors493, HOk Tryd.prog x := hmemo_cons hGramErrors492_ok hmGramErrors492_ok
def bgramErrors266 : Blk := ⟨[(eI 5),(eS []),(eI 1),(eI 1),(eI 1),(eS [83]),(eI 2),(eI 1),(eI 3),(eS [58]),(eI 2),(eI 2),(eI 1),(eS [83]),(eI 2),(eI 4),(eI 5),(eS []),(eI 2),(eI 5)],81,[(2,20),(1,16),(0,4)],3,0,false,2,none⟩
def hGramErrors493 : HE := ⟨19, [(eS [10,83,58,32,83,10])], [], [((.val (.tup [(.sl 0 2 0 5 none 4),(eI 0),(eI 0),(eI 0)])), [bgramErrors266])]⟩
theorem hGramErrors493_ok : HOk Tryd.prog hGramErrors493 := hok_eq mmGramErrors_ok hmGramErrors493_ok folGramErrors (lf := 100000) (k := 1000) (by kernel_rfl)
def hmGramErrors494 : List HE := hGramErrors493 :: hmGramErrors493
theorem hmGramErrors494_ok : ∀ x ∈ hmGramErrors494, HOk Tryd.prog x := hmemo_cons hGramErrors493_ok hmGramErrors493_ok
def bgramErrors267 : Blk := ⟨[(.sl 2 0 0 1 none 4),(eI 1),(eS [83]),(eI 2),(eI 4)],91,[(0,5)],1,0,false,0,none⟩
def bgramErrors268 : Blk := ⟨[(eI 1),(eS [83]),(eI 2),(eI 4)],81,[(0,4)],1,0,false,0,none⟩
def hGramErrors494 : HE := ⟨48, [(.sl 0 2 4 4 none 4)], [bgramErrors266], [((.val (.agg [(eI 1),(eS [83]),(eI 2),(eI 1),(.sl 1 0 0 1 none 5)])), [bgramErrors267, bgramErrors268])]⟩
theorem hGramErrors494_ok : HOk Tryd.prog hGramErrors494 := hok_eq mmGramErrors_ok hmGramErrors494_ok folGramErrors (lf := 100000) (k := 1000) (by kernel_rfl)
def hmGramErrors495 : List HE := hGramErrors494 :: hmGramErrors494
theorem hmGramErrors495_ok : ∀ x ∈ hmGramErrors495, HOk Tryd.prog x := hmemo_cons hGramErrors494_ok hmGramErrors494_ok
def bgramErrors269 : Blk := ⟨[(.sl 3 0 0 1 none 4),(eI 1),(eS [83]),(eI 2),(eI 4)],91,[(0,5)],1,0,false,0,none⟩
def hGramErrors495 : HE := ⟨22, [(.sl 0 2 0 5 none 4)], [bgramErrors266], [((.val (.sl 1 0 0 1 none 5)), [bgramErrors222, bgramErrors269, bgramErrors268])]⟩
theorem hGramErrors495_ok : HOk Tryd.prog hGramErrors495 := hok_eq mmGramErrors_ok hmGramErrors495_ok folGramErrors (lf := 100000) (k := 1000) (by kernel_rfl)
def hmGramErrors496 : List HE := hGramErrors495 :: hmGramErrors495
theorem hmGramErrors496_ok : ∀ x ∈ hmGramErrors496, HOk Tryd.prog x := hmemo_cons hGramErrors495_ok hmGramErrors495_ok
def hGramErrors496 : HE := ⟨21, [(.sl 0 0 0 1 none 5)], [bgramErrors224, bgramErrors267, bgramErrors268], [((.panic (.iface 51 (.agg [(eI 0),(eI 0),(eI 2)]))), [])]⟩
theorem hGramErrors496_ok : HOk Tryd.prog hGramErrors496 := hok_eq mmGramErrors_ok hmGramErrors496_ok folGramErrors (lf := 100000) (k := 1000) (by kernel_rfl)
def hmGramErrors497 : List HE := hGramErrors496 :: hmGramErrors496
theorem hmGramErrors497_ok : ∀ x ∈ hmGramErrors497, HOk Tryd.prog x := hmemo_cons hGramErrors496_ok hmGramErrors496_ok
def hGramErrors497 : HE := ⟨8, [(eS [10,83,58,32,83,10])], [], [((.val (.tup [(.agg [(.lit (.slice none 0 0)),(.lit (.slice none 0 0)),(.lit (.slice none 0 0))]),(eI 0),(eI 0),(eI 2)])), [])]⟩
theorem hGramErrors497_ok : HOk Tryd.prog hGramErrors497 := hok_eq mmGramErrors_ok hmGramErrors497_ok folGramErrors (lf := 100000) (k := 1000) (by kernel_rfl)
def hmGramErrors498 : List HE := hGramErrors497 :: hmGramErrors497
theorem hmGramErrors498_ok : ∀ x ∈ hmGramErrors498, HOk Tryd.prog x := hmemo_cons hGramErrors497_ok hmGramErrors497_ok
def bgramErrors270 : Blk := ⟨[(eI 1),(eS [83]),(eI 2),(eI 1),(eI 3),(eS [58]),(eI 2),(eI 2)],81,[(1,8),(0,4)],2,0,false,1,none⟩
def hGramErrors498 : HE := ⟨44, [(eS [83,58]),(eI 2)], [], [((.val (.tup [(.sl 0 1 0 2 none 4),(eI 0)])), [bgramErrors270])]⟩
theorem hGramErrors498_ok : HOk Tryd.prog hGramErrors498 := hok_eq mmGramErrors_ok hmGramErrors498_ok folGramErrors (lf := 100000) (k := 1000) (by kernel_rfl)
def hmGramErrors499 : List HE := hGramErrors498 :: hmGramErrors498
theorem hmGramErrors499_ok : ∀ x ∈ hmGramErrors499, HOk Tryd.prog x := hmemo_cons hGramErrors498_ok hmGramErrors498_ok
def bgramErrors271 : Blk := ⟨[(eI 5),(eS []),(eI 1),(eI 1),(eI 1),(eS [83]),(eI 2),(eI 1),(eI 3),(eS [58]),(eI 2),(eI 2),(eI 5),(eS []),(eI 2),(eI 3)],81,[(2,16),(1,12),(0,4)],3,0,false,2,none⟩
def hGramErrors499 : HE := ⟨19, [(eS [10,83,58,10])], [], [((.val (.tup [(.sl 0 2 0 4 none 4),(eI 0),(eI 0),(eI 0)])), [bgramErrors271])]⟩
theorem hGramErrors499_ok : HOk Tryd.prog hGramErrors499 := hok_eq mmGramErrors_ok hmGramErrors499_ok folGramErrors (lf := 100000) (k := 1000) (by kernel_rfl)
def hmGramErrors500 : List HE := hGramErrors499 :: hmGramErrors499
theorem hmGramErrors500_ok : ∀ x ∈ hmGramErrors500, HOk Tryd.prog x := hmemo_cons hGramErrors499_ok hmGramErrors499_ok
def bgramErrors272 : Blk := ⟨[(.lit (.slice none 0 0)),(eI 5),(eS []),(eI 2),(eI 3)],91,[(0,5)],1,0,false,0,none⟩
def hGramErrors500 : HE := ⟨48, [(.sl 0 2 4 3 none 4)], [bgramErrors271], [((.val (.agg [(eI 1),(eS [83]),(eI 2),(eI 1),(.sl 1 0 0 1 none 5)])), [bgramErrors272])]⟩
theorem hGramErrors500_ok : HOk Tryd.prog hGramErrors500 := hok_eq mmGramErrors_ok hmGramErrors500_ok folGramErrors (lf := 100000) (k := 1000) (by kernel_rfl)
def hmGramErrors501 : List HE := hGramErrors500 :: hmGramErrors500
theorem hmGramErrors501_ok : ∀ x ∈ hmGramErrors501, HOk Tryd.prog x := hmemo_cons hGramErrors500_ok hmGramErrors500_ok
def hGramErrors501 : HE := ⟨22, [(.sl 0 2 0 4 none 4)], [bgramErrors271], [((.val (.sl 1 0 0 1 none 5)), [bgramErrors222, bgramErrors272])]⟩
theorem hGramErrors501_ok : HOk Tryd.prog hGramErrors501 := hok_eq mmGramErrors_ok hmGramErrors501_ok folGramErrors (lf := 100000) (k := 1000) (by kernel_rfl)
def hmGramErrors502 : List HE := hGramErrors501 :: hmGramErrors501
theorem hmGramErrors502_ok : ∀ x ∈ hmGramErrors502, HOk Tryd.prog x := hmemo_cons hGramErrors501_ok hmGramErrors501_ok
def hGramErrors502 : HE := ⟨21, [(.sl 0 0 0 1 none 5)], [bgramErrors224, bgramErrors272], [((.panic (.iface 51 (.agg [(eI 0),(eI 0),(eI 2)]))), [])]⟩
theorem hGramErrors502_ok : HOk Tryd.prog hGramErrors502 := hok_eq mmGramErrors_ok hmGramErrors502_ok folGramErrors (lf := 100000) (k := 1000) (by kernel_rfl)
def hmGramErrors503 : List HE := hGramErrors502 :: hmGramErrors502
theorem hmGramErrors503_ok : ∀ x ∈ hmGramErrors503, HOk Tryd.prog x := hmemo_cons hGramErrors502_ok hmGramErrors502_ok
def hGramErrors503 : HE := ⟨8, [(eS [10,83,58,10])], [], [((.val (.tup [(.agg [(.lit (.slice none 0 0)),(.lit (.slice none 0 0)),(.lit (.slice none 0 0))]),(eI 0),(eI 0),(eI 2)])), [])]⟩
theorem hGramErrors503_ok : HOk Tryd.prog hGramErrors503 := hok_eq mmGramErrors_ok hmGramErrors503_ok folGramErrors (lf := 100000) (k := 1000) (by kernel_rfl)
def hmGramErrors504 : List HE := hGramErrors503 :: hmGramErrors503
theorem hmGramErrors504_ok : ∀ x ∈ hmGramErrors504, HOk Tryd.prog x := hmemo_cons hGramErrors503_ok hmGramErrors503_ok
def bgramErrors273 : Blk := ⟨[(eI 1),(eS [83]),(eI 2),(eI 1),(eI 3),(eS [58]),(eI 2),(eI 2),(eI 1),(eS [84]),(eI 2),(eI 4),(eI 4),(eS [124]),(eI 2),(eI 6)],81,[(3,16),(2,12),(1,8),(0,4)],4,0,false,3,none⟩
def hGramErrors504 : HE := ⟨44, [(eS [83,58,32,84,32,124]),(eI 2)], [], [((.val (.tup [(.sl 0 3 0 4 none 4),(eI 0)])), [bgramErrors273])]⟩
theorem hGramErrors504_ok : HOk Tryd.prog hGramErrors504 := hok_eq mmGramErrors_ok hmGramErrors504_ok folGramErrors (lf := 100000) (k := 1000) (by kernel_rfl)
def hmGramErrors505 : List HE := hGramErrors504 :: hmGramErrors504
theorem hmGramErrors505_ok : ∀ x ∈ hmGramErrors505, HOk Tryd.prog x := hmemo_cons hGramErrors504_ok hmGramErrors504_ok
def bgramErrors274 : Blk := ⟨[(eI 5),(eS []),(eI 1),(eI 1),(eI 1),(eS [83]),(eI 2),(eI 1),(eI 3),(eS [58]),(eI 2),(eI 2),(eI 1),(eS [84]),(eI 2),(eI 4),(eI 4),(eS [124]),(eI 2),(eI 6),(eI 5),(eS []),(eI 2),(eI 7),(eI 1),(eS [84]),(eI 3),(eI 1),(eI 3),(eS [58]),(eI 3),(eI 2),(eI 1),(eS [83]),(eI 3),(eI 4),(eI 5),(eS []),(eI 3),(eI 5)],81,[(4,40),(3,36),(2,24),(1,20),(0,4)],5,0,false,4,none⟩
def hGramErrors505 : HE := ⟨19, [(eS [10,83,58,32,84,32,124,10,84,58,32,83,10])], [], [((.val (.tup [(.sl 0 4 0 10 none 4),(eI 0),(eI 0),(eI 0)])), [bgramErrors274])]⟩
theorem hGramErrors505_ok : HOk Tryd.prog hGramErrors505 := hok_eq mmGramErrors_ok hmGramErrors505_ok folGramErrors (lf := 100000) (k := 1000) (by kernel_rfl)
def hmGramErrors506 : List HE := hGramErrors505 :: hmGramErrors505
theorem hmGramErrors506_ok : ∀ x ∈ hmGramErrors506, HOk Tryd.prog x := hmemo_cons hGramErrors505_ok hmGramErrors505_ok
def bgramErrors275 : Blk := ⟨[(.sl 2 0 0 1 none 4),(eI 1),(eS [84]),(eI 2),(eI 4),(.lit (.slice none 0 0)),(eI 5),(eS []),(eI 2),(eI 7)],91,[(1,10),(0,5)],2,0,false,1,none⟩
def hGramErrors506 : HE := ⟨48, [(.sl 0 4 4 5 none 4)], [bgramErrors274], [((.val (.agg [(eI 1),(eS [83]),(eI 2),(eI 1),(.sl 1 1 0 2 none 5)])), [bgramErrors275, bgramErrors211])]⟩
theorem hGramErrors506_ok : HOk Tryd.prog hGramErrors506 := hok_eq mmGramErrors_ok hmGramErrors506_ok folGramErrors (lf := 100000) (k := 1000) (by kernel_rfl)
def hmGramErrors507 : List HE := hGramErrors506 :: hmGramErrors506
theorem hmGramErrors507_ok : ∀ x ∈ hmGramErrors507, HOk Tryd.prog x := hmemo_cons hGramErrors506_ok hmGramErrors506_ok
def hGramErrors507 : HE := ⟨48, [(.sl 0 4 24 4 none 4)], [bgramErrors274], [((.val (.agg [(eI 1),(eS [84]),(eI 3),(eI 1),(.sl 1 0 0 1 none 5)])), [bgramErrors183, bgramErrors184])]⟩
theorem hGramErrors507_ok : HOk Tryd.prog hGramErrors507 := hok_eq mmGramErrors_ok hmGramErrors507_ok folGramErrors (lf := 100000) (k := 1000) (by kernel_rfl)
def hmGramErrors508 : List HE := hGramErrors507 :: hmGramErrors507
theorem hmGramErrors508_ok : ∀ x ∈ hmGramErrors508, HOk Tryd.prog x := hmemo_cons hGramErrors507_ok hmGramErrors507_ok
def bgramErrors276 : Blk := ⟨[(eI 1),(eS [83]),(eI 2),(eI 1),(.sl 2 1 0 2 none 5),(eI 1),(eS [84]),(eI 3),(eI 1),(.sl 4 0 0 1 none 5)],87,[(1,10),(0,5)],2,0,false,1,none⟩
def bgramErrors277 : Blk := ⟨[(.sl 3 0 0 1 none 4),(eI 1),(eS [84]),(eI 2),(eI 4),(.lit (.slice none 0 0)),(eI 5),(eS []),(eI 2),(eI 7)],91,[(1,10),(0,5)],2,0,false,1,none⟩
def bgramErrors278 : Blk := ⟨[(.sl 5 0 0 1 none 4),(eI 1),(eS [83]),(eI 3),(eI 4)],91,[(0,5)],1,0,false,0,none⟩
def hGramErrors508 : HE := ⟨22, [(.sl 0 4 0 10 none 4)], [bgramErrors274], [((.val (.sl 1 1 0 2 none 5)), [bgramErrors276, bgramErrors277, bgramErrors211, bgramErrors278, bgramErrors184])]⟩
theorem hGramErrors508_ok : HOk Tryd.prog hGramErrors508 := hok_eq mmGramErrors_ok hmGramErrors508_ok folGramErrors (lf := 100000) (k := 1000) (by kernel_rfl)
def hmGramErrors509 : List HE := hGramErrors508 :: hmGramErrors508
theorem hmGramErrors509_ok : ∀ x ∈ hmGramErrors509, HOk Tryd.prog x := hmemo_cons hGramErrors508_ok hmGramErrors508_ok
def bgramErrors279 : Blk := ⟨[(eI 1),(eS [83]),(eI 2),(eI 1),(.sl 1 1 0 2 none 5),(eI 1),(eS [84]),(eI 3),(eI 1),(.sl 3 0 0 1 none 5)],87,[(1,10),(0,5)],2,0,false,1,none⟩
def bgramErrors280 : Blk := ⟨[(.sl 4 0 0 1 none 4),(eI 1),(eS [83]),(eI 3),(eI 4)],91,[(0,5)],1,0,false,0,none⟩
def hGramErrors509 : HE := ⟨21, [(.sl 0 1 0 2 none 5)], [bgramErrors279, bgramErrors275, bgramErrors211, bgramErrors280, bgramErrors184], [((.panic (.iface 51 (.agg [(eI 0),(eI 0),(eI 2)]))), [])]⟩
theorem hGramErrors509_ok : HOk Tryd.prog hGramErrors509 := hok_eq mmGramErrors_ok hmGramErrors509_ok folGramErrors (lf := 100000) (k := 1000) (by kernel_rfl)
def hmGramErrors510 : List HE := hGramErrors509 :: hmGramErrors509
theorem hmGramErrors510_ok : ∀ x ∈ hmGramErrors510, HOk Tryd.prog x := hmemo_cons hGramErrors509_ok hmGramErrors509_ok
def hGramErrors510 : HE := ⟨8, [(eS [10,83,58,32,84,32,124,10,84,58,32,83,10])], [], [((.val (.tup [(.agg [(.lit (.slice none 0 0)),(.lit (.slice none 0 0)),(.lit (.slice none 0 0))]),(eI 0),(eI 0),(eI 2)])), [])]⟩
theorem hGramErrors510_ok : HOk Tryd.prog hGramErrors510 := hok_eq mmGramErrors_ok hmGramErrors510_ok folGramErrors (lf := 100000) (k := 1000) (by kernel_rfl)
def hmGramErrors511 : List HE := hGramErrors510 :: hmGramErrors510
theorem hmGramErrors511_ok : ∀ x ∈ hmGramErrors511, HOk Tryd.prog x := hmemo_cons hGramErrors510_ok hmGramErrors510_ok
def hGramErrors511 : HE := ⟨44, [(eS [83,58,32,97,32,59]),(eI 1)], [], [((.val (.tup [(.lit (.slice none 0 0)),(eI 6)])), [])]⟩
theorem hGramErrors511_ok : HOk Tryd.prog hGramErrors511 := hok_eq mmGramErrors_ok hmGramErrors511_ok folGramErrors (lf := 100000) (k := 1000) (by kernel_rfl)
def hmGramErrors512 : List HE := hGramErrors511 :: hmGramErrors511
theorem hmGramErrors512_ok : ∀ x ∈ hmGramErrors512, HOk Tryd.prog x := hmemo_cons hGramErrors511_ok hmGramErrors511_ok
def hGramErrors512 : HE := ⟨19, [(eS [83,58,32,97,32,59])], [], [((.val (.tup [(.lit (.slice none 0 0)),(eI 1),(eI 6),(eI 2)])), [])]⟩
theorem hGramErrors512_ok : HOk Tryd.prog hGramErrors512 := hok_eq mmGramErrors_ok hmGramErrors512_ok folGramErrors (lf := 100000) (k := 1000) (by kernel_rfl)
def hmGramErrors513 : List HE := hGramErrors512 :: hmGramErrors512
theorem hmGramErrors513_ok : ∀ x ∈ hmGramErrors513, HOk Tryd.prog x := hmemo_cons hGramErrors512_ok hmGramErrors512_ok
def hGramErrors513 : HE := ⟨8, [(eS [83,58,32,97,32,59])], [], [((.val (.tup [(.agg [(.lit (.slice none 0 0)),(.lit (.slice none 0 0)),(.lit (.slice none 0 0))]),(eI 1),(eI 6),(eI 2)])), [])]⟩
theorem hGramErrors513_ok : HOk Tryd.prog hGramErrors513 := hok_eq mmGramErrors_ok hmGramErrors513_ok folGramErrors (lf := 100000) (k := 1000) (by kernel_rfl)
def hmGramErrors514 : List HE := hGramErrors513 :: hmGramErrors513
theorem hmGramErrors514_ok : ∀ x ∈ hmGramErrors514, HOk Tryd.prog x := hmemo_cons hGramErrors513_ok hmGramErrors513_ok
def bgramErrors281 : Blk := ⟨[(eI 2),(eS [97]),(eI 1),(eI 1),(eI 3),(eS [58]),(eI 1),(eI 2),(eI 2),(eS [98]),(eI 1),(eI 4)],81,[(2,12),(1,8),(0,4)],3,0,false,2,none⟩
def hGramErrors514 : HE := ⟨44, [(eS [97,58,32,98]),(eI 1)], [], [((.val (.tup [(.sl 0 2 0 3 none 4),(eI 0)])), [bgramErrors281])]⟩
theorem hGramErrors514_ok : HOk Tryd.prog hGramErrors514 := hok_eq mmGramErrors_ok hmGramErrors514_ok folGramErrors (lf := 100000) (k := 1000) (by kernel_rfl)
def hmGramErrors515 : List HE := hGramErrors514 :: hmGramErrors514
theorem hmGramErrors515_ok : ∀ x ∈ hmGramErrors515, HOk Tryd.prog x := hmemo_cons hGramErrors514_ok hmGramErrors514_ok
def bgramErrors282 : Blk := ⟨[(eI 2),(eS [97]),(eI 1),(eI 1),(eI 3),(eS [58]),(eI 1),(eI 2),(eI 2),(eS [98]),(eI 1),(eI 4),(eI 5),(eS []),(eI 1),(eI 5)],81,[(1,16),(0,12)],2,0,false,1,none⟩
def hGramErrors515 : HE := ⟨19, [(eS [97,58,32,98,10])], [], [((.val (.tup [(.sl 0 1 0 4 none 4),(eI 0),(eI 0),(eI 0)])), [bgramErrors282])]⟩
theorem hGramErrors515_ok : HOk Tryd.prog hGramErrors515 := hok_eq mmGramErrors_ok hmGramErrors515_ok folGramErrors (lf := 100000) (k := 1000) (by kernel_rfl)
def hmGramErrors516 : List HE := hGramErrors515 :: hmGramErrors515
theorem hmGramErrors516_ok : ∀ x ∈ hmGramErrors516, HOk Tryd.prog x := hmemo_cons hGramErrors515_ok hmGramErrors515_ok
def hGramErrors516 : HE := ⟨48, [(.sl 0 1 0 4 none 4)], [bgramErrors282], [((.panic (.iface 51 (.agg [(eI 1),(eI 1),(eI 2)]))), [])]⟩
theorem hGramErrors516_ok : HOk Tryd.prog hGramErrors516 := hok_eq mmGramErrors_ok hmGramErrors516_ok folGramErrors (lf := 100000) (k := 1000) (by kernel_rfl)
def hmGramErrors517 : List HE := hGramErrors516 :: hmGramErrors516
theorem hmGramErrors517_ok : ∀ x ∈ hmGramErrors517, HOk Tryd.prog x := hmemo_cons hGramErrors516_ok hmGramErrors516_ok
def hGramErrors517 : HE := ⟨22, [(.sl 0 1 0 4 none 4)], [bgramErrors282], [((.panic (.iface 51 (.agg [(eI 1),(eI 1),(eI 2)]))), [])]⟩
theorem hGramErrors517_ok : HOk Tryd.prog hGramErrors517 := hok_eq mmGramErrors_ok hmGramErrors517_ok folGramErrors (lf := 100000) (k := 1000) (by kernel_rfl)
def hmGramErrors518 : List HE := hGramErrors517 :: hmGramErrors517
theorem hmGramErrors518_ok : ∀ x ∈ hmGramErrors518, HOk Tryd.prog x := hmemo_cons hGramErrors517_ok hmGramErrors517_ok
def hGramErrors518 : HE := ⟨8, [(eS [97,58,32,98,10])], [], [((.val (.tup [(.agg [(.lit (.slice none 0 0)),(.lit (.slice none 0 0)),(.lit (.slice none 0 0))]),(eI 1),(eI 1),(eI 2)])), [])]⟩
theorem hGramErrors518_ok : HOk Tryd.prog hGramErrors518 := hok_eq mmGramErrors_ok hmGramErrors518_ok folGramErrors (lf := 100000) (k := 1000) (by kernel_rfl)
def hmGramErrors519 : List HE := hGramErrors518 :: hmGramErrors518
theorem hmGramErrors519_ok : ∀ x ∈ hmGramErrors519, HOk Tryd.prog x := hmemo_cons hGramErrors518_ok hmGramErrors518_ok
def bgramErrors283 : Blk := ⟨[(eI 1),(eS [83]),(eI 1),(eI 1),(eI 2),(eS [97]),(eI 1),(eI 3)],81,[(1,8),(0,4)],2,0,false,1,none⟩
def hGramErrors519 : HE := ⟨44, [(eS [83,32,97]),(eI 1)], [], [((.val (.tup [(.sl 0 1 0 2 none 4),(eI 0)])), [bgramErrors283])]⟩
theorem hGramErrors519_ok : HOk Tryd.prog hGramErrors519 := hok_eq mmGramErrors_ok hmGramErrors519_ok folGramErrors (lf := 100000) (k := 1000) (by kernel_rfl)
def hmGramErrors520 : List HE := hGramErrors519 :: hmGramErrors519
theorem hmGramErrors520_ok : ∀ x ∈ hmGramErrors520, HOk Tryd.prog x := hmemo_cons hGramErrors519_ok hmGramErrors519_ok
def bgramErrors284 : Blk := ⟨[(eI 1),(eS [83]),(eI 1),(eI 1),(eI 2),(eS [97]),(eI 1),(eI 3),(eI 5),(eS []),(eI 1),(eI 4)],81,[(1,12),(0,8)],2,0,false,1,none⟩
def hGramErrors520 : HE := ⟨19, [(eS [83,32,97,10])], [], [((.val (.tup [(.sl 0 1 0 3 none 4),(eI 0),(eI 0),(eI 0)])), [bgramErrors284])]⟩
theorem hGramErrors520_ok : HOk Tryd.prog hGramErrors520 := hok_eq mmGramErrors_ok hmGramErrors520_ok folGramErrors (lf := 100000) (k := 1000) (by kernel_rfl)
def hmGramErrors521 : List HE := hGramErrors520 :: hmGramErrors520
theorem hmGramErrors521_ok : ∀ x ∈ hmGramErrors521, HOk Tryd.prog x := hmemo_cons hGramErrors520_ok hmGramErrors520_ok
def hGramErrors521 : HE := ⟨48, [(.sl 0 1 0 3 none 4)], [bgramErrors284], [((.panic (.iface 51 (.agg [(eI 1),(eI 3),(eI 2)]))), [])]⟩
theorem hGramErrors521_ok : HOk Tryd.prog hGramErrors521 := hok_eq mmGramErrors_ok hmGramErrors521_ok folGramErrors (lf := 100000) (k := 1000) (by kernel_rfl)
def hmGramErrors522 : List HE := hGramErrors521 :: hmGramErrors521
theorem hmGramErrors522_ok : ∀ x ∈ hmGramErrors522, HOk Tryd.prog x := hmemo_cons hGramErrors521_ok hmGramErrors521_ok
def hGramErrors522 : HE := ⟨22, [(.sl 0 1 0 3 none 4)], [bgramErrors284], [((.panic (.iface 51 (.agg [(eI 1),(eI 3),(eI 2)]))), [])]⟩
theorem hGramErrors522_ok : HOk Tryd.prog hGramErrors522 := hok_eq mmGramErrors_ok hmGramErrors522_ok folGramErrors (lf := 100000) (k := 1000) (by kernel_rfl)
def hmGramErrors523 : List HE := hGramErrors522 :: hmGramErrors522
theorem hmGramErrors523_ok : ∀ x ∈ hmGramErrors523, HOk Tryd.prog x := hmemo_cons hGramErrors522_ok hmGramErrors522_ok
def hGramErrors523 : HE := ⟨8, [(eS [83,32,97,10])], [], [((.val (.tup [(.agg [(.lit (.slice none 0 0)),(.lit (.slice none 0 0)),(.lit (.slice none 0 0))]),(eI 1),(eI 3),(eI 2)])), [])]⟩
theorem hGramErrors523_ok : HOk Tryd.prog hGramErrors523 := hok_eq mmGramErrors_ok hmGramErrors523_ok folGramErrors (lf := 100000) (k := 1000) (by kernel_rfl)
def hmGramErrors524 : List HE := hGramErrors523 :: hmGramErrors523
theorem hmGramErrors524_ok : ∀ x ∈ hmGramErrors524, HOk Tryd.prog x := hmemo_cons hGramErrors523_ok hmGramErrors523_ok
def bgramErrors285 : Blk := ⟨[(eI 1),(eS [83]),(eI 1),(eI 1),(eI 3),(eS [58]),(eI 1),(eI 2),(eI 2),(eS [97]),(eI 1),(eI 4),(eI 3),(eS [58]),(eI 1),(eI 6),(eI 2),(eS [98]),(eI 1),(eI 8)],81,[(4,20),(3,16),(2,12),(1,8),(0,4)],5,0,false,4,none⟩
def hGramErrors524 : HE := ⟨44, [(eS [83,58,32,97,32,58,32,98]),(eI 1)], [], [((.val (.tup [(.sl 0 4 0 5 none 4),(eI 0)])), [bgramErrors285])]⟩
theorem hGramErrors524_ok : HOk Tryd.prog hGramErrors524 := hok_eq mmGramErrors_ok hmGramErrors524_ok folGramErrors (lf := 100000) (k := 1000) (by kernel_rfl)
def hmGramErrors525 : List HE := hGramErrors524 :: hmGramErrors524
theorem hmGramErrors525_ok : ∀ x ∈ hmGramErrors525, HOk Tryd.prog x := hmemo_cons hGramErrors524_ok hmGramErrors524_ok
def bgramErrors286 : Blk := ⟨[(eI 1),(eS [83]),(eI 1),(eI 1),(eI 3),(eS [58]),(eI 1),(eI 2),(eI 2),(eS [97]),(eI 1),(eI 4),(eI 3),(eS [58]),(eI 1),(eI 6),(eI 2),(eS [98]),(eI 1),(eI 8),(eI 5),(eS []),(eI 1),(eI 9)],81,[(1,24),(0,20)],2,0,false,1,none⟩
def hGramErrors525 : HE := ⟨19, [(eS [83,58,32,97,32,58,32,98,10])], [], [((.val (.tup [(.sl 0 1 0 6 none 4),(eI 0),(eI 0),(eI 0)])), [bgramErrors286])]⟩
theorem hGramErrors525_ok : HOk Tryd.prog hGramErrors525 := hok_eq mmGramErrors_ok hmGramErrors525_ok folGramErrors (lf := 100000) (k := 1000) (by kernel_rfl)
def hmGramErrors526 : List HE := hGramErrors525 :: hmGramErrors525
theorem hmGramErrors526_ok : ∀ x ∈ hmGramErrors526, HOk Tryd.prog x := hmemo_cons hGramErrors525_ok hmGramErrors525_ok
def hGramErrors526 : HE := ⟨48, [(.sl 0 1 0 6 none 4)], [bgramErrors286], [((.panic (.iface 51 (.agg [(eI 1),(eI 6),(eI 2)]))), [])]⟩
theorem hGramErrors526_ok : HOk Tryd.prog hGramErrors526 := hok_eq mmGramErrors_ok hmGramErrors526_ok folGramErrors (lf := 100000) (k := 1000) (by kernel_rfl)
def hmGramErrors527 : List HE := hGramErrors526 :: hmGramErrors526
theorem hmGramErrors527_ok : ∀ x ∈ hmGramErrors527, HOk Tryd.prog x := hmemo_cons hGramErrors526_ok hmGramErrors526_ok
def hGramErrors527 : HE := ⟨22, [(.sl 0 1 0 6 none 4)], [bgramErrors286], [((.panic (.iface 51 (.agg [(eI 1),(eI 6),(eI 2)]))), [])]⟩
theorem hGramErrors527_ok : HOk Tryd.prog hGramErrors527 := hok_eq mmGramErrors_ok hmGramErrors527_ok folGramErrors (lf := 100000) (k := 1000) (by kernel_rfl)
def hmGramErrors528 : List HE := hGramErrors527 :: hmGramErrors527
theorem hmGramErrors528_ok : ∀ x ∈ hmGramErrors528, HOk Tryd.prog x := hmemo_cons hGramErrors527_ok hmGramErrors527_ok
def hGramErrors528 : HE := ⟨8, [(eS [83,58,32,97,32,58,32,98,10])], [], [((.val (.tup [(.agg [(.lit (.slice none 0 0)),(.lit (.slice none 0 0)),(.lit (.slice none 0 0))]),(eI 1),(eI 6),(eI 2)])), [])]⟩
theorem hGramErrors528_ok : HOk Tryd.prog hGramErrors528 := hok_eq mmGramErrors_ok hmGramErrors528_ok folGramErrors (lf := 100000) (k := 1000) (by kernel_rfl)
def hmGramErrors529 : List HE := hGramErrors528 :: hmGramErrors528
theorem hmGramErrors529_ok : ∀ x ∈ hmGramErrors529, HOk Tryd.prog x := hmemo_cons hGramErrors528_ok hmGramErrors528_ok
def bgramErrors287 : Blk := ⟨[(eI 1),(eS [83]),(eI 1),(eI 1)],81,[(0,4)],1,0,false,0,none⟩
def hGramErrors529 : HE := ⟨44, [(eS [83]),(eI 1)], [], [((.val (.tup [(.sl 0 0 0 1 none 4),(eI 0)])), [bgramErrors287])]⟩
theorem hGramErrors529_ok : HOk Tryd.prog hGramErrors529 := hok_eq mmGramErrors_ok hmGramErrors529_ok folGramErrors (lf := 100000) (k := 1000) (by kernel_rfl)
def hmGramErrors530 : List HE := hGramErrors529 :: hmGramErrors529
theorem hmGramErrors530_ok : ∀ x ∈ hmGramErrors530, HOk Tryd.prog x := hmemo_cons hGramErrors529_ok hmGramErrors529_ok
def bgramErrors288 : Blk := ⟨[(eI 1),(eS [83]),(eI 1),(eI 1),(eI 5),(eS []),(eI 1),(eI 2)],81,[(1,8),(0,4)],2,0,false,1,none⟩
def hGramErrors530 : HE := ⟨19, [(eS [83,10])], [], [((.val (.tup [(.sl 0 1 0 2 none 4),(eI 0),(eI 0),(eI 0)])), [bgramErrors288])]⟩
theorem hGramErrors530_ok : HOk Tryd.prog hGramErrors530 := hok_eq mmGramErrors_ok hmGramErrors530_ok folGramErrors (lf := 100000) (k := 1000) (by kernel_rfl)
def hmGramErrors531 : List HE := hGramErrors530 :: hmGramErrors530
theorem hmGramErrors531_ok : ∀ x ∈ hmGramErrors531, HOk Tryd.prog x := hmemo_cons hGramErrors530_ok hmGramErrors530_ok
def hGramErrors531 : HE := ⟨48, [(.sl 0 1 0 2 none 4)], [bgramErrors288], [((.panic (.iface 51 (.agg [(eI 1),(eI 2),(eI 2)]))), [])]⟩
theorem hGramErrors531_ok : HOk Tryd.prog hGramErrors531 := hok_eq mmGramErrors_ok hmGramErrors531_ok folGramErrors (lf := 100000) (k := 1000) (by kernel_rfl)
def hmGramErrors532 : List HE := hGramErrors531 :: hmGramErrors531
theorem hmGramErrors532_ok : ∀ x ∈ hmGramErrors532, HOk Tryd.prog x := hmemo_cons hGramErrors531_ok hmGramErrors531_ok
def hGramErrors532 : HE := ⟨22, [(.sl 0 1 0 2 none 4)], [bgramErrors288], [((.panic (.iface 51 (.agg [(eI 1),(eI 2),(eI 2)]))), [])]⟩
theorem hGramErrors532_ok : HOk Tryd.prog hGramErrors532 := hok_eq mmGramErrors_ok hmGramErrors532_ok folGramErrors (lf := 100000) (k := 1000) (by kernel_rfl)
def hmGramErrors533 : List HE := hGramErrors532 :: hmGramErrors532
theorem hmGramErrors533_ok : ∀ x ∈ hmGramErrors533, HOk Tryd.prog x := hmemo_cons hGramErrors532_ok hmGramErrors532_ok
def hGramErrors533 : HE := ⟨8, [(eS [83,10])], [], [((.val (.tup [(.agg [(.lit (.slice none 0 0)),(.lit (.slice none 0 0)),(.lit (.slice none 0 0))]),(eI 1),(eI 2),(eI 2)])), [])]⟩
theorem hGramErrors533_ok : HOk Tryd.prog hGramErrors533 := hok_eq mmGramErrors_ok hmGramErrors533_ok folGramErrors (lf := 100000) (k := 1000) (by kernel_rfl)
def hmGramErrors534 : List HE := hGramErrors533 :: hmGramErrors533
theorem hmGramErrors534_ok : ∀ x ∈ hmGramErrors534, HOk Tryd.prog x := hmemo_cons hGramErrors533_ok hmGramErrors533_ok
def bgramErrors289 : Blk := ⟨[(eI 4),(eS [124]),(eI 1),(eI 1),(eI 2),(eS [97]),(eI 1),(eI 3)],81,[(1,8),(0,4)],2,0,false,1,none⟩
def hGramErrors534 : HE := ⟨44, [(eS [124,32,97]),(eI 1)], [], [((.val (.tup [(.sl 0 1 0 2 none 4),(eI 0)])), [bgramErrors289])]⟩
theorem hGramErrors534_ok : HOk Tryd.prog hGramErrors534 := hok_eq mmGramErrors_ok hmGramErrors534_ok folGramErrors (lf := 100000) (k := 1000) (by kernel_rfl)
def hmGramErrors535 : List HE := hGramErrors534 :: hmGramErrors534
theorem hmGramErrors535_ok : ∀ x ∈ hmGramErrors535, HOk Tryd.prog x := hmemo_cons hGramErrors534_ok hmGramErrors534_ok
def bgramErrors290 : Blk := ⟨[(eI 4),(eS [124]),(eI 1),(eI 1),(eI 2),(eS [97]),(eI 1),(eI 3),(eI 5),(eS []),(eI 1),(eI 4)],81,[(1,12),(0,8)],2,0,false,1,none⟩
def hGramErrors535 : HE := ⟨19, [(eS [124,32,97,10])], [], [((.val (.tup [(.sl 0 1 0 3 none 4),(eI 0),(eI 0),(eI 0)])), [bgramErrors290])]⟩
theorem hGramErrors535_ok : HOk Tryd.prog hGramErrors535 := hok_eq mmGramErrors_ok hmGramErrors535_ok folGramErrors (lf := 100000) (k := 1000) (by kernel_rfl)
def hmGramErrors536 : List HE := hGramErrors535 :: hmGramErrors535
theorem hmGramErrors536_ok : ∀ x ∈ hmGramErrors536, HOk Tryd.prog x := hmemo_cons hGramErrors535_ok hmGramErrors535_ok
def hGramErrors536 : HE := ⟨48, [(.sl 0 1 0 3 none 4)], [bgramErrors290], [((.panic (.iface 51 (.agg [(eI 1),(eI 1),(eI 2)]))), [])]⟩
theorem hGramErrors536_ok : HOk Tryd.prog hGramErrors536 := hok_eq mmGramErrors_ok hmGramErrors536_ok folGramErrors (lf := 100000) (k := 1000) (by kernel_rfl)
def hmGramErrors537 : List HE := hGramErrors536 :: hmGramErrors536
theorem hmGramErrors537_ok : ∀ x ∈ hmGramErrors537, HOk Tryd.prog x := hmemo_cons hGramErrors536_ok hmGramErrors536_ok
def hGramErrors537 : HE := ⟨22, [(.sl 0 1 0 3 none 4)], [bgramErrors290], [((.panic (.iface 51 (.agg [(eI 1),(eI 1),(eI 2)]))), [])]⟩
theorem hGramErrors537_ok : HOk Tryd.prog hGramErrors537 := hok_eq mmGramErrors_ok hmGramErrors537_ok folGramErrors (lf := 100000) (k := 1000) (by kernel_rfl)
def hmGramErrors538 : List HE := hGramErrors537 :: hmGramErrors537
theorem hmGramErrors538_ok : ∀ x ∈ hmGramErrors538, HOk Tryd.prog x := hmemo_cons hGramErrors537_ok hmGramErrors537_ok
def hGramErrors538 : HE := ⟨8, [(eS [124,32,97,10])], [], [((.val (.tup [(.agg [(.lit (.slice none 0 0)),(.lit (.slice none 0 0)),(.lit (.slice none 0 0))]),(eI 1),(eI 1),(eI 2)])), [])]⟩
theorem hGramErrors538_ok : HOk Tryd.prog hGramErrors538 := hok_eq mmGramErrors_ok hmGramErrors538_ok folGramErrors (lf := 100000) (k := 1000) (by kernel_rfl)
def hmGramErrors539 : List HE := hGramErrors538 :: hmGramErrors538
theorem hmGramErrors539_ok : ∀ x ∈ hmGramErrors539, HOk Tryd.prog x := hmemo_cons hGramErrors538_ok hmGramErrors538_ok
def bgramErrors291 : Blk := ⟨[(eI 1),(eS [83]),(eI 1),(eI 1),(eI 3),(eS [58]),(eI 1),(eI 2),(eI 1),(eS [84]),(eI 1),(eI 4)],81,[(2,12),(1,8),(0,4)],3,0,false,2,none⟩
def hGramErrors539 : HE := ⟨44, [(eS [83,58,32,84]),(eI 1)], [], [((.val (.tup [(.sl 0 2 0 3 none 4),(eI 0)])), [bgramErrors291])]⟩
theorem hGramErrors539_ok : HOk Tryd.prog hGramErrors539 := hok_eq mmGramErrors_ok hmGramErrors539_ok folGramErrors (lf := 100000) (k := 1000) (by kernel_rfl)
def hmGramErrors540 : List HE := hGramErrors539 :: hmGramErrors539
theorem hmGramErrors540_ok : ∀ x ∈ hmGramErrors540, HOk Tryd.prog x := hmemo_cons hGramErrors539_ok hmGramErrors539_ok
def bgramErrors292 : Blk := ⟨[(eI 1),(eS [83]),(eI 2),(eI 1),(eI 3),(eS [58]),(eI 2),(eI 2),(eI 2),(eS [97]),(eI 2),(eI 4)],81,[(2,12),(1,8),(0,4)],3,0,false,2,none⟩
def hGramErrors540 : HE := ⟨44, [(eS [83,58,32,97]),(eI 2)], [], [((.val (.tup [(.sl 0 2 0 3 none 4),(eI 0)])), [bgramErrors292])]⟩
theorem hGramErrors540_ok : HOk Tryd.prog hGramErrors540 := hok_eq mmGramErrors_ok hmGramErrors540_ok folGramErrors (lf := 100000) (k := 1000) (by kernel_rfl)
def hmGramErrors541 : List HE := hGramErrors540 :: hmGramErrors540
theorem hmGramErrors541_ok : ∀ x ∈ hmGramErrors541, HOk Tryd.prog x := hmemo_cons hGramErrors540_ok hmGramErrors540_ok
def bgramErrors293 : Blk := ⟨[(eI 1),(eS [83]),(eI 1),(eI 1),(eI 3),(eS [58]),(eI 1),(eI 2),(eI 1),(eS [84]),(eI 1),(eI 4),(eI 5),(eS []),(eI 1),(eI 5),(eI 1),(eS [83]),(eI 2),(eI 1),(eI 3),(eS [58]),(eI 2),(eI 2),(eI 2),(eS [97]),(eI 2),(eI 4),(eI 5),(eS []),(eI 2),(eI 5)],81,[(3,32),(2,28),(1,16),(0,12)],4,0,false,3,none⟩
def hGramErrors541 : HE := ⟨19, [(eS [83,58,32,84,10,83,58,32,97,10])], [], [((.val (.tup [(.sl 0 3 0 8 none 4),(eI 0),(eI 0),(eI 0)])), [bgramErrors293])]⟩
theorem hGramErrors541_ok : HOk Tryd.prog hGramErrors541 := hok_eq mmGramErrors_ok hmGramErrors541_ok folGramErrors (lf := 100000) (k := 1000) (by kernel_rfl)
def hmGramErrors542 : List HE := hGramErrors541 :: hmGramErrors541
theorem hmGramErrors542_ok : ∀ x ∈ hmGramErrors542, HOk Tryd.prog x := hmemo_cons hGramErrors541_ok hmGramErrors541_ok
def bgramErrors294 : Blk := ⟨[(.sl 2 0 0 1 none 4),(eI 1),(eS [84]),(eI 1),(eI 4)],91,[(0,5)],1,0,false,0,none⟩
def bgramErrors295 : Blk := ⟨[(eI 1),(eS [84]),(eI 1),(eI 4)],81,[(0,4)],1,0,false,0,none⟩
def hGramErrors542 : HE := ⟨48, [(.sl 0 3 0 4 none 4)], [bgramErrors293], [((.val (.agg [(eI 1),(eS [83]),(eI 1),(eI 1),(.sl 1 0 0 1 none 5)])), [bgramErrors294, bgramErrors295])]⟩
theorem hGramErrors542_ok : HOk Tryd.prog hGramErrors542 := hok_eq mmGramErrors_ok hmGramErrors542_ok folGramErrors (lf := 100000) (k := 1000) (by kernel_rfl)
def hmGramErrors543 : List HE := hGramErrors542 :: hmGramErrors542
theorem hmGramErrors543_ok : ∀ x ∈ hmGramErrors543, HOk Tryd.prog x := hmemo_cons hGramErrors542_ok hmGramErrors542_ok
def bgramErrors296 : Blk := ⟨[(.sl 2 0 0 1 none 4),(eI 2),(eS [97]),(eI 2),(eI 4)],91,[(0,5)],1,0,false,0,none⟩
def hGramErrors543 : HE := ⟨48, [(.sl 0 3 16 4 none 4)], [bgramErrors293], [((.val (.agg [(eI 1),(eS [83]),(eI 2),(eI 1),(.sl 1 0 0 1 none 5)])), [bgramErrors296, bgramErrors228])]⟩
theorem hGramErrors543_ok : HOk Tryd.prog hGramErrors543 := hok_eq mmGramErrors_ok hmGramErrors543_ok folGramErrors (lf := 100000) (k := 1000) (by kernel_rfl)
def hmGramErrors544 : List HE := hGramErrors543 :: hmGramErrors543
theorem hmGramErrors544_ok : ∀ x ∈ hmGramErrors544, HOk Tryd.prog x := hmemo_cons hGramErrors543_ok hmGramErrors543_ok
def bgramErrors297 : Blk := ⟨[(eI 1),(eS [83]),(eI 1),(eI 1),(.sl 2 0 0 1 none 5),(eI 1),(eS [83]),(eI 2),(eI 1),(.sl 4 0 0 1 none 5)],87,[(1,10),(0,5)],2,0,false,1,none⟩
def bgramErrors298 : Blk := ⟨[(.sl 3 0 0 1 none 4),(eI 1),(eS [84]),(eI 1),(eI 4)],91,[(0,5)],1,0,false,0,none⟩
def bgramErrors299 : Blk := ⟨[(.sl 5 0 0 1 none 4),(eI 2),(eS [97]),(eI 2),(eI 4)],91,[(0,5)],1,0,false,0,none⟩
def hGramErrors544 : HE := ⟨22, [(.sl 0 3 0 8 none 4)], [bgramErrors293], [((.val (.sl 1 1 0 2 none 5)), [bgramErrors297, bgramErrors298, bgramErrors295, bgramErrors299, bgramErrors228])]⟩
theorem hGramErrors544_ok : HOk Tryd.prog hGramErrors544 := hok_eq mmGramErrors_ok hmGramErrors544_ok folGramErrors (lf := 100000) (k := 1000) (by kernel_rfl)
def hmGramErrors545 : List HE := hGramErrors544 :: hmGramErrors544
theorem hmGramErrors545_ok : ∀ x ∈ hmGramErrors545, HOk Tryd.prog x := hmemo_cons hGramErrors544_ok hmGramErrors544_ok
def bgramErrors300 : Blk := ⟨[(eI 1),(eS [83]),(eI 1),(eI 1),(.sl 1 0 0 1 none 5),(eI 1),(eS [83]),(eI 2),(eI 1),(.sl 3 0 0 1 none 5)],87,[(1,10),(0,5)],2,0,false,1,none⟩
def bgramErrors301 : Blk := ⟨[(.sl 4 0 0 1 none 4),(eI 2),(eS [97]),(eI 2),(eI 4)],91,[(0,5)],1,0,false,0,none⟩
def hGramErrors545 : HE := ⟨21, [(.sl 0 1 0 2 none 5)], [bgramErrors300, bgramErrors294, bgramErrors295, bgramErrors301, bgramErrors228], [((.panic (.iface 51 (.agg [(eI 2),(eI 1),(eI 4)]))), [])]⟩
theorem hGramErrors545_ok : HOk Tryd.prog hGramErrors545 := hok_eq mmGramErrors_ok hmGramErrors545_ok folGramErrors (lf := 100000) (k := 1000) (by kernel_rfl)
def hmGramErrors546 : List HE := hGramErrors545 :: hmGramErrors545
theorem hmGramErrors546_ok : ∀ x ∈ hmGramErrors546, HOk Tryd.prog x := hmemo_cons hGramErrors545_ok hmGramErrors545_ok
def hGramErrors546 : HE := ⟨8, [(eS [83,58,32,84,10,83,58,32,97,10])], [], [((.val (.tup [(.agg [(.lit (.slice none 0 0)),(.lit (.slice none 0 0)),(.lit (.slice none 0 0))]),(eI 2),(eI 1),(eI 4)])), [])]⟩
theorem hGramErrors546_ok : HOk Tryd.prog hGramErrors546 := hok_eq mmGramErrors_ok hmGramErrors546_ok folGramErrors (lf := 100000) (k := 1000) (by kernel_rfl)
def hmGramErrors547 : List HE := hGramErrors546 :: hmGramErrors546
theorem hmGramErrors547_ok : ∀ x ∈ hmGramErrors547, HOk Tryd.prog x := hmemo_cons hGramErrors546_ok hmGramErrors546_ok
def bgramErrors302 : Blk := ⟨[(eI 1),(eS [83]),(eI 1),(eI 1),(eI 3),(eS [58]),(eI 1),(eI 2),(eI 1),(eS [84]),(eI 1),(eI 4),(eI 2),(eS [97]),(eI 1),(eI 6)],81,[(3,16),(2,12),(1,8),(0,4)],4,0,false,3,none⟩
def hGramErrors547 : HE := ⟨44, [(eS [83,58,32,84,32,97]),(eI 1)], [], [((.val (.tup [(.sl 0 3 0 4 none 4),(eI 0)])), [bgramErrors302])]⟩
theorem hGramErrors547_ok : HOk Tryd.prog hGramErrors547 := hok_eq mmGramErrors_ok hmGramErrors547_ok folGramErrors (lf := 100000) (k := 1000) (by kernel_rfl)
def hmGramErrors548 : List HE := hGramErrors547 :: hmGramErrors547
theorem hmGramErrors548_ok : ∀ x ∈ hmGramErrors548, HOk Tryd.prog x := hmemo_cons hGramErrors547_ok hmGramErrors547_ok
def bgramErrors303 : Blk := ⟨[(eI 1),(eS [83]),(eI 1),(eI 1),(eI 3),(eS [58]),(eI 1),(eI 2),(eI 1),(eS [84]),(eI 1),(eI 4),(eI 2),(eS [97]),(eI 1),(eI 6),(eI 5),(eS []),(eI 1),(eI 7)],81,[(1,20),(0,16)],2,0,false,1,none⟩
def hGramErrors548 : HE := ⟨19, [(eS [83,58,32,84,32,97,10])], [], [((.val (.tup [(.sl 0 1 0 5 none 4),(eI 0),(eI 0),(eI 0)])), [bgramErrors303])]⟩
theorem hGramErrors548_ok : HOk Tryd.prog hGramErrors548 := hok_eq mmGramErrors_ok hmGramErrors548_ok folGramErrors (lf := 100000) (k := 1000) (by kernel_rfl)
def hmGramErrors549 : List HE := hGramErrors548 :: hmGramErrors548
theorem hmGramErrors549_ok : ∀ x ∈ hmGramErrors549, HOk Tryd.prog x := hmemo_cons hGramErrors548_ok hmGramErrors548_ok
def bgramErrors304 : Blk := ⟨[(.sl 2 1 0 2 none 4),(eI 1),(eS [84]),(eI 1),(eI 4)],91,[(0,5)],1,0,false,0,none⟩
def bgramErrors305 : Blk := ⟨[(eI 1),(eS [84]),(eI 1),(eI 4),(eI 2),(eS [97]),(eI 1),(eI 6)],81,[(1,8),(0,4)],2,0,false,1,none⟩
def hGramErrors549 : HE := ⟨48, [(.sl 0 1 0 5 none 4)], [bgramErrors303], [((.val (.agg [(eI 1),(eS [83]),(eI 1),(eI 1),(.sl 1 0 0 1 none 5)])), [bgramErrors304, bgramErrors305])]⟩
theorem hGramErrors549_ok : HOk Tryd.prog hGramErrors549 := hok_eq mmGramErrors_ok hmGramErrors549_ok folGramErrors (lf := 100000) (k := 1000) (by kernel_rfl)
def hmGramErrors550 : List HE := hGramErrors549 :: hmGramErrors549
theorem hmGramErrors550_ok : ∀ x ∈ hmGramErrors550, HOk Tryd.prog x := hmemo_cons hGramErrors549_ok hmGramErrors549_ok
def bgramErrors306 : Blk := ⟨[(eI 1),(eS [83]),(eI 1),(eI 1),(.sl 2 0 0 1 none 5)],87,[(0,5)],1,0,false,0,none⟩
def bgramErrors307 : Blk := ⟨[(.sl 3 1 0 2 none 4),(eI 1),(eS [84]),(eI 1),(eI 4)],91,[(0,5)],1,0,false,0,none⟩
def hGramErrors550 : HE := ⟨22, [(.sl 0 1 0 5 none 4)], [bgramErrors303], [((.val (.sl 1 0 0 1 none 5)), [bgramErrors306, bgramErrors307, bgramErrors305])]⟩
theorem hGramErrors550_ok : HOk Tryd.prog hGramErrors550 := hok_eq mmGramErrors_ok hmGramErrors550_ok folGramErrors (lf := 100000) (k := 1000) (by kernel_rfl)
def hmGramErrors551 : List HE := hGramErrors550 :: hmGramErrors550
theorem hmGramErrors551_ok : ∀ x ∈ hmGramErrors551, HOk Tryd.prog x := hmemo_cons hGramErrors550_ok hmGramErrors550_ok
def bgramErrors308 : Blk := ⟨[(eI 1),(eS [83]),(eI 1),(eI 1),(.sl 1 0 0 1 none 5)],87,[(0,5)],1,0,false,0,none⟩
def hGramErrors551 : HE := ⟨21, [(.sl 0 0 0 1 none 5)], [bgramErrors308, bgramErrors304, bgramErrors305], [((.panic (.iface 51 (.agg [(eI 1),(eI 4),(eI 3)]))), [])]⟩
theorem hGramErrors551_ok : HOk Tryd.prog hGramErrors551 := hok_eq mmGramErrors_ok hmGramErrors551_ok folGramErrors (lf := 100000) (k := 1000) (by kernel_rfl)
def hmGramErrors552 : List HE := hGramErrors551 :: hmGramErrors551
theorem hmGramErrors552_ok : ∀ x ∈ hmGramErrors552, HOk Tryd.prog x := hmemo_cons hGramErrors551_ok hmGramErrors551_ok
def hGramErrors552 : HE := ⟨8, [(eS [83,58,32,84,32,97,10])], [], [((.val (.tup [(.agg [(.lit (.slice none 0 0)),(.lit (.slice none 0 0)),(.lit (.slice none 0 0))]),(eI 1),(eI 4),(eI 3)])), [])]⟩
theorem hGramErrors552_ok : HOk Tryd.prog hGramErrors552 := hok_eq mmGramErrors_ok hmGramErrors552_ok folGramErrors (lf := 100000) (k := 1000) (by kernel_rfl)
def hmGramErrors553 : List HE := hGramErrors552 :: hmGramErrors552
theorem hmGramErrors553_ok : ∀ x ∈ hmGramErrors553, HOk Tryd.prog x := hmemo_cons hGramErrors552_ok hmGramErrors552_ok
def bgramErrors309 : Blk := ⟨[(eI 1),(eS [83]),(eI 1),(eI 1),(eI 3),(eS [58]),(eI 1),(eI 2),(eI 2),(eS [97]),(eI 1),(eI 4),(eI 4),(eS [124]),(eI 1),(eI 6),(eI 2),(eS [98]),(eI 1),(eI 8),(eI 4),(eS [124]),(eI 1),(eI 10),(eI 2),(eS [97]),(eI 1),(eI 12)],81,[(6,28),(5,24),(4,20),(3,16),(2,12),(1,8),(0,4)],7,0,false,6,none⟩
def hGramErrors553 : HE := ⟨44, [(eS [83,58,32,97,32,124,32,98,32,124,32,97]),(eI 1)], [], [((.val (.tup [(.sl 0 6 0 7 none 4),(eI 0)])), [bgramErrors309])]⟩
theorem hGramErrors553_ok : HOk Tryd.prog hGramErrors553 := hok_eq mmGramErrors_ok hmGramErrors553_ok folGramErrors (lf := 100000) (k := 1000) (by kernel_rfl)
def hmGramErrors554 : List HE := hGramErrors553 :: hmGramErrors553
theorem hmGramErrors554_ok : ∀ x ∈ hmGramErrors554, HOk Tryd.prog x := hmemo_cons hGramErrors553_ok hmGramErrors553_ok
def bgramErrors310 : Blk := ⟨[(eI 1),(eS [83]),(eI 1),(eI 1),(eI 3),(eS [58]),(eI 1),(eI 2),(eI 2),(eS [97]),(eI 1),(eI 4),(eI 4),(eS [124]),(eI 1),(eI 6),(eI 2),(eS [98]),(eI 1),(eI 8),(eI 4),(eS [124]),(eI 1),(eI 10),(eI 2),(eS [97]),(eI 1),(eI 12),(eI 5),(eS []),(eI 1),(eI 13)],81,[(1,32),(0,28)],2,0,false,1,none⟩
def hGramErrors554 : HE := ⟨19, [(eS [83,58,32,97,32,124,32,98,32,124,32,97,10])], [], [((.val (.tup [(.sl 0 1 0 8 none 4),(eI 0),(eI 0),(eI 0)])), [bgramErrors310])]⟩
theorem hGramErrors554_ok : HOk Tryd.prog hGramErrors554 := hok_eq mmGramErrors_ok hmGramErrors554_ok folGramErrors (lf := 100000) (k := 1000) (by kernel_rfl)
def hmGramErrors555 : List HE := hGramErrors554 :: hmGramErrors554
theorem hmGramErrors555_ok : ∀ x ∈ hmGramErrors555, HOk Tryd.prog x := hmemo_cons hGramErrors554_ok hmGramErrors554_ok
def bgramErrors311 : Blk := ⟨[(.sl 2 0 0 1 none 4),(eI 2),(eS [97]),(eI 1),(eI 4),(.sl 3 0 0 1 none 4),(eI 2),(eS [98]),(eI 1),(eI 8),(.sl 4 0 0 1 none 4),(eI 2),(eS [97]),(eI 1),(eI 12)],91,[(2,15),(1,10),(0,5)],3,0,false,2,none⟩
def bgramErrors312 : Blk := ⟨[(eI 2),(eS [97]),(eI 1),(eI 4)],81,[(0,4)],1,0,false,0,none⟩
def bgramErrors313 : Blk := ⟨[(eI 2),(eS [98]),(eI 1),(eI 8)],81,[(0,4)],1,0,false,0,none⟩
def bgramErrors314 : Blk := ⟨[(eI 2),(eS [97]),(eI 1),(eI 12)],81,[(0,4)],1,0,false,0,none⟩
def hGramErrors555 : HE := ⟨48, [(.sl 0 1 0 8 none 4)], [bgramErrors310], [((.val (.agg [(eI 1),(eS [83]),(eI 1),(eI 1),(.sl 1 2 0 3 none 5)])), [bgramErrors311, bgramErrors312, bgramErrors313, bgramErrors314])]⟩
theorem hGramErrors555_ok : HOk Tryd.prog hGramErrors555 := hok_eq mmGramErrors_ok hmGramErrors555_ok folGramErrors (lf := 100000) (k := 1000) (by kernel_rfl)
def hmGramErrors556 : List HE := hGramErrors555 :: hmGramErrors555
theorem hmGramErrors556_ok : ∀ x ∈ hmGramErrors556, HOk Tryd.prog x := hmemo_cons hGramErrors555_ok hmGramErrors555_ok
def bgramErrors315 : Blk := ⟨[(eI 1),(eS [83]),(eI 1),(eI 1),(.sl 2 2 0 3 none 5)],87,[(0,5)],1,0,false,0,none⟩
def bgramErrors316 : Blk := ⟨[(.sl 3 0 0 1 none 4),(eI 2),(eS [97]),(eI 1),(eI 4),(.sl 4 0 0 1 none 4),(eI 2),(eS [98]),(eI 1),(eI 8),(.sl 5 0 0 1 none 4),(eI 2),(eS [97]),(eI 1),(eI 12)],91,[(2,15),(1,10),(0,5)],3,0,false,2,none⟩
def hGramErrors556 : HE := ⟨22, [(.sl 0 1 0 8 none 4)], [bgramErrors310], [((.val (.sl 1 0 0 1 none 5)), [bgramErrors315, bgramErrors316, bgramErrors312, bgramErrors313, bgramErrors314])]⟩
theorem hGramErrors556_ok : HOk Tryd.prog hGramErrors556 := hok_eq mmGramErrors_ok hmGramErrors556_ok folGramErrors (lf := 100000) (k := 1000) (by kernel_rfl)
def hmGramErrors557 : List HE := hGramErrors556 :: hmGramErrors556
theorem hmGramErrors557_ok : ∀ x ∈ hmGramErrors557, HOk Tryd.prog x := hmemo_cons hGramErrors556_ok hmGramErrors556_ok
def bgramErrors317 : Blk := ⟨[(eI 1),(eS [83]),(eI 1),(eI 1),(.sl 1 2 0 3 none 5)],87,[(0,5)],1,0,false,0,none⟩
def hGramErrors557 : HE := ⟨21, [(.sl 0 0 0 1 none 5)], [bgramErrors317, bgramErrors311, bgramErrors312, bgramErrors313, bgramErrors314], [((.panic (.iface 51 (.agg [(eI 1),(eI 12),(eI 4)]))), [])]⟩
theorem hGramErrors557_ok : HOk Tryd.prog hGramErrors557 := hok_eq mmGramErrors_ok hmGramErrors557_ok folGramErrors (lf := 100000) (k := 1000) (by kernel_rfl)
def hmGramErrors558 : List HE := hGramErrors557 :: hmGramErrors557
theorem hmGramErrors558_ok : ∀ x ∈ hmGramErrors558, HOk Tryd.prog x := hmemo_cons hGramErrors557_ok hmGramErrors557_ok
def hGramErrors558 : HE := ⟨8, [(eS [83,58,32,97,32,124,32,98,32,124,32,97,10])], [], [((.val (.tup [(.agg [(.lit (.slice none 0 0)),(.lit (.slice none 0 0)),(.lit (.slice none 0 0))]),(eI 1),(eI 12),(eI 4)])), [])]⟩
theorem hGramErrors558_ok : HOk Tryd.prog hGramErrors558 := hok_eq mmGramErrors_ok hmGramErrors558_ok folGramErrors (lf := 100000) (k := 1000) (by kernel_rfl)
def hmGramErrors559 : List HE := hGramErrors558 :: hmGramErrors558
theorem hmGramErrors559_ok : ∀ x ∈ hmGramErrors559, HOk Tryd.prog x := hmemo_cons hGramErrors558_ok hmGramErrors558_ok
def bgramErrors318 : Blk := ⟨[(eI 1),(eS [83]),(eI 1),(eI 1),(eI 3),(eS [58]),(eI 1),(eI 2),(eI 4),(eS [124]),(eI 1),(eI 4),(eI 2),(eS [97]),(eI 1),(eI 6),(eI 4),(eS [124]),(eI 1),(eI 8)],81,[(4,20),(3,16),(2,12),(1,8),(0,4)],5,0,false,4,none⟩
def hGramErrors559 : HE := ⟨44, [(eS [83,58,32,124,32,97,32,124]),(eI 1)], [], [((.val (.tup [(.sl 0 4 0 5 none 4),(eI 0)])), [bgramErrors318])]⟩
theorem hGramErrors559_ok : HOk Tryd.prog hGramErrors559 := hok_eq mmGramErrors_ok hmGramErrors559_ok folGramErrors (lf := 100000) (k := 1000) (by kernel_rfl)
def hmGramErrors560 : List HE := hGramErrors559 :: hmGramErrors559
theorem hmGramErrors560_ok : ∀ x ∈ hmGramErrors560, HOk Tryd.prog x := hmemo_cons hGramErrors559_ok hmGramErrors559_ok
def bgramErrors319 : Blk := ⟨[(eI 1),(eS [83]),(eI 1),(eI 1),(eI 3),(eS [58]),(eI 1),(eI 2),(eI 4),(eS [124]),(eI 1),(eI 4),(eI 2),(eS [97]),(eI 1),(eI 6),(eI 4),(eS [124]),(eI 1),(eI 8),(eI 5),(eS []),(eI 1),(eI 9)],81,[(1,24),(0,20)],2,0,false,1,none⟩
def hGramErrors560 : HE := ⟨19, [(eS [83,58,32,124,32,97,32,124,10])], [], [((.val (.tup [(.sl 0 1 0 6 none 4),(eI 0),(eI 0),(eI 0)])), [bgramErrors319])]⟩
theorem hGramErrors560_ok : HOk Tryd.prog hGramErrors560 := hok_eq mmGramErrors_ok hmGramErrors560_ok folGramErrors (lf := 100000) (k := 1000) (by kernel_rfl)
def hmGramErrors561 : List HE := hGramErrors560 :: hmGramErrors560
theorem hmGramErrors561_ok : ∀ x ∈ hmGramErrors561, HOk Tryd.prog x := hmemo_cons hGramErrors560_ok hmGramErrors560_ok
def bgramErrors320 : Blk := ⟨[(.lit (.slice none 0 0)),(eI 4),(eS [124]),(eI 1),(eI 4),(.sl 2 0 0 1 none 4),(eI 2),(eS [97]),(eI 1),(eI 6),(.lit (.slice none 0 0)),(eI 5),(eS []),(eI 1),(eI 9)],91,[(2,15),(1,10),(0,5)],3,0,false,2,none⟩
def bgramErrors321 : Blk := ⟨[(eI 2),(eS [97]),(eI 1),(eI 6)],81,[(0,4)],1,0,false,0,none⟩
def hGramErrors561 : HE := ⟨48, [(.sl 0 1 0 6 none 4)], [bgramErrors319], [((.val (.agg [(eI 1),(eS [83]),(eI 1),(eI 1),(.sl 1 2 0 3 none 5)])), [bgramErrors320, bgramErrors321])]⟩
theorem hGramErrors561_ok : HOk Tryd.prog hGramErrors561 := hok_eq mmGramErrors_ok hmGramErrors561_ok folGramErrors (lf := 100000) (k := 1000) (by kernel_rfl)
def hmGramErrors562 : List HE := hGramErrors561 :: hmGramErrors561
theorem hmGramErrors562_ok : ∀ x ∈ hmGramErrors562, HOk Tryd.prog x := hmemo_cons hGramErrors561_ok hmGramErrors561_ok
def bgramErrors322 : Blk := ⟨[(.lit (.slice none 0 0)),(eI 4),(eS [124]),(eI 1),(eI 4),(.sl 3 0 0 1 none 4),(eI 2),(eS [97]),(eI 1),(eI 6),(.lit (.slice none 0 0)),(eI 5),(eS []),(eI 1),(eI 9)],91,[(2,15),(1,10),(0,5)],3,0,false,2,none⟩
def hGramErrors562 : HE := ⟨22, [(.sl 0 1 0 6 none 4)], [bgramErrors319], [((.val (.sl 1 0 0 1 none 5)), [bgramErrors315, bgramErrors322, bgramErrors321])]⟩
theorem hGramErrors562_ok : HOk Tryd.prog hGramErrors562 := hok_eq mmGramErrors_ok hmGramErrors562_ok folGramErrors (lf := 100000) (k := 1000) (by kernel_rfl)
def hmGramErrors563 : List HE := hGramErrors562 :: hmGramErrors562
theorem hmGramErrors563_ok : ∀ x ∈ hmGramErrors563, HOk Tryd.prog x := hmemo_cons hGramErrors562_ok hmGramErrors562_ok
def hGramErrors563 : HE := ⟨21, [(.sl 0 0 0 1 none 5)], [bgramErrors317, bgramErrors320, bgramErrors321], [((.panic (.iface 51 (.agg [(eI 1),(eI 9),(eI 4)]))), [])]⟩
theorem hGramErrors563_ok : HOk Tryd.prog hGramErrors563 := hok_eq mmGramErrors_ok hmGramErrors563_ok folGramErrors (lf := 100000) (k := 1000) (by kernel_rfl)
def hmGramErrors564 : List HE := hGramErrors563 :: hmGramErrors563
theorem hmGramErrors564_ok : ∀ x ∈ hmGramErrors564, HOk Tryd.prog x := hmemo_cons hGramErrors563_ok hmGramErrors563_ok
def hGramErrors564 : HE := ⟨8, [(eS [83,58,32,124,32,97,32,124,10])], [], [((.val (.tup [(.agg [(.lit (.slice none 0 0)),(.lit (.slice none 0 0)),(.lit (.slice none 0 0))]),(eI 1),(eI 9),(eI 4)])), [])]⟩
theorem hGramErrors564_ok : HOk Tryd.prog hGramErrors564 := hok_eq mmGramErrors_ok hmGramErrors564_ok folGramErrors (lf := 100000) (k := 1000) (by kernel_rfl)
def hmGramErrors565 : List HE := hGramErrors564 :: hmGramErrors564
theorem hmGramErrors565_ok : ∀ x ∈ hmGramErrors565, HOk Tryd.prog x := hmemo_cons hGramErrors564_ok hmGramErrors564_ok
def bgramErrors323 : Blk := ⟨[(eI 1),(eS [83]),(eI 1),(eI 1),(eI 3),(eS [58]),(eI 1),(eI 2),(eI 4),(eS [124]),(eI 1),(eI 4),(eI 4),(eS [124]),(eI 1),(eI 6)],81,[(3,16),(2,12),(1,8),(0,4)],4,0,false,3,none⟩
def hGramErrors565 : HE := ⟨44, [(eS [83,58,32,124,32,124]),(eI 1)], [], [((.val (.tup [(.sl 0 3 0 4 none 4),(eI 0)])), [bgramErrors323])]⟩
theorem hGramErrors565_ok : HOk Tryd.prog hGramErrors565 := hok_eq mmGramErrors_ok hmGramErrors565_ok folGramErrors (lf := 100000) (k := 1000) (by kernel_rfl)
def hmGramErrors566 : List HE := hGramErrors565 :: hmGramErrors565
theorem hmGramErrors566_ok : ∀ x ∈ hmGramErrors566, HOk Tryd.prog x := hmemo_cons hGramErrors565_ok hmGramErrors565_ok
def bgramErrors324 : Blk := ⟨[(eI 1),(eS [83]),(eI 1),(eI 1),(eI 3),(eS [58]),(eI 1),(eI 2),(eI 4),(eS [124]),(eI 1),(eI 4),(eI 4),(eS [124]),(eI 1),(eI 6),(eI 5),(eS []),(eI 1),(eI 7)],81,[(1,20),(0,16)],2,0,false,1,none⟩
def hGramErrors566 : HE := ⟨19, [(eS [83,58,32,124,32,124,10])], [], [((.val (.tup [(.sl 0 1 0 5 none 4),(eI 0),(eI 0),(eI 0)])), [bgramErrors324])]⟩
theorem hGramErrors566_ok : HOk Tryd.prog hGramErrors566 := hok_eq mmGramErrors_ok hmGramErrors566_ok folGramErrors (lf := 100000) (k := 1000) (by kernel_rfl)
def hmGramErrors567 : List HE := hGramErrors566 :: hmGramErrors566
theorem hmGramErrors567_ok : ∀ x ∈ hmGramErrors567, HOk Tryd.prog x := hmemo_cons hGramErrors566_ok hmGramErrors566_ok
def bgramErrors325 : Blk := ⟨[(.lit (.slice none 0 0)),(eI 4),(eS [124]),(eI 1),(eI 4),(.lit (.slice none 0 0)),(eI 4),(eS [124]),(eI 1),(eI 6),(.lit (.slice none 0 0)),(eI 5),(eS []),(eI 1),(eI 7)],91,[(2,15),(1,10),(0,5)],3,0,false,2,none⟩
def hGramErrors567 : HE := ⟨48, [(.sl 0 1 0 5 none 4)], [bgramErrors324], [((.val (.agg [(eI 1),(eS [83]),(eI 1),(eI 1),(.sl 1 2 0 3 none 5)])), [bgramErrors325])]⟩
theorem hGramErrors567_ok : HOk Tryd.prog hGramErrors567 := hok_eq mmGramErrors_ok hmGramErrors567_ok folGramErrors (lf := 100000) (k := 1000) (by kernel_rfl)
def hmGramErrors568 : List HE := hGramErrors567 :: hmGramErrors567
theorem hmGramErrors568_ok : ∀ x ∈ hmGramErrors568, HOk Tryd.prog x := hmemo_cons hGramErrors567_ok hmGramErrors567_ok
def hGramErrors568 : HE := ⟨22, [(.sl 0 1 0 5 none 4)], [bgramErrors324], [((.val (.sl 1 0 0 1 none 5)), [bgramErrors315, bgramErrors325])]⟩
theorem hGramErrors568_ok : HOk Tryd.prog hGramErrors568 := hok_eq mmGramErrors_ok hmGramErrors568_ok folGramErrors (lf := 100000) (k := 1000) (by kernel_rfl)
def hmGramErrors569 : List HE := hGramErrors568 :: hmGramErrors568
theorem hmGramErrors569_ok : ∀ x ∈ hmGramErrors569, HOk Tryd.prog x := hmemo_cons hGramErrors568_ok hmGramErrors568_ok
def hGramErrors569 : HE := ⟨21, [(.sl 0 0 0 1 none 5)], [bgramErrors317, bgramErrors325], [((.panic (.iface 51 (.agg [(eI 1),(eI 6),(eI 4)]))), [])]⟩
theorem hGramErrors569_ok : HOk Tryd.prog hGramErrors569 := hok_eq mmGramErrors_ok hmGramErrors569_ok folGramErrors (lf := 100000) (k := 1000) (by kernel_rfl)
def hmGramErrors570 : List HE := hGramErrors569 :: hmGramErrors569
theorem hmGramErrors570_ok : ∀ x ∈ hmGramErrors570, HOk Tryd.prog x := hmemo_cons hGramErrors569_ok hmGramErrors569_ok
def hGramErrors570 : HE := ⟨8, [(eS [83,58,32,124,32,124,10])], [], [((.val (.tup [(.agg [(.lit (.slice none 0 0)),(.lit (.slice none 0 0)),(.lit (.slice none 0 0))]),(eI 1),(eI 6),(eI 4)])), [])]⟩
theorem hGramErrors570_ok : HOk Tryd.prog hGramErrors570 := hok_eq mmGramErrors_ok hmGramErrors570_ok folGramErrors (lf := 100000) (k := 1000) (by kernel_rfl)
def hmGramErrors571 : List HE := hGramErrors570 :: hmGramErrors570
theorem hmGramErrors571_ok : ∀ x ∈ hmGramErrors571, HOk Tryd.prog x := hmemo_cons hGramErrors570_ok hmGramErrors570_ok
def bgramErrors326 : Blk := ⟨[(eI 1),(eS [83]),(eI 1),(eI 1),(eI 3),(eS [58]),(eI 1),(eI 2),(eI 2),(eS [97]),(eI 1),(eI 4),(eI 2),(eS [98]),(eI 1),(eI 6),(eI 2),(eS [99]),(eI 1),(eI 8),(eI 2),(eS [100]),(eI 1),(eI 10),(eI 2),(eS [101]),(eI 1),(eI 12),(eI 2),(eS [102]),(eI 1),(eI 14),(eI 2),(eS [97]),(eI 1),(eI 16)],81,[(8,36),(7,32),(6,28),(5,24),(4,20),(3,16),(2,12),(1,8),(0,4)],9,0,false,8,none⟩
def hGramErrors571 : HE := ⟨44, [(eS [83,58,32,97,32,98,32,99,32,100,32,101,32,102,32,97]),(eI 1)], [], [((.val (.tup [(.sl 0 8 0 9 none 4),(eI 0)])), [bgramErrors326])]⟩
theorem hGramErrors571_ok : HOk Tryd.prog hGramErrors571 := hok_eq mmGramErrors_ok hmGramErrors571_ok folGramErrors (lf := 100000) (k := 1000) (by kernel_rfl)
def hmGramErrors572 : List HE := hGramErrors571 :: hmGramErrors571
theorem hmGramErrors572_ok : ∀ x ∈ hmGramErrors572, HOk Tryd.prog x := hmemo_cons hGramErrors571_ok hmGramErrors571_ok
def bgramErrors327 : Blk := ⟨[(eI 1),(eS [83]),(eI 1),(eI 1),(eI 3),(eS [58]),(eI 1),(eI 2),(eI 2),(eS [97]),(eI 1),(eI 4),(eI 2),(eS [98]),(eI 1),(eI 6),(eI 2),(eS [99]),(eI 1),(eI 8),(eI 2),(eS [100]),(eI 1),(eI 10),(eI 2),(eS [101]),(eI 1),(eI 12),(eI 2),(eS [102]),(eI 1),(eI 14),(eI 2),(eS [97]),(eI 1),(eI 16),(eI 5),(eS []),(eI 1),(eI 17)],81,[(1,40),(0,36)],2,0,false,1,none⟩
def hGramErrors572 : HE := ⟨19, [(eS [83,58,32,97,32,98,32,99,32,100,32,101,32,102,32,97,10])], [], [((.val (.tup [(.sl 0 1 0 10 none 4),(eI 0),(eI 0),(eI 0)])), [bgramErrors327])]⟩
theorem hGramErrors572_ok : HOk Tryd.prog hGramErrors572 := hok_eq mmGramErrors_ok hmGramErrors572_ok folGramErrors (lf := 100000) (k := 1000) (by kernel_rfl)
def hmGramErrors573 : List HE := hGramErrors572 :: hmGramErrors572
theorem hmGramErrors573_ok : ∀ x ∈ hmGramErrors573, HOk Tryd.prog x := hmemo_cons hGramErrors572_ok hmGramErrors572_ok
def bgramErrors328 : Blk := ⟨[(.sl 2 6 0 7 none 4),(eI 2),(eS [97]),(eI 1),(eI 4)],91,[(0,5)],1,0,false,0,none⟩
def bgramErrors329 : Blk := ⟨[(eI 2),(eS [97]),(eI 1),(eI 4),(eI 2),(eS [98]),(eI 1),(eI 6),(eI 2),(eS [99]),(eI 1),(eI 8),(eI 2),(eS [100]),(eI 1),(eI 10),(eI 2),(eS [101]),(eI 1),(eI 12),(eI 2),(eS [102]),(eI 1),(eI 14),(eI 2),(eS [97]),(eI 1),(eI 16)],81,[(6,28),(5,24),(4,20),(3,16),(2,12),(1,8),(0,4)],7,0,false,6,none⟩
def hGramErrors573 : HE := ⟨48, [(.sl 0 1 0 10 none 4)], [bgramErrors327], [((.val (.agg [(eI 1),(eS [83]),(eI 1),(eI 1),(.sl 1 0 0 1 none 5)])), [bgramErrors328, bgramErrors329])]⟩
theorem hGramErrors573_ok : HOk Tryd.prog hGramErrors573 := hok_eq mmGramErrors_ok hmGramErrors573_ok folGramErrors (lf := 100000) (k := 1000) (by kernel_rfl)
def hmGramErrors574 : List HE := hGramErrors573 :: hmGramErrors573
theorem hmGramErrors574_ok : ∀ x ∈ hmGramErrors574, HOk Tryd.prog x := hmemo_cons hGramErrors573_ok hmGramErrors573_ok
def bgramErrors330 : Blk := ⟨[(.sl 3 6 0 7 none 4),(eI 2),(eS [97]),(eI 1),(eI 4)],91,[(0,5)],1,0,false,0,none⟩
def hGramErrors574 : HE := ⟨22, [(.sl 0 1 0 10 none 4)], [bgramErrors327], [((.val (.sl 1 0 0 1 none 5)), [bgramErrors306, bgramErrors330, bgramErrors329])]⟩
theorem hGramErrors574_ok : HOk Tryd.prog hGramErrors574 := hok_eq mmGramErrors_ok hmGramErrors574_ok folGramErrors (lf := 100000) (k := 1000) (by kernel_rfl)
def hmGramErrors575 : List HE := hGramErrors574 :: hmGramErrors574
theorem hmGramErrors575_ok : ∀ x ∈ hmGramErrors575, HOk Tryd.prog x := hmemo_cons hGramErrors574_ok hmGramErrors574_ok
def hGramErrors575 : HE := ⟨21, [(.sl 0 0 0 1 none 5)], [bgramErrors308, bgramErrors328, bgramErrors329], [((.panic (.iface 51 (.agg [(eI 1),(eI 16),(eI 5)]))), [])]⟩
theorem hGramErrors575_ok : HOk Tryd.prog hGramErrors575 := hok_eq mmGramErrors_ok hmGramErrors575_ok folGramErrors (lf := 100000) (k := 1000) (by kernel_rfl)
def hmGramErrors576 : List HE := hGramErrors575 :: hmGramErrors575
theorem hmGramErrors576_ok : ∀ x ∈ hmGramErrors576, HOk Tryd.prog x := hmemo_cons hGramErrors575_ok hmGramErrors575_ok
def hGramErrors576 : HE := ⟨8, [(eS [83,58,32,97,32,98,32,99,32,100,32,101,32,102,32,97,10])], [], [((.val (.tup [(.agg [(.lit (.slice none 0 0)),(.lit (.slice none 0 0)),(.lit (.slice none 0 0))]),(eI 1),(eI 16),(eI 5)])), [])]⟩
theorem hGramErrors576_ok : HOk Tryd.prog hGramErrors576 := hok_eq mmGramErrors_ok hmGramErrors576_ok folGramErrors (lf := 100000) (k := 1000) (by kernel_rfl)
def hmGramErrors577 : List HE := hGramErrors576 :: hmGramErrors576
theorem hmGramErrors577_ok : ∀ x ∈ hmGramErrors577, HOk Tryd.prog x := hmemo_cons hGramErrors576_ok hmGramErrors576_ok
def bgramErrors331 : Blk := ⟨[(eI 1),(eS [83]),(eI 1),(eI 1),(eI 3),(eS [58]),(eI 1),(eI 2),(eI 2),(eS [97]),(eI 1),(eI 4),(eI 2),(eS [98]),(eI 1),(eI 6),(eI 2),(eS [99]),(eI 1),(eI 8),(eI 2),(eS [100]),(eI 1),(eI 10),(eI 2),(eS [101]),(eI 1),(eI 12),(eI 2),(eS [102]),(eI 1),(eI 14),(eI 1),(eS [84]),(eI 1),(eI 16)],81,[(8,36),(7,32),(6,28),(5,24),(4,20),(3,16),(2,12),(1,8),(0,4)],9,0,false,8,none⟩
def hGramErrors577 : HE := ⟨44, [(eS [83,58,32,97,32,98,32,99,32,100,32,101,32,102,32,84]),(eI 1)], [], [((.val (.tup [(.sl 0 8 0 9 none 4),(eI 0)])), [bgramErrors331])]⟩
theorem hGramErrors577_ok : HOk Tryd.prog hGramErrors577 := hok_eq mmGramErrors_ok hmGramErrors577_ok folGramErrors (lf := 100000) (k := 1000) (by kernel_rfl)
def hmGramErrors578 : List HE := hGramErrors577 :: hmGramErrors577
theorem hmGramErrors578_ok : ∀ x ∈ hmGramErrors578, HOk Tryd.prog x := hmemo_cons hGramErrors577_ok hmGramErrors577_ok
def bgramErrors332 : Blk := ⟨[(eI 1),(eS [83]),(eI 1),(eI 1),(eI 3),(eS [58]),(eI 1),(eI 2),(eI 2),(eS [97]),(eI 1),(eI 4),(eI 2),(eS [98]),(eI 1),(eI 6),(eI 2),(eS [99]),(eI 1),(eI 8),(eI 2),(eS [100]),(eI 1),(eI 10),(eI 2),(eS [101]),(eI 1),(eI 12),(eI 2),(eS [102]),(eI 1),(eI 14),(eI 1),(eS [84]),(eI 1),(eI 16),(eI 5),(eS []),(eI 1),(eI 17)],81,[(1,40),(0,36)],2,0,false,1,none⟩
def hGramErrors578 : HE := ⟨19, [(eS [83,58,32,97,32,98,32,99,32,100,32,101,32,102,32,84,10])], [], [((.val (.tup [(.sl 0 1 0 10 none 4),(eI 0),(eI 0),(eI 0)])), [bgramErrors332])]⟩
theorem hGramErrors578_ok : HOk Tryd.prog hGramErrors578 := hok_eq mmGramErrors_ok hmGramErrors578_ok folGramErrors (lf := 100000) (k := 1000) (by kernel_rfl)
def hmGramErrors579 : List HE := hGramErrors578 :: hmGramErrors578
theorem hmGramErrors579_ok : ∀ x ∈ hmGramErrors579, HOk Tryd.prog x := hmemo_cons hGramErrors578_ok hmGramErrors578_ok
def bgramErrors333 : Blk := ⟨[(eI 2),(eS [97]),(eI 1),(eI 4),(eI 2),(eS [98]),(eI 1),(eI 6),(eI 2),(eS [99]),(eI 1),(eI 8),(eI 2),(eS [100]),(eI 1),(eI 10),(eI 2),(eS [101]),(eI 1),(eI 12),(eI 2),(eS [102]),(eI 1),(eI 14),(eI 1),(eS [84]),(eI 1),(eI 16)],81,[(6,28),(5,24),(4,20),(3,16),(2,12),(1,8),(0,4)],7,0,false,6,none⟩
def hGramErrors579 : HE := ⟨48, [(.sl 0 1 0 10 none 4)], [bgramErrors332], [((.val (.agg [(eI 1),(eS [83]),(eI 1),(eI 1),(.sl 1 0 0 1 none 5)])), [bgramErrors328, bgramErrors333])]⟩
theorem hGramErrors579_ok : HOk Tryd.prog hGramErrors579 := hok_eq mmGramErrors_ok hmGramErrors579_ok folGramErrors (lf := 100000) (k := 1000) (by kernel_rfl)
def hmGramErrors580 : List HE := hGramErrors579 :: hmGramErrors579
theorem hmGramErrors580_ok : ∀ x ∈ hmGramErrors580, HOk Tryd.prog x := hmemo_cons hGramErrors579_ok hmGramErrors579_ok
def hGramErrors580 : HE := ⟨22, [(.sl 0 1 0 10 none 4)], [bgramErrors332], [((.val (.sl 1 0 0 1 none 5)), [bgramErrors306, bgramErrors330, bgramErrors333])]⟩
theorem hGramErrors580_ok : HOk Tryd.prog hGramErrors580 := hok_eq mmGramErrors_ok hmGramErrors580_ok folGramErrors (lf := 100000) (k := 1000) (by kernel_rfl)
def hmGramErrors581 : List HE := hGramErrors580 :: hmGramErrors580
theorem hmGramErrors581_ok : ∀ x ∈ hmGramErrors581, HOk Tryd.prog x := hmemo_cons hGramErrors580_ok hmGramErrors580_ok
def hGramErrors581 : HE := ⟨21, [(.sl 0 0 0 1 none 5)], [bgramErrors308, bgramErrors328, bgramErrors333], [((.panic (.iface 51 (.agg [(eI 1),(eI 16),(eI 5)]))), [])]⟩
theorem hGramErrors581_ok : HOk Tryd.prog hGramErrors581 := hok_eq mmGramErrors_ok hmGramErrors581_ok folGramErrors (lf := 100000) (k := 1000) (by kernel_rfl)
def hmGramErrors582 : List HE := hGramErrors581 :: hmGramErrors581
theorem hmGramErrors582_ok : ∀ x ∈ hmGramErrors582, HOk Tryd.prog x := hmemo_cons hGramErrors581_ok hmGramErrors581_ok
def hGramErrors582 : HE := ⟨8, [(eS [83,58,32,97,32,98,32,99,32,100,32,101,32,102,32,84,10])], [], [((.val (.tup [(.agg [(.lit (.slice none 0 0)),(.lit (.slice none 0 0)),(.lit (.slice none 0 0))]),(eI 1),(eI 16),(eI 5)])), [])]⟩
theorem hGramErrors582_ok : HOk Tryd.prog hGramErrors582 := hok_eq mmGramErrors_ok hmGramErrors582_ok folGramErrors (lf := 100000) (k := 1000) (by kernel_rfl)
def hmGramErrors583 : List HE := hGramErrors582 :: hmGramErrors582
theorem hmGramErrors583_ok : ∀ x ∈ hmGramErrors583, HOk Tryd.prog x := hmemo_cons hGramErrors582_ok hmGramErrors582_ok
def bgramErrors334 : Blk := ⟨[(eI 1),(eS [83]),(eI 1),(eI 1),(eI 3),(eS [58]),(eI 1),(eI 2),(eI 2),(eS [97]),(eI 1),(eI 4),(eI 2),(eS [98]),(eI 1),(eI 6),(eI 2),(eS [99]),(eI 1),(eI 8),(eI 2),(eS [100]),(eI 1),(eI 10)],81,[(5,24),(4,20),(3,16),(2,12),(1,8),(0,4)],6,0,false,5,none⟩
def hGramErrors583 : HE := ⟨44, [(eS [83,58,32,97,32,98,32,99,32,100]),(eI 1)], [], [((.val (.tup [(.sl 0 5 0 6 none 4),(eI 0)])), [bgramErrors334])]⟩
theorem hGramErrors583_ok : HOk Tryd.prog hGramErrors583 := hok_eq mmGramErrors_ok hmGramErrors583_ok folGramErrors (lf := 100000) (k := 1000) (by kernel_rfl)
def hmGramErrors584 : List HE := hGramErrors583 :: hmGramErrors583
theorem hmGramErrors584_ok : ∀ x ∈ hmGramErrors584, HOk Tryd.prog x := hmemo_cons hGramErrors583_ok hmGramErrors583_ok
def bgramErrors335 : Blk := ⟨[(eI 1),(eS [84]),(eI 2),(eI 1),(eI 3),(eS [58]),(eI 2),(eI 2),(eI 2),(eS [101]),(eI 2),(eI 4),(eI 2),(eS [102]),(eI 2),(eI 6),(eI 2),(eS [103]),(eI 2),(eI 8),(eI 2),(eS [104]),(eI 2),(eI 10),(eI 2),(eS [105]),(eI 2),(eI 12)],81,[(6,28),(5,24),(4,20),(3,16),(2,12),(1,8),(0,4)],7,0,false,6,none⟩
def hGramErrors584 : HE := ⟨44, [(eS [84,58,32,101,32,102,32,103,32,104,32,105]),(eI 2)], [], [((.val (.tup [(.sl 0 6 0 7 none 4),(eI 0)])), [bgramErrors335])]⟩
theorem hGramErrors584_ok : HOk Tryd.prog hGramErrors584 := hok_eq mmGramErrors_ok hmGramErrors584_ok folGramErrors (lf := 100000) (k := 1000) (by kernel_rfl)
def hmGramErrors585 : List HE := hGramErrors584 :: hmGramErrors584
theorem hmGramErrors585_ok : ∀ x ∈ hmGramErrors585, HOk Tryd.prog x := hmemo_cons hGramErrors584_ok hmGramErrors584_ok
def bgramErrors336 : Blk := ⟨[(eI 1),(eS [83]),(eI 1),(eI 1),(eI 3),(eS [58]),(eI 1),(eI 2),(eI 2),(eS [97]),(eI 1),(eI 4),(eI 2),(eS [98]),(eI 1),(eI 6),(eI 2),(eS [99]),(eI 1),(eI 8),(eI 2),(eS [100]),(eI 1),(eI 10),(eI 5),(eS []),(eI 1),(eI 11),(eI 1),(eS [84]),(eI 2),(eI 1),(eI 3),(eS [58]),(eI 2),(eI 2),(eI 2),(eS [101]),(eI 2),(eI 4),(eI 2),(eS [102]),(eI 2),(eI 6),(eI 2),(eS [103]),(eI 2),(eI 8),(eI 2),(eS [104]),(eI 2),(eI 10),(eI 2),(eS [105]),(eI 2),(eI 12),(eI 5),(eS []),(eI 2),(eI 13)],81,[(3,60),(2,56),(1,28),(0,24)],4,0,false,3,none⟩
def tgramErrors9 : List Nat := [83,58,32,97,32,98,32,99,32,100,10,84,58,32,101,32,102,32,103,32,104,32,105,10]
def hGramErrors585 : HE := ⟨19, [(eT tgramErrors9)], [], [((.val (.tup [(.sl 0 3 0 15 none 4),(eI 0),(eI 0),(eI 0)])), [bgramErrors336])]⟩
theorem hGramErrors585_ok : HOk Tryd.prog hGramErrors585 := hok_eq mmGramErrors_ok hmGramErrors585_ok folGramErrors (lf := 100000) (k := 1000) (by kernel_rfl)
def hmGramErrors586 : List HE := hGramErrors585 :: hmGramErrors585
theorem hmGramErrors586_ok : ∀ x ∈ hmGramErrors586, HOk Tryd.prog x := hmemo_cons hGramErrors585_ok hmGramErrors585_ok
def bgramErrors337 : Blk := ⟨[(.sl 2 3 0 4 none 4),(eI 2),(eS [97]),(eI 1),(eI 4)],91,[(0,5)],1,0,false,0,none⟩
def bgramErrors338 : Blk := ⟨[(eI 2),(eS [97]),(eI 1),(eI 4),(eI 2),(eS [98]),(eI 1),(eI 6),(eI 2),(eS [99]),(eI 1),(eI 8),(eI 2),(eS [100]),(eI 1),(eI 10)],81,[(3,16),(2,12),(1,8),(0,4)],4,0,false,3,none⟩
def hGramErrors586 : HE := ⟨48, [(.sl 0 3 0 7 none 4)], [bgramErrors336], [((.val (.agg [(eI 1),(eS [83]),(eI 1),(eI 1),(.sl 1 0 0 1 none 5)])), [bgramErrors337, bgramErrors338])]⟩
theorem hGramErrors586_ok : HOk Tryd.prog hGramErrors586 := hok_eq mmGramErrors_ok hmGramErrors586_ok folGramErrors (lf := 100000) (k := 1000) (by kernel_rfl)
def hmGramErrors587 : List HE := hGramErrors586 :: hmGramErrors586
theorem hmGramErrors587_ok : ∀ x ∈ hmGramErrors587, HOk Tryd.prog x := hmemo_cons hGramErrors586_ok hmGramErrors586_ok
def bgramErrors339 : Blk := ⟨[(.sl 2 4 0 5 none 4),(eI 2),(eS [101]),(eI 2),(eI 4)],91,[(0,5)],1,0,false,0,none⟩
def bgramErrors340 : Blk := ⟨[(eI 2),(eS [101]),(eI 2),(eI 4),(eI 2),(eS [102]),(eI 2),(eI 6),(eI 2),(eS [103]),(eI 2),(eI 8),(eI 2),(eS [104]),(eI 2),(eI 10),(eI 2),(eS [105]),(eI 2),(eI 12)],81,[(4,20),(3,16),(2,12),(1,8),(0,4)],5,0,false,4,none⟩
def hGramErrors587 : HE := ⟨48, [(.sl 0 3 28 8 none 4)], [bgramErrors336], [((.val (.agg [(eI 1),(eS [84]),(eI 2),(eI 1),(.sl 1 0 0 1 none 5)])), [bgramErrors339, bgramErrors340])]⟩
theorem hGramErrors587_ok : HOk Tryd.prog hGramErrors587 := hok_eq mmGramErrors_ok hmGramErrors587_ok folGramErrors (lf := 100000) (k := 1000) (by kernel_rfl)
def hmGramErrors588 : List HE := hGramErrors587 :: hmGramErrors587
theorem hmGramErrors588_ok : ∀ x ∈ hmGramErrors588, HOk Tryd.prog x := hmemo_cons hGramErrors587_ok hmGramErrors587_ok
def bgramErrors341 : Blk := ⟨[(eI 1),(eS [83]),(eI 1),(eI 1),(.sl 2 0 0 1 none 5),(eI 1),(eS [84]),(eI 2),(eI 1),(.sl 4 0 0 1 none 5)],87,[(1,10),(0,5)],2,0,false,1,none⟩
def bgramErrors342 : Blk := ⟨[(.sl 3 3 0 4 none 4),(eI 2),(eS [97]),(eI 1),(eI 4)],91,[(0,5)],1,0,false,0,none⟩
def bgramErrors343 : Blk := ⟨[(.sl 5 4 0 5 none 4),(eI 2),(eS [101]),(eI 2),(eI 4)],91,[(0,5)],1,0,false,0,none⟩
def hGramErrors588 : HE := ⟨22, [(.sl 0 3 0 15 none 4)], [bgramErrors336], [((.val (.sl 1 1 0 2 none 5)), [bgramErrors341, bgramErrors342, bgramErrors338, bgramErrors343, bgramErrors340])]⟩
theorem hGramErrors588_ok : HOk Tryd.prog hGramErrors588 := hok_eq mmGramErrors_ok hmGramErrors588_ok folGramErrors (lf := 100000) (k := 1000) (by kernel_rfl)
def hmGramErrors589 : List HE := hGramErrors588 :: hmGramErrors588
theorem hmGramErrors589_ok : ∀ x ∈ hmGramErrors589, HOk Tryd.prog x := hmemo_cons hGramErrors588_ok hmGramErrors588_ok
def bgramErrors344 : Blk := ⟨[(eI 1),(eS [83]),(eI 1),(eI 1),(.sl 1 0 0 1 none 5),(eI 1),(eS [84]),(eI 2),(eI 1),(.sl 3 0 0 1 none 5)],87,[(1,10),(0,5)],2,0,false,1,none⟩
def bgramErrors345 : Blk := ⟨[(.sl 4 4 0 5 none 4),(eI 2),(eS [101]),(eI 2),(eI 4)],91,[(0,5)],1,0,false,0,none⟩
def hGramErrors589 : HE := ⟨21, [(.sl 0 1 0 2 none 5)], [bgramErrors344, bgramErrors337, bgramErrors338, bgramErrors345, bgramErrors340], [((.panic (.iface 51 (.agg [(eI 2),(eI 12),(eI 5)]))), [])]⟩
theorem hGramErrors589_ok : HOk Tryd.prog hGramErrors589 := hok_eq mmGramErrors_ok hmGramErrors589_ok folGramErrors (lf := 100000) (k := 1000) (by kernel_rfl)
def hmGramErrors590 : List HE := hGramErrors589 :: hmGramErrors589
theorem hmGramErrors590_ok : ∀ x ∈ hmGramErrors590, HOk Tryd.prog x := hmemo_cons hGramErrors589_ok hmGramErrors589_ok
def hGramErrors590 : HE := ⟨8, [(eT tgramErrors9)], [], [((.val (.tup [(.agg [(.lit (.slice none 0 0)),(.lit (.slice none 0 0)),(.lit (.slice none 0 0))]),(eI 2),(eI 12),(eI 5)])), [])]⟩
theorem hGramErrors590_ok : HOk Tryd.prog hGramErrors590 := hok_eq mmGramErrors_ok hmGramErrors590_ok folGramErrors (lf := 100000) (k := 1000) (by kernel_rfl)
def hmGramErrors591 : List HE := hGramErrors590 :: hmGramErrors590
theorem hmGramErrors591_ok : ∀ x ∈ hmGramErrors591, HOk Tryd.prog x := hmemo_cons hGramErrors590_ok hmGramErrors590_ok
def bgramErrors346 : Blk := ⟨[(eI 1),(eS [84]),(eI 2),(eI 1),(eI 3),(eS [58]),(eI 2),(eI 2),(eI 1),(eS [83]),(eI 2),(eI 4)],81,[(2,12),(1,8),(0,4)],3,0,false,2,none⟩
def hGramErrors591 : HE := ⟨44, [(eS [84,58,32,83]),(eI 2)], [], [((.val (.tup [(.sl 0 2 0 3 none 4),(eI 0)])), [bgramErrors346])]⟩
theorem hGramErrors591_ok : HOk Tryd.prog hGramErrors591 := hok_eq mmGramErrors_ok hmGramErrors591_ok folGramErrors (lf := 100000) (k := 1000) (by kernel_rfl)
def hmGramErrors592 : List HE := hGramErrors591 :: hmGramErrors591
theorem hmGramErrors592_ok : ∀ x ∈ hmGramErrors592, HOk Tryd.prog x := hmemo_cons hGramErrors591_ok hmGramErrors591_ok
def hGramErrors592 : HE := ⟨44, [(eS [85,58,32,59]),(eI 3)], [], [((.val (.tup [(.lit (.slice none 0 0)),(eI 4)])), [])]⟩
theorem hGramErrors592_ok : HOk Tryd.prog hGramErrors592 := hok_eq mmGramErrors_ok hmGramErrors592_ok folGramErrors (lf := 100000) (k := 1000) (by kernel_rfl)
def hmGramErrors593 : List HE := hGramErrors592 :: hmGramErrors592
theorem hmGramErrors593_ok : ∀ x ∈ hmGramErrors593, HOk Tryd.prog x := hmemo_cons hGramErrors592_ok hmGramErrors592_ok
def hGramErrors593 : HE := ⟨19, [(eS [83,58,32,84,10,84,58,32,83,10,85,58,32,59,10])], [], [((.val (.tup [(.lit (.slice none 0 0)),(eI 3),(eI 4),(eI 2)])), [])]⟩
theorem hGramErrors593_ok : HOk Tryd.prog hGramErrors593 := hok_eq mmGramErrors_ok hmGramErrors593_ok folGramErrors (lf := 100000) (k := 1000) (by kernel_rfl)
def hmGramErrors594 : List HE := hGramErrors593 :: hmGramErrors593
theorem hmGramErrors594_ok : ∀ x ∈ hmGramErrors594, HOk Tryd.prog x := hmemo_cons hGramErrors593_ok hmGramErrors593_ok
def hGramErrors594 : HE := ⟨8, [(eS [83,58,32,84,10,84,58,32,83,10,85,58,32,59,10])], [], [((.val (.tup [(.agg [(.lit (.slice none 0 0)),(.lit (.slice none 0 0)),(.lit (.slice none 0 0))]),(eI 3),(eI 4),(eI 2)])), [])]⟩
theorem hGramErrors594_ok : HOk Tryd.prog hGramErrors594 := hok_eq mmGramErrors_ok hmGramErrors594_ok folGramErrors (lf := 100000) (k := 1000) (by kernel_rfl)
def hmGramErrors595 : List HE := hGramErrors594 :: hmGramErrors594
theorem hmGramErrors595_ok : ∀ x ∈ hmGramErrors595, HOk Tryd.prog x := hmemo_cons hGramErrors594_ok hmGramErrors594_ok
def hGramErrors595 : HE := ⟨19, [(eS [])], [], [((.val (.tup [(.lit (.slice none 0 0)),(eI 0),(eI 0),(eI 0)])), [])]⟩
theorem hGramErrors595_ok : HOk Tryd.prog hGramErrors595 := hok_eq mmGramErrors_ok hmGramErrors595_ok folGramErrors (lf := 100000) (k := 1000) (by kernel_rfl)
def hmGramErrors596 : List HE := hGramErrors595 :: hmGramErrors595
theorem hmGramErrors596_ok : ∀ x ∈ hmGramErrors596, HOk Tryd.prog x := hmemo_cons hGramErrors595_ok hmGramErrors595_ok
def hGramErrors596 : HE := ⟨22, [(.lit (.slice none 0 0))], [], [((.val (.lit (.slice none 0 0))), [])]⟩
theorem hGramErrors596_ok : HOk Tryd.prog hGramErrors596 := hok_eq mmGramErrors_ok hmGramErrors596_ok folGramErrors (lf := 100000) (k := 1000) (by kernel_rfl)
def hmGramErrors597 : List HE := hGramErrors596 :: hmGramErrors596
theorem hmGramErrors597_ok : ∀ x ∈ hmGramErrors597, HOk Tryd.prog x := hmemo_cons hGramErrors596_ok hmGramErrors596_ok
def hGramErrors597 : HE := ⟨8, [(eS [])], [], [((.val (.tup [(.agg [(.lit (.slice none 0 0)),(.lit (.slice none 0 0)),(.lit (.slice none 0 0))]),(eI 0),(eI 0),(eI 2)])), [])]⟩
theorem hGramErrors597_ok : HOk Tryd.prog hGramErrors597 := hok_eq mmGramErrors_ok hmGramErrors597_ok folGramErrors (lf := 100000) (k := 1000) (by kernel_rfl)
def hmGramErrors598 : List HE := hGramErrors597 :: hmGramErrors597
theorem hmGramErrors598_ok : ∀ x ∈ hmGramErrors598, HOk Tryd.prog x := hmemo_cons hGramErrors597_ok hmGramErrors597_ok
def hGramErrors598 : HE := ⟨44, [(eS [35,32,97]),(eI 1)], [], [((.val (.tup [(.lit (.slice none 0 0)),(eI 0)])), [])]⟩
theorem hGramErrors598_ok : HOk Tryd.prog hGramErrors598 := hok_eq mmGramErrors_ok hmGramErrors598_ok folGramErrors (lf := 100000) (k := 1000) (by kernel_rfl)
def hmGramErrors599 : List HE := hGramErrors598 :: hmGramErrors598
theorem hmGramErrors599_ok : ∀ x ∈ hmGramErrors599, HOk Tryd.prog x := hmemo_cons hGramErrors598_ok hmGramErrors598_ok
def bgramErrors347 : Blk := ⟨[(eI 5),(eS []),(eI 1),(eI 4)],81,[(0,4)],1,0,false,0,none⟩
def hGramErrors599 : HE := ⟨19, [(eS [35,32,97,10])], [], [((.val (.tup [(.sl 0 0 0 1 none 4),(eI 0),(eI 0),(eI 0)])), [bgramErrors347])]⟩
theorem hGramErrors599_ok : HOk Tryd.prog hGramErrors599 := hok_eq mmGramErrors_ok hmGramErrors599_ok folGramErrors (lf := 100000) (k := 1000) (by kernel_rfl)
def hmGramErrors600 : List HE := hGramErrors599 :: hmGramErrors599
theorem hmGramErrors600_ok : ∀ x ∈ hmGramErrors600, HOk Tryd.prog x := hmemo_cons hGramErrors599_ok hmGramErrors599_ok
def hGramErrors600 : HE := ⟨22, [(.sl 0 0 0 1 none 4)], [bgramErrors347], [((.val (.lit (.slice none 0 0))), [])]⟩
theorem hGramErrors600_ok : HOk Tryd.prog hGramErrors600 := hok_eq mmGramErrors_ok hmGramErrors600_ok folGramErrors (lf := 100000) (k := 1000) (by kernel_rfl)
def hmGramErrors601 : List HE := hGramErrors600 :: hmGramErrors600
theorem hmGramErrors601_ok : ∀ x ∈ hmGramErrors601, HOk Tryd.prog x := hmemo_cons hGramErrors600_ok hmGramErrors600_ok
def hGramErrors601 : HE := ⟨8, [(eS [35,32,97,10])], [], [((.val (.tup [(.agg [(.lit (.slice none 0 0)),(.lit (.slice none 0 0)),(.lit (.slice none 0 0))]),(eI 0),(eI 0),(eI 2)])), [])]⟩
theorem hGramErrors601_ok : HOk Tryd.prog hGramErrors601 := hok_eq mmGramErrors_ok hmGramErrors601_ok folGramErrors (lf := 100000) (k := 1000) (by kernel_rfl)
def hmGramErrors602 : List HE := hGramErrors601 :: hmGramErrors601
theorem hmGramErrors602_ok : ∀ x ∈ hmGramErrors602, HOk Tryd.prog x := hmemo_cons hGramErrors601_ok hmGramErrors601_ok
def bgramErrors348 : Blk := ⟨[(eI 1),(eS [83]),(eI 1),(eI 1),(eI 3),(eS [58]),(eI 1),(eI 2),(eI 1),(eS [83]),(eI 1),(eI 4)],81,[(2,12),(1,8),(0,4)],3,0,false,2,none⟩
def hGramErrors602 : HE := ⟨44, [(eS [83,58,32,83]),(eI 1)], [], [((.val (.tup [(.sl 0 2 0 3 none 4),(eI 0)])), [bgramErrors348])]⟩
theorem hGramErrors602_ok : HOk Tryd.prog hGramErrors602 := hok_eq mmGramErrors_ok hmGramErrors602_ok folGramErrors (lf := 100000) (k := 1000) (by kernel_rfl)
def hmGramErrors603 : List HE := hGramErrors602 :: hmGramErrors602
theorem hmGramErrors603_ok : ∀ x ∈ hmGramErrors603, HOk Tryd.prog x := hmemo_cons hGramErrors602_ok hmGramErrors602_ok
def bgramErrors349 : Blk := ⟨[(eI 1),(eS [83]),(eI 1),(eI 1),(eI 3),(eS [58]),(eI 1),(eI 2),(eI 1),(eS [83]),(eI 1),(eI 4),(eI 5),(eS []),(eI 1),(eI 5)],81,[(1,16),(0,12)],2,0,false,1,none⟩
def hGramErrors603 : HE := ⟨19, [(eS [83,58,32,83,10])], [], [((.val (.tup [(.sl 0 1 0 4 none 4),(eI 0),(eI 0),(eI 0)])), [bgramErrors349])]⟩
theorem hGramErrors603_ok : HOk Tryd.prog hGramErrors603 := hok_eq mmGramErrors_ok hmGramErrors603_ok folGramErrors (lf := 100000) (k := 1000) (by kernel_rfl)
def hmGramErrors604 : List HE := hGramErrors603 :: hmGramErrors603
theorem hmGramErrors604_ok : ∀ x ∈ hmGramErrors604, HOk Tryd.prog x := hmemo_cons hGramErrors603_ok hmGramErrors603_ok
def bgramErrors350 : Blk := ⟨[(.sl 2 0 0 1 none 4),(eI 1),(eS [83]),(eI 1),(eI 4)],91,[(0,5)],1,0,false,0,none⟩
def bgramErrors351 : Blk := ⟨[(eI 1),(eS [83]),(eI 1),(eI 4)],81,[(0,4)],1,0,false,0,none⟩
def hGramErrors604 : HE := ⟨48, [(.sl 0 1 0 4 none 4)], [bgramErrors349], [((.val (.agg [(eI 1),(eS [83]),(eI 1),(eI 1),(.sl 1 0 0 1 none 5)])), [bgramErrors350, bgramErrors351])]⟩
theorem hGramErrors604_ok : HOk Tryd.prog hGramErrors604 := hok_eq mmGramErrors_ok hmGramErrors604_ok folGramErrors (lf := 100000) (k := 1000) (by kernel_rfl)
def hmGramErrors605 : List HE := hGramErrors604 :: hmGramErrors604
theorem hmGramErrors605_ok : ∀ x ∈ hmGramErrors605, HOk Tryd.prog x := hmemo_cons hGramErrors604_ok hmGramErrors604_ok
def bgramErrors352 : Blk := ⟨[(.sl 3 0 0 1 none 4),(eI 1),(eS [83]),(eI 1),(eI 4)],91,[(0,5)],1,0,false,0,none⟩
def hGramErrors605 : HE := ⟨22, [(.sl 0 1 0 4 none 4)], [bgramErrors349], [((.val (.sl 1 0 0 1 none 5)), [bgramErrors306, bgramErrors352, bgramErrors351])]⟩
theorem hGramErrors605_ok : HOk Tryd.prog hGramErrors605 := hok_eq mmGramErrors_ok hmGramErrors605_ok folGramErrors (lf := 100000) (k := 1000) (by kernel_rfl)
def hmGramErrors606 : List HE := hGramErrors605 :: hmGramErrors605
theorem hmGramErrors606_ok : ∀ x ∈ hmGramErrors606, HOk Tryd.prog x := hmemo_cons hGramErrors605_ok hmGramErrors605_ok
def hGramErrors606 : HE := ⟨21, [(.sl 0 0 0 1 none 5)], [bgramErrors308, bgramErrors350, bgramErrors351], [((.panic (.iface 51 (.agg [(eI 0),(eI 0),(eI 2)]))), [])]⟩
theorem hGramErrors606_ok : HOk Tryd.prog hGramErrors606 := hok_eq mmGramErrors_ok hmGramErrors606_ok folGramErrors (lf := 100000) (k := 1000) (by kernel_rfl)
def hmGramErrors607 : List HE := hGramErrors606 :: hmGramErrors606
theorem hmGramErrors607_ok : ∀ x ∈ hmGramErrors607, HOk Tryd.prog x := hmemo_cons hGramErrors606_ok hmGramErrors606_ok
def hGramErrors607 : HE := ⟨8, [(eS [83,58,32,83,10])], [], [((.val (.tup [(.agg [(.lit (.slice none 0 0)),(.lit (.slice none 0 0)),(.lit (.slice none 0 0))]),(eI 0),(eI 0),(eI 2)])), [])]⟩
theorem hGramErrors607_ok : HOk Tryd.prog hGramErrors607 := hok_eq mmGramErrors_ok hmGramErrors607_ok folGramErrors (lf := 100000) (k := 1000) (by kernel_rfl)
def hmGramErrors608 : List HE := hGramErrors607 :: hmGramErrors607
theorem hmGramErrors608_ok : ∀ x ∈ hmGramErrors608, HOk Tryd.prog x := hmemo_cons hGramErrors607_ok hmGramErrors607_ok
def bgramErrors353 : Blk := ⟨[(eI 1),(eS [83]),(eI 1),(eI 1),(eI 3),(eS [58]),(eI 1),(eI 2)],81,[(1,8),(0,4)],2,0,false,1,none⟩
def hGramErrors608 : HE := ⟨44, [(eS [83,58]),(eI 1)], [], [((.val (.tup [(.sl 0 1 0 2 none 4),(eI 0)])), [bgramErrors353])]⟩
theorem hGramErrors608_ok : HOk Tryd.prog hGramErrors608 := hok_eq mmGramErrors_ok hmGramErrors608_ok folGramErrors (lf := 100000) (k := 1000) (by kernel_rfl)
def hmGramErrors609 : List HE := hGramErrors608 :: hmGramErrors608
theorem hmGramErrors609_ok : ∀ x ∈ hmGramErrors609, HOk Tryd.prog x := hmemo_cons hGramErrors608_ok hmGramErrors608_ok
def bgramErrors354 : Blk := ⟨[(eI 1),(eS [83]),(eI 1),(eI 1),(eI 3),(eS [58]),(eI 1),(eI 2),(eI 5),(eS []),(eI 1),(eI 3)],81,[(1,12),(0,8)],2,0,false,1,none⟩
def hGramErrors609 : HE := ⟨19, [(eS [83,58,10])], [], [((.val (.tup [(.sl 0 1 0 3 none 4),(eI 0),(eI 0),(eI 0)])), [bgramErrors354])]⟩
theorem hGramErrors609_ok : HOk Tryd.prog hGramErrors609 := hok_eq mmGramErrors_ok hmGramErrors609_ok folGramErrors (lf := 100000) (k := 1000) (by kernel_rfl)
def hmGramErrors610 : List HE := hGramErrors609 :: hmGramErrors609
theorem hmGramErrors610_ok : ∀ x ∈ hmGramErrors610, HOk Tryd.prog x := hmemo_cons hGramErrors609_ok hmGramErrors609_ok
def bgramErrors355 : Blk := ⟨[(.lit (.slice none 0 0)),(eI 5),(eS []),(eI 1),(eI 3)],91,[(0,5)],1,0,false,0,none⟩
def hGramErrors610 : HE := ⟨48, [(.sl 0 1 0 3 none 4)], [bgramErrors354], [((.val (.agg [(eI 1),(eS [83]),(eI 1),(eI 1),(.sl 1 0 0 1 none 5)])), [bgramErrors355])]⟩
theorem hGramErrors610_ok : HOk Tryd.prog hGramErrors610 := hok_eq mmGramErrors_ok hmGramErrors610_ok folGramErrors (lf := 100000) (k := 1000) (by kernel_rfl)
def hmGramErrors611 : List HE := hGramErrors610 :: hmGramErrors610
theorem hmGramErrors611_ok : ∀ x ∈ hmGramErrors611, HOk Tryd.prog x := hmemo_cons hGramErrors610_ok hmGramErrors610_ok
def hGramErrors611 : HE := ⟨22, [(.sl 0 1 0 3 none 4)], [bgramErrors354], [((.val (.sl 1 0 0 1 none 5)), [bgramErrors306, bgramErrors355])]⟩
theorem hGramErrors611_ok : HOk Tryd.prog hGramErrors611 := hok_eq mmGramErrors_ok hmGramErrors611_ok folGramErrors (lf := 100000) (k := 1000) (by kernel_rfl)
def hmGramErrors612 : List HE := hGramErrors611 :: hmGramErrors611
theorem hmGramErrors612_ok : ∀ x ∈ hmGramErrors612, HOk Tryd.prog x := hmemo_cons hGramErrors611_ok hmGramErrors611_ok
def hGramErrors612 : HE := ⟨21, [(.sl 0 0 0 1 none 5)], [bgramErrors308, bgramErrors355], [((.panic (.iface 51 (.agg [(eI 0),(eI 0),(eI 2)]))), [])]⟩
theorem hGramErrors612_ok : HOk Tryd.prog hGramErrors612 := hok_eq mmGramErrors_ok hmGramErrors612_ok folGramErrors (lf := 100000) (k := 1000) (by kernel_rfl)
def hmGramErrors613 : List HE := hGramErrors612 :: hmGramErrors612
theorem hmGramErrors613_ok : ∀ x ∈ hmGramErrors613, HOk Tryd.prog x := hmemo_cons hGramErrors612_ok hmGramErrors612_ok
def hGramErrors613 : HE := ⟨8, [(eS [83,58,10])], [], [((.val (.tup [(.agg [(.lit (.slice none 0 0)),(.lit (.slice none 0 0)),(.lit (.slice none 0 0))]),(eI 0),(eI 0),(eI 2)])), [])]⟩
theorem hGramErrors613_ok : HOk Tryd.prog hGramErrors613 := hok_eq mmGramErrors_ok hmGramErrors613_ok folGramErrors (lf := 100000) (k := 1000) (by kernel_rfl)
def hmGramErrors614 : List HE := hGramErrors613 :: hmGramErrors613
theorem hmGramErrors614_ok : ∀ x ∈ hmGramErrors614, HOk Tryd.prog x := hmemo_cons hGramErrors613_ok hmGramErrors613_ok
def bgramErrors356 : Blk := ⟨[(eI 1),(eS [83]),(eI 1),(eI 1),(eI 3),(eS [58]),(eI 1),(eI 2),(eI 1),(eS [84]),(eI 1),(eI 4),(eI 4),(eS [124]),(eI 1),(eI 6)],81,[(3,16),(2,12),(1,8),(0,4)],4,0,false,3,none⟩
def hGramErrors614 : HE := ⟨44, [(eS [83,58,32,84,32,124]),(eI 1)], [], [((.val (.tup [(.sl 0 3 0 4 none 4),(eI 0)])), [bgramErrors356])]⟩
theorem hGramErrors614_ok : HOk Tryd.prog hGramErrors614 := hok_eq mmGramErrors_ok hmGramErrors614_ok folGramErrors (lf := 100000) (k := 1000) (by kernel_rfl)
def hmGramErrors615 : List HE := hGramErrors614 :: hmGramErrors614
theorem hmGramErrors615_ok : ∀ x ∈ hmGramErrors615, HOk Tryd.prog x := hmemo_cons hGramErrors614_ok hmGramErrors614_ok
def bgramErrors357 : Blk := ⟨[(eI 1),(eS [83]),(eI 1),(eI 1),(eI 3),(eS [58]),(eI 1),(eI 2),(eI 1),(eS [84]),(eI 1),(eI 4),(eI 4),(eS [124]),(eI 1),(eI 6),(eI 5),(eS []),(eI 1),(eI 7),(eI 1),(eS [84]),(eI 2),(eI 1),(eI 3),(eS [58]),(eI 2),(eI 2),(eI 1),(eS [83]),(eI 2),(eI 4),(eI 5),(eS []),(eI 2),(eI 5)],81,[(3,36),(2,32),(1,20),(0,16)],4,0,false,3,none⟩
def hGramErrors615 : HE := ⟨19, [(eS [83,58,32,84,32,124,10,84,58,32,83,10])], [], [((.val (.tup [(.sl 0 3 0 9 none 4),(eI 0),(eI 0),(eI 0)])), [bgramErrors357])]⟩
theorem hGramErrors615_ok : HOk Tryd.prog hGramErrors615 := hok_eq mmGramErrors_ok hmGramErrors615_ok folGramErrors (lf := 100000) (k := 1000) (by kernel_rfl)
def hmGramErrors616 : List HE := hGramErrors615 :: hmGramErrors615
theorem hmGramErrors616_ok : ∀ x ∈ hmGramErrors616, HOk Tryd.prog x := hmemo_cons hGramErrors615_ok hmGramErrors615_ok
def bgramErrors358 : Blk := ⟨[(.sl 2 0 0 1 none 4),(eI 1),(eS [84]),(eI 1),(eI 4),(.lit (.slice none 0 0)),(eI 5),(eS []),(eI 1),(eI 7)],91,[(1,10),(0,5)],2,0,false,1,none⟩
def hGramErrors616 : HE := ⟨48, [(.sl 0 3 0 5 none 4)], [bgramErrors357], [((.val (.agg [(eI 1),(eS [83]),(eI 1),(eI 1),(.sl 1 1 0 2 none 5)])), [bgramErrors358, bgramErrors295])]⟩
theorem hGramErrors616_ok : HOk Tryd.prog hGramErrors616 := hok_eq mmGramErrors_ok hmGramErrors616_ok folGramErrors (lf := 100000) (k := 1000) (by kernel_rfl)
def hmGramErrors617 : List HE := hGramErrors616 :: hmGramErrors616
theorem hmGramErrors617_ok : ∀ x ∈ hmGramErrors617, HOk Tryd.prog x := hmemo_cons hGramErrors616_ok hmGramErrors616_ok
def hGramErrors617 : HE := ⟨48, [(.sl 0 3 20 4 none 4)], [bgramErrors357], [((.val (.agg [(eI 1),(eS [84]),(eI 2),(eI 1),(.sl 1 0 0 1 none 5)])), [bgramErrors267, bgramErrors268])]⟩
theorem hGramErrors617_ok : HOk Tryd.prog hGramErrors617 := hok_eq mmGramErrors_ok hmGramErrors617_ok folGramErrors (lf := 100000) (k := 1000) (by kernel_rfl)
def hmGramErrors618 : List HE := hGramErrors617 :: hmGramErrors617
theorem hmGramErrors618_ok : ∀ x ∈ hmGramErrors618, HOk Tryd.prog x := hmemo_cons hGramErrors617_ok hmGramErrors617_ok
def bgramErrors359 : Blk := ⟨[(eI 1),(eS [83]),(eI 1),(eI 1),(.sl 2 1 0 2 none 5),(eI 1),(eS [84]),(eI 2),(eI 1),(.sl 4 0 0 1 none 5)],87,[(1,10),(0,5)],2,0,false,1,none⟩
def bgramErrors360 : Blk := ⟨[(.sl 3 0 0 1 none 4),(eI 1),(eS [84]),(eI 1),(eI 4),(.lit (.slice none 0 0)),(eI 5),(eS []),(eI 1),(eI 7)],91,[(1,10),(0,5)],2,0,false,1,none⟩
def bgramErrors361 : Blk := ⟨[(.sl 5 0 0 1 none 4),(eI 1),(eS [83]),(eI 2),(eI 4)],91,[(0,5)],1,0,false,0,none⟩
def hGramErrors618 : HE := ⟨22, [(.sl 0 3 0 9 none 4)], [bgramErrors357], [((.val (.sl 1 1 0 2 none 5)), [bgramErrors359, bgramErrors360, bgramErrors295, bgramErrors361, bgramErrors268])]⟩
theorem hGramErrors618_ok : HOk Tryd.prog hGramErrors618 := hok_eq mmGramErrors_ok hmGramErrors618_ok folGramErrors (lf := 100000) (k := 1000) (by kernel_rfl)
def hmGramErrors619 : List HE := hGramErrors618 :: hmGramErrors618
theorem hmGramErrors619_ok : ∀ x ∈ hmGramErrors619, HOk Tryd.prog x := hmemo_cons hGramErrors618_ok hmGramErrors618_ok
def bgramErrors362 : Blk := ⟨[(eI 1),(eS [83]),(eI 1),(eI 1),(.sl 1 1 0 2 none 5),(eI 1),(eS [84]),(eI 2),(eI 1),(.sl 3 0 0 1 none 5)],87,[(1,10),(0,5)],2,0,false,1,none⟩
def bgramErrors363 : Blk := ⟨[(.sl 4 0 0 1 none 4),(eI 1),(eS [83]),(eI 2),(eI 4)],91,[(0,5)],1,0,false,0,none⟩
def hGramErrors619 : HE := ⟨21, [(.sl 0 1 0 2 none 5)], [bgramErrors362, bgramErrors358, bgramErrors295, bgramErrors363, bgramErrors268], [((.panic (.iface 51 (.agg [(eI 0),(eI 0),(eI 2)]))), [])]⟩
theorem hGramErrors619_ok : HOk Tryd.prog hGramErrors619 := hok_eq mmGramErrors_ok hmGramErrors619_ok folGramErrors (lf := 100000) (k := 1000) (by kernel_rfl)
def hmGramErrors620 : List HE := hGramErrors619 :: hmGramErrors619
theorem hmGramErrors620_ok : ∀ x ∈ hmGramErrors620, HOk Tryd.prog x := hmemo_cons hGramErrors619_ok hmGramErrors619_ok
def hGramErrors620 : HE := ⟨8, [(eS [83,58,32,84,32,124,10,84,58,32,83,10])], [], [((.val (.tup [(.agg [(.lit (.slice none 0 0)),(.lit (.slice none 0 0)),(.lit (.slice none 0 0))]),(eI 0),(eI 0),(eI 2)])), [])]⟩
theorem hGramErrors620_ok : HOk Tryd.prog hGramErrors620 := hok_eq mmGramErrors_ok hmGramErrors620_ok folGramErrors (lf := 100000) (k := 1000) (by kernel_rfl)
def hmGramErrors621 : List HE := hGramErrors620 :: hmGramErrors620
theorem hmGramErrors621_ok : ∀ x ∈ hmGramErrors621, HOk Tryd.prog x := hmemo_cons hGramErrors620_ok hmGramErrors620_ok
end Go.Proofs.YthofgbkmmedjnaaDoor.E
