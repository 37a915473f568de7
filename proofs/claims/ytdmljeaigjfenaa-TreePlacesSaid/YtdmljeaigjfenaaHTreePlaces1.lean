/- Calls that TreePlaces makes, each carried out once over the memory that it is given. -/
import Derived.Test.YtdmljeaigjfenaaHTreePlaces0
namespace Go.Proofs.Ytdmljeaigjfenaa.E
open Go Go.EV Go.RowKit Go.Proofs
set_option linter.unusedVariables false
set_option maxRecDepth 100000
theorem hTreePlaces481_ok : HOk Try.prog hTreePlaces481 := hok_eq mmTreePlaces_ok hmTreePlaces481_ok folTreePlaces (lf := 100000) (k := 1000) (by kernel_rfl)
def hmTreePlaces482 : List HE := hTreePlaces481 :: hmTreePlaces481
theorem hmTreePlaces482_ok : ∀ x ∈ hmTreePlaces482, HOk Try.prog x := hmemo_cons hTreePlaces481_ok hmTreePlaces481_ok
def hTreePlaces482 : HE := ⟨32, [(.agg [(eI 1),(.lit (.int .i64 (Int.negSucc 0))),(.lit (.slice none 0 0))]),(eI 2),(eI 4),(.lit (.int .i64 (Int.negSucc 0)))], [], [((.val eB0), [])]⟩
theorem hTreePlaces482_ok : HOk Try.prog hTreePlaces482 := hok_eq mmTreePlaces_ok hmTreePlaces482_ok folTreePlaces (lf := 100000) (k := 1000) (by kernel_rfl)
def hmTreePlaces483 : List HE := hTreePlaces482 :: hmTreePlaces482
theorem hmTreePlaces483_ok : ∀ x ∈ hmTreePlaces483, HOk Try.prog x := hmemo_cons hTreePlaces482_ok hmTreePlaces482_ok
def hTreePlaces483 : HE := ⟨32, [(.agg [(eI 100),(.lit (.int .i64 (Int.negSucc 0))),(.lit (.slice none 0 0))]),(eI 2),(eI 4),(.lit (.int .i64 (Int.negSucc 1)))], [], [((.val eB0), [])]⟩
theorem hTreePlaces483_ok : HOk Try.prog hTreePlaces483 := hok_eq mmTreePlaces_ok hmTreePlaces483_ok folTreePlaces (lf := 100000) (k := 1000) (by kernel_rfl)
def hmTreePlaces484 : List HE := hTreePlaces483 :: hmTreePlaces483
theorem hmTreePlaces484_ok : ∀ x ∈ hmTreePlaces484, HOk Try.prog x := hmemo_cons hTreePlaces483_ok hmTreePlaces483_ok
def hTreePlaces484 : HE := ⟨32, [(.agg [(eI 100),(eI 0),(.sl 0 2 0 3 none 3)]),(eI 2),(eI 4),(eI 0)], [btreePlaces13, btreePlaces10], [((.val eB0), [])]⟩
theorem hTreePlaces484_ok : HOk Try.prog hTreePlaces484 := hok_eq mmTreePlaces_ok hmTreePlaces484_ok folTreePlaces (lf := 100000) (k := 1000) (by kernel_rfl)
def hmTreePlaces485 : List HE := hTreePlaces484 :: hmTreePlaces484
theorem hmTreePlaces485_ok : ∀ x ∈ hmTreePlaces485, HOk Try.prog x := hmemo_cons hTreePlaces484_ok hmTreePlaces484_ok
def hTreePlaces485 : HE := ⟨32, [(.agg [(eI 100),(eI 0),(.sl 0 2 0 3 none 3)]),(eI 2),(eI 4),(eI 1)], [btreePlaces15, btreePlaces16, btreePlaces10], [((.val eB0), [])]⟩
theorem hTreePlaces485_ok : HOk Try.prog hTreePlaces485 := hok_eq mmTreePlaces_ok hmTreePlaces485_ok folTreePlaces (lf := 100000) (k := 1000) (by kernel_rfl)
def hmTreePlaces486 : List HE := hTreePlaces485 :: hmTreePlaces485
theorem hmTreePlaces486_ok : ∀ x ∈ hmTreePlaces486, HOk Try.prog x := hmemo_cons hTreePlaces485_ok hmTreePlaces485_ok
def hTreePlaces486 : HE := ⟨32, [(.agg [(eI 101),(eI 2),(.lit (.slice none 0 0))]),(eI 2),(eI 4),(eI 0)], [], [((.val eB0), [])]⟩
theorem hTreePlaces486_ok : HOk Try.prog hTreePlaces486 := hok_eq mmTreePlaces_ok hmTreePlaces486_ok folTreePlaces (lf := 100000) (k := 1000) (by kernel_rfl)
def hmTreePlaces487 : List HE := hTreePlaces486 :: hmTreePlaces486
theorem hmTreePlaces487_ok : ∀ x ∈ hmTreePlaces487, HOk Try.prog x := hmemo_cons hTreePlaces486_ok hmTreePlaces486_ok
def hTreePlaces487 : HE := ⟨32, [(.agg [(eI 100),(eI 0),(.sl 0 2 0 3 none 3)]),(eI 2),(eI 4),(.lit (.int .i64 (Int.negSucc 0)))], [btreePlaces13, btreePlaces10], [((.val eB0), [])]⟩
theorem hTreePlaces487_ok : HOk Try.prog hTreePlaces487 := hok_eq mmTreePlaces_ok hmTreePlaces487_ok folTreePlaces (lf := 100000) (k := 1000) (by kernel_rfl)
def hmTreePlaces488 : List HE := hTreePlaces487 :: hmTreePlaces487
theorem hmTreePlaces488_ok : ∀ x ∈ hmTreePlaces488, HOk Try.prog x := hmemo_cons hTreePlaces487_ok hmTreePlaces487_ok
def hTreePlaces488 : HE := ⟨32, [(.agg [(eI 100),(eI 0),(.sl 0 2 0 3 none 3)]),(eI 2),(eI 4),(eI 0)], [btreePlaces15, btreePlaces16, btreePlaces10], [((.val eB0), [])]⟩
theorem hTreePlaces488_ok : HOk Try.prog hTreePlaces488 := hok_eq mmTreePlaces_ok hmTreePlaces488_ok folTreePlaces (lf := 100000) (k := 1000) (by kernel_rfl)
def hmTreePlaces489 : List HE := hTreePlaces488 :: hmTreePlaces488
theorem hmTreePlaces489_ok : ∀ x ∈ hmTreePlaces489, HOk Try.prog x := hmemo_cons hTreePlaces488_ok hmTreePlaces488_ok
def hTreePlaces489 : HE := ⟨32, [(.agg [(eI 100),(eI 0),(.sl 0 2 0 3 none 3)]),(eI 2),(eI 4),(.lit (.int .i64 (Int.negSucc 0)))], [btreePlaces15, btreePlaces16, btreePlaces10], [((.val eB0), [])]⟩
theorem hTreePlaces489_ok : HOk Try.prog hTreePlaces489 := hok_eq mmTreePlaces_ok hmTreePlaces489_ok folTreePlaces (lf := 100000) (k := 1000) (by kernel_rfl)
def hmTreePlaces490 : List HE := hTreePlaces489 :: hmTreePlaces489
theorem hmTreePlaces490_ok : ∀ x ∈ hmTreePlaces490, HOk Try.prog x := hmemo_cons hTreePlaces489_ok hmTreePlaces489_ok
def hTreePlaces490 : HE := ⟨32, [(.agg [(eI 101),(eI 2),(.lit (.slice none 0 0))]),(eI 2),(eI 3),(eI 4)], [], [((.val eB0), [])]⟩
theorem hTreePlaces490_ok : HOk Try.prog hTreePlaces490 := hok_eq mmTreePlaces_ok hmTreePlaces490_ok folTreePlaces (lf := 100000) (k := 1000) (by kernel_rfl)
def hmTreePlaces491 : List HE := hTreePlaces490 :: hmTreePlaces490
theorem hmTreePlaces491_ok : ∀ x ∈ hmTreePlaces491, HOk Try.prog x := hmemo_cons hTreePlaces490_ok hmTreePlaces490_ok
def hTreePlaces491 : HE := ⟨32, [(.agg [(eI 1),(.lit (.int .i64 (Int.negSucc 0))),(.lit (.slice none 0 0))]),(eI 2),(eI 3),(eI 4)], [], [((.val eB0), [])]⟩
theorem hTreePlaces491_ok : HOk Try.prog hTreePlaces491 := hok_eq mmTreePlaces_ok hmTreePlaces491_ok folTreePlaces (lf := 100000) (k := 1000) (by kernel_rfl)
def hmTreePlaces492 : List HE := hTreePlaces491 :: hmTreePlaces491
theorem hmTreePlaces492_ok : ∀ x ∈ hmTreePlaces492, HOk Try.prog x := hmemo_cons hTreePlaces491_ok hmTreePlaces491_ok
def hTreePlaces492 : HE := ⟨32, [(.agg [(eI 3),(.lit (.int .i64 (Int.negSucc 0))),(.lit (.slice none 0 0))]),(eI 2),(eI 3),(eI 3)], [], [((.val eB0), [])]⟩
theorem hTreePlaces492_ok : HOk Try.prog hTreePlaces492 := hok_eq mmTreePlaces_ok hmTreePlaces492_ok folTreePlaces (lf := 100000) (k := 1000) (by kernel_rfl)
def hmTreePlaces493 : List HE := hTreePlaces492 :: hmTreePlaces492
theorem hmTreePlaces493_ok : ∀ x ∈ hmTreePlaces493, HOk Try.prog x := hmemo_cons hTreePlaces492_ok hmTreePlaces492_ok
def hTreePlaces493 : HE := ⟨32, [(.agg [(eI 101),(eI 3),(.sl 0 0 0 1 none 3)]),(eI 2),(eI 3),(eI 3)], [btreePlaces10], [((.val eB0), [])]⟩
theorem hTreePlaces493_ok : HOk Try.prog hTreePlaces493 := hok_eq mmTreePlaces_ok hmTreePlaces493_ok folTreePlaces (lf := 100000) (k := 1000) (by kernel_rfl)
def hmTreePlaces494 : List HE := hTreePlaces493 :: hmTreePlaces493
theorem hmTreePlaces494_ok : ∀ x ∈ hmTreePlaces494, HOk Try.prog x := hmemo_cons hTreePlaces493_ok hmTreePlaces493_ok
def hTreePlaces494 : HE := ⟨32, [(.agg [(eI 1),(.lit (.int .i64 (Int.negSucc 0))),(.lit (.slice none 0 0))]),(eI 2),(eI 3),(eI 2)], [], [((.val eB0), [])]⟩
theorem hTreePlaces494_ok : HOk Try.prog hTreePlaces494 := hok_eq mmTreePlaces_ok hmTreePlaces494_ok folTreePlaces (lf := 100000) (k := 1000) (by kernel_rfl)
def hmTreePlaces495 : List HE := hTreePlaces494 :: hmTreePlaces494
theorem hmTreePlaces495_ok : ∀ x ∈ hmTreePlaces495, HOk Try.prog x := hmemo_cons hTreePlaces494_ok hmTreePlaces494_ok
def hTreePlaces495 : HE := ⟨32, [(.agg [(eI 100),(.lit (.int .i64 (Int.negSucc 0))),(.lit (.slice none 0 0))]),(eI 2),(eI 3),(eI 1)], [], [((.val eB0), [])]⟩
theorem hTreePlaces495_ok : HOk Try.prog hTreePlaces495 := hok_eq mmTreePlaces_ok hmTreePlaces495_ok folTreePlaces (lf := 100000) (k := 1000) (by kernel_rfl)
def hmTreePlaces496 : List HE := hTreePlaces495 :: hmTreePlaces495
theorem hmTreePlaces496_ok : ∀ x ∈ hmTreePlaces496, HOk Try.prog x := hmemo_cons hTreePlaces495_ok hmTreePlaces495_ok
def hTreePlaces496 : HE := ⟨32, [(.agg [(eI 100),(eI 0),(.sl 0 2 0 3 none 3)]),(eI 2),(eI 3),(eI 3)], [btreePlaces13, btreePlaces10], [((.val eB0), [])]⟩
theorem hTreePlaces496_ok : HOk Try.prog hTreePlaces496 := hok_eq mmTreePlaces_ok hmTreePlaces496_ok folTreePlaces (lf := 100000) (k := 1000) (by kernel_rfl)
def hmTreePlaces497 : List HE := hTreePlaces496 :: hmTreePlaces496
theorem hmTreePlaces497_ok : ∀ x ∈ hmTreePlaces497, HOk Try.prog x := hmemo_cons hTreePlaces496_ok hmTreePlaces496_ok
def hTreePlaces497 : HE := ⟨32, [(.agg [(eI 100),(eI 0),(.sl 0 2 0 3 none 3)]),(eI 2),(eI 3),(eI 4)], [btreePlaces15, btreePlaces16, btreePlaces10], [((.val eB0), [])]⟩
theorem hTreePlaces497_ok : HOk Try.prog hTreePlaces497 := hok_eq mmTreePlaces_ok hmTreePlaces497_ok folTreePlaces (lf := 100000) (k := 1000) (by kernel_rfl)
def hmTreePlaces498 : List HE := hTreePlaces497 :: hmTreePlaces497
theorem hmTreePlaces498_ok : ∀ x ∈ hmTreePlaces498, HOk Try.prog x := hmemo_cons hTreePlaces497_ok hmTreePlaces497_ok
def hTreePlaces498 : HE := ⟨32, [(.agg [(eI 101),(eI 2),(.lit (.slice none 0 0))]),(eI 2),(eI 3),(eI 3)], [], [((.val eB0), [])]⟩
theorem hTreePlaces498_ok : HOk Try.prog hTreePlaces498 := hok_eq mmTreePlaces_ok hmTreePlaces498_ok folTreePlaces (lf := 100000) (k := 1000) (by kernel_rfl)
def hmTreePlaces499 : List HE := hTreePlaces498 :: hmTreePlaces498
theorem hmTreePlaces499_ok : ∀ x ∈ hmTreePlaces499, HOk Try.prog x := hmemo_cons hTreePlaces498_ok hmTreePlaces498_ok
def hTreePlaces499 : HE := ⟨32, [(.agg [(eI 1),(.lit (.int .i64 (Int.negSucc 0))),(.lit (.slice none 0 0))]),(eI 2),(eI 3),(eI 3)], [], [((.val eB0), [])]⟩
theorem hTreePlaces499_ok : HOk Try.prog hTreePlaces499 := hok_eq mmTreePlaces_ok hmTreePlaces499_ok folTreePlaces (lf := 100000) (k := 1000) (by kernel_rfl)
def hmTreePlaces500 : List HE := hTreePlaces499 :: hmTreePlaces499
theorem hmTreePlaces500_ok : ∀ x ∈ hmTreePlaces500, HOk Try.prog x := hmemo_cons hTreePlaces499_ok hmTreePlaces499_ok
def hTreePlaces500 : HE := ⟨32, [(.agg [(eI 3),(.lit (.int .i64 (Int.negSucc 0))),(.lit (.slice none 0 0))]),(eI 2),(eI 3),(eI 2)], [], [((.val eB0), [])]⟩
theorem hTreePlaces500_ok : HOk Try.prog hTreePlaces500 := hok_eq mmTreePlaces_ok hmTreePlaces500_ok folTreePlaces (lf := 100000) (k := 1000) (by kernel_rfl)
def hmTreePlaces501 : List HE := hTreePlaces500 :: hmTreePlaces500
theorem hmTreePlaces501_ok : ∀ x ∈ hmTreePlaces501, HOk Try.prog x := hmemo_cons hTreePlaces500_ok hmTreePlaces500_ok
def hTreePlaces501 : HE := ⟨32, [(.agg [(eI 101),(eI 3),(.sl 0 0 0 1 none 3)]),(eI 2),(eI 3),(eI 2)], [btreePlaces10], [((.val eB0), [])]⟩
theorem hTreePlaces501_ok : HOk Try.prog hTreePlaces501 := hok_eq mmTreePlaces_ok hmTreePlaces501_ok folTreePlaces (lf := 100000) (k := 1000) (by kernel_rfl)
def hmTreePlaces502 : List HE := hTreePlaces501 :: hmTreePlaces501
theorem hmTreePlaces502_ok : ∀ x ∈ hmTreePlaces502, HOk Try.prog x := hmemo_cons hTreePlaces501_ok hmTreePlaces501_ok
def hTreePlaces502 : HE := ⟨32, [(.agg [(eI 1),(.lit (.int .i64 (Int.negSucc 0))),(.lit (.slice none 0 0))]),(eI 2),(eI 3),(eI 1)], [], [((.val eB0), [])]⟩
theorem hTreePlaces502_ok : HOk Try.prog hTreePlaces502 := hok_eq mmTreePlaces_ok hmTreePlaces502_ok folTreePlaces (lf := 100000) (k := 1000) (by kernel_rfl)
def hmTreePlaces503 : List HE := hTreePlaces502 :: hmTreePlaces502
theorem hmTreePlaces503_ok : ∀ x ∈ hmTreePlaces503, HOk Try.prog x := hmemo_cons hTreePlaces502_ok hmTreePlaces502_ok
def hTreePlaces503 : HE := ⟨32, [(.agg [(eI 100),(.lit (.int .i64 (Int.negSucc 0))),(.lit (.slice none 0 0))]),(eI 2),(eI 3),(eI 0)], [], [((.val eB0), [])]⟩
theorem hTreePlaces503_ok : HOk Try.prog hTreePlaces503 := hok_eq mmTreePlaces_ok hmTreePlaces503_ok folTreePlaces (lf := 100000) (k := 1000) (by kernel_rfl)
def hmTreePlaces504 : List HE := hTreePlaces503 :: hmTreePlaces503
theorem hmTreePlaces504_ok : ∀ x ∈ hmTreePlaces504, HOk Try.prog x := hmemo_cons hTreePlaces503_ok hmTreePlaces503_ok
def hTreePlaces504 : HE := ⟨32, [(.agg [(eI 100),(eI 0),(.sl 0 2 0 3 none 3)]),(eI 2),(eI 3),(eI 2)], [btreePlaces13, btreePlaces10], [((.val eB0), [])]⟩
theorem hTreePlaces504_ok : HOk Try.prog hTreePlaces504 := hok_eq mmTreePlaces_ok hmTreePlaces504_ok folTreePlaces (lf := 100000) (k := 1000) (by kernel_rfl)
def hmTreePlaces505 : List HE := hTreePlaces504 :: hmTreePlaces504
theorem hmTreePlaces505_ok : ∀ x ∈ hmTreePlaces505, HOk Try.prog x := hmemo_cons hTreePlaces504_ok hmTreePlaces504_ok
def hTreePlaces505 : HE := ⟨32, [(.agg [(eI 100),(eI 0),(.sl 0 2 0 3 none 3)]),(eI 2),(eI 3),(eI 3)], [btreePlaces15, btreePlaces16, btreePlaces10], [((.val eB0), [])]⟩
theorem hTreePlaces505_ok : HOk Try.prog hTreePlaces505 := hok_eq mmTreePlaces_ok hmTreePlaces505_ok folTreePlaces (lf := 100000) (k := 1000) (by kernel_rfl)
def hmTreePlaces506 : List HE := hTreePlaces505 :: hmTreePlaces505
theorem hmTreePlaces506_ok : ∀ x ∈ hmTreePlaces506, HOk Try.prog x := hmemo_cons hTreePlaces505_ok hmTreePlaces505_ok
def hTreePlaces506 : HE := ⟨32, [(.agg [(eI 101),(eI 2),(.lit (.slice none 0 0))]),(eI 2),(eI 3),(eI 2)], [], [((.val eB0), [])]⟩
theorem hTreePlaces506_ok : HOk Try.prog hTreePlaces506 := hok_eq mmTreePlaces_ok hmTreePlaces506_ok folTreePlaces (lf := 100000) (k := 1000) (by kernel_rfl)
def hmTreePlaces507 : List HE := hTreePlaces506 :: hmTreePlaces506
theorem hmTreePlaces507_ok : ∀ x ∈ hmTreePlaces507, HOk Try.prog x := hmemo_cons hTreePlaces506_ok hmTreePlaces506_ok
def hTreePlaces507 : HE := ⟨32, [(.agg [(eI 3),(.lit (.int .i64 (Int.negSucc 0))),(.lit (.slice none 0 0))]),(eI 2),(eI 3),(eI 1)], [], [((.val eB0), [])]⟩
theorem hTreePlaces507_ok : HOk Try.prog hTreePlaces507 := hok_eq mmTreePlaces_ok hmTreePlaces507_ok folTreePlaces (lf := 100000) (k := 1000) (by kernel_rfl)
def hmTreePlaces508 : List HE := hTreePlaces507 :: hmTreePlaces507
theorem hmTreePlaces508_ok : ∀ x ∈ hmTreePlaces508, HOk Try.prog x := hmemo_cons hTreePlaces507_ok hmTreePlaces507_ok
def hTreePlaces508 : HE := ⟨32, [(.agg [(eI 101),(eI 3),(.sl 0 0 0 1 none 3)]),(eI 2),(eI 3),(eI 1)], [btreePlaces10], [((.val eB0), [])]⟩
theorem hTreePlaces508_ok : HOk Try.prog hTreePlaces508 := hok_eq mmTreePlaces_ok hmTreePlaces508_ok folTreePlaces (lf := 100000) (k := 1000) (by kernel_rfl)
def hmTreePlaces509 : List HE := hTreePlaces508 :: hmTreePlaces508
theorem hmTreePlaces509_ok : ∀ x ∈ hmTreePlaces509, HOk Try.prog x := hmemo_cons hTreePlaces508_ok hmTreePlaces508_ok
def hTreePlaces509 : HE := ⟨32, [(.agg [(eI 1),(.lit (.int .i64 (Int.negSucc 0))),(.lit (.slice none 0 0))]),(eI 2),(eI 3),(eI 0)], [], [((.val eB0), [])]⟩
theorem hTreePlaces509_ok : HOk Try.prog hTreePlaces509 := hok_eq mmTreePlaces_ok hmTreePlaces509_ok folTreePlaces (lf := 100000) (k := 1000) (by kernel_rfl)
def hmTreePlaces510 : List HE := hTreePlaces509 :: hmTreePlaces509
theorem hmTreePlaces510_ok : ∀ x ∈ hmTreePlaces510, HOk Try.prog x := hmemo_cons hTreePlaces509_ok hmTreePlaces509_ok
def hTreePlaces510 : HE := ⟨32, [(.agg [(eI 100),(.lit (.int .i64 (Int.negSucc 0))),(.lit (.slice none 0 0))]),(eI 2),(eI 3),(.lit (.int .i64 (Int.negSucc 0)))], [], [((.val eB0), [])]⟩
theorem hTreePlaces510_ok : HOk Try.prog hTreePlaces510 := hok_eq mmTreePlaces_ok hmTreePlaces510_ok folTreePlaces (lf := 100000) (k := 1000) (by kernel_rfl)
def hmTreePlaces511 : List HE := hTreePlaces510 :: hmTreePlaces510
theorem hmTreePlaces511_ok : ∀ x ∈ hmTreePlaces511, HOk Try.prog x := hmemo_cons hTreePlaces510_ok hmTreePlaces510_ok
def hTreePlaces511 : HE := ⟨32, [(.agg [(eI 100),(eI 0),(.sl 0 2 0 3 none 3)]),(eI 2),(eI 3),(eI 1)], [btreePlaces13, btreePlaces10], [((.val eB0), [])]⟩
theorem hTreePlaces511_ok : HOk Try.prog hTreePlaces511 := hok_eq mmTreePlaces_ok hmTreePlaces511_ok folTreePlaces (lf := 100000) (k := 1000) (by kernel_rfl)
def hmTreePlaces512 : List HE := hTreePlaces511 :: hmTreePlaces511
theorem hmTreePlaces512_ok : ∀ x ∈ hmTreePlaces512, HOk Try.prog x := hmemo_cons hTreePlaces511_ok hmTreePlaces511_ok
def hTreePlaces512 : HE := ⟨32, [(.agg [(eI 100),(eI 0),(.sl 0 2 0 3 none 3)]),(eI 2),(eI 3),(eI 2)], [btreePlaces15, btreePlaces16, btreePlaces10], [((.val eB0), [])]⟩
theorem hTreePlaces512_ok : HOk Try.prog hTreePlaces512 := hok_eq mmTreePlaces_ok hmTreePlaces512_ok folTreePlaces (lf := 100000) (k := 1000) (by kernel_rfl)
def hmTreePlaces513 : List HE := hTreePlaces512 :: hmTreePlaces512
theorem hmTreePlaces513_ok : ∀ x ∈ hmTreePlaces513, HOk Try.prog x := hmemo_cons hTreePlaces512_ok hmTreePlaces512_ok
def hTreePlaces513 : HE := ⟨32, [(.agg [(eI 101),(eI 2),(.lit (.slice none 0 0))]),(eI 2),(eI 3),(eI 1)], [], [((.val eB0), [])]⟩
theorem hTreePlaces513_ok : HOk Try.prog hTreePlaces513 := hok_eq mmTreePlaces_ok hmTreePlaces513_ok folTreePlaces (lf := 100000) (k := 1000) (by kernel_rfl)
def hmTreePlaces514 : List HE := hTreePlaces513 :: hmTreePlaces513
theorem hmTreePlaces514_ok : ∀ x ∈ hmTreePlaces514, HOk Try.prog x := hmemo_cons hTreePlaces513_ok hmTreePlaces513_ok
def hTreePlaces514 : HE := ⟨32, [(.agg [(eI 3),(.lit (.int .i64 (Int.negSucc 0))),(.lit (.slice none 0 0))]),(eI 2),(eI 3),(eI 0)], [], [((.val eB0), [])]⟩
theorem hTreePlaces514_ok : HOk Try.prog hTreePlaces514 := hok_eq mmTreePlaces_ok hmTreePlaces514_ok folTreePlaces (lf := 100000) (k := 1000) (by kernel_rfl)
def hmTreePlaces515 : List HE := hTreePlaces514 :: hmTreePlaces514
theorem hmTreePlaces515_ok : ∀ x ∈ hmTreePlaces515, HOk Try.prog x := hmemo_cons hTreePlaces514_ok hmTreePlaces514_ok
def hTreePlaces515 : HE := ⟨32, [(.agg [(eI 101),(eI 3),(.sl 0 0 0 1 none 3)]),(eI 2),(eI 3),(eI 0)], [btreePlaces10], [((.val eB0), [])]⟩
theorem hTreePlaces515_ok : HOk Try.prog hTreePlaces515 := hok_eq mmTreePlaces_ok hmTreePlaces515_ok folTreePlaces (lf := 100000) (k := 1000) (by kernel_rfl)
def hmTreePlaces516 : List HE := hTreePlaces515 :: hmTreePlaces515
theorem hmTreePlaces516_ok : ∀ x ∈ hmTreePlaces516, HOk Try.prog x := hmemo_cons hTreePlaces515_ok hmTreePlaces515_ok
def hTreePlaces516 : HE := ⟨32, [(.agg [(eI 1),(.lit (.int .i64 (Int.negSucc 0))),(.lit (.slice none 0 0))]),(eI 2),(eI 3),(.lit (.int .i64 (Int.negSucc 0)))], [], [((.val eB0), [])]⟩
theorem hTreePlaces516_ok : HOk Try.prog hTreePlaces516 := hok_eq mmTreePlaces_ok hmTreePlaces516_ok folTreePlaces (lf := 100000) (k := 1000) (by kernel_rfl)
def hmTreePlaces517 : List HE := hTreePlaces516 :: hmTreePlaces516
theorem hmTreePlaces517_ok : ∀ x ∈ hmTreePlaces517, HOk Try.prog x := hmemo_cons hTreePlaces516_ok hmTreePlaces516_ok
def hTreePlaces517 : HE := ⟨32, [(.agg [(eI 100),(.lit (.int .i64 (Int.negSucc 0))),(.lit (.slice none 0 0))]),(eI 2),(eI 3),(.lit (.int .i64 (Int.negSucc 1)))], [], [((.val eB0), [])]⟩
theorem hTreePlaces517_ok : HOk Try.prog hTreePlaces517 := hok_eq mmTreePlaces_ok hmTreePlaces517_ok folTreePlaces (lf := 100000) (k := 1000) (by kernel_rfl)
def hmTreePlaces518 : List HE := hTreePlaces517 :: hmTreePlaces517
theorem hmTreePlaces518_ok : ∀ x ∈ hmTreePlaces518, HOk Try.prog x := hmemo_cons hTreePlaces517_ok hmTreePlaces517_ok
def hTreePlaces518 : HE := ⟨32, [(.agg [(eI 100),(eI 0),(.sl 0 2 0 3 none 3)]),(eI 2),(eI 3),(eI 0)], [btreePlaces13, btreePlaces10], [((.val eB0), [])]⟩
theorem hTreePlaces518_ok : HOk Try.prog hTreePlaces518 := hok_eq mmTreePlaces_ok hmTreePlaces518_ok folTreePlaces (lf := 100000) (k := 1000) (by kernel_rfl)
def hmTreePlaces519 : List HE := hTreePlaces518 :: hmTreePlaces518
theorem hmTreePlaces519_ok : ∀ x ∈ hmTreePlaces519, HOk Try.prog x := hmemo_cons hTreePlaces518_ok hmTreePlaces518_ok
def hTreePlaces519 : HE := ⟨32, [(.agg [(eI 100),(eI 0),(.sl 0 2 0 3 none 3)]),(eI 2),(eI 3),(eI 1)], [btreePlaces15, btreePlaces16, btreePlaces10], [((.val eB0), [])]⟩
theorem hTreePlaces519_ok : HOk Try.prog hTreePlaces519 := hok_eq mmTreePlaces_ok hmTreePlaces519_ok folTreePlaces (lf := 100000) (k := 1000) (by kernel_rfl)
def hmTreePlaces520 : List HE := hTreePlaces519 :: hmTreePlaces519
theorem hmTreePlaces520_ok : ∀ x ∈ hmTreePlaces520, HOk Try.prog x := hmemo_cons hTreePlaces519_ok hmTreePlaces519_ok
def hTreePlaces520 : HE := ⟨32, [(.agg [(eI 101),(eI 2),(.lit (.slice none 0 0))]),(eI 2),(eI 3),(eI 0)], [], [((.val eB0), [])]⟩
theorem hTreePlaces520_ok : HOk Try.prog hTreePlaces520 := hok_eq mmTreePlaces_ok hmTreePlaces520_ok folTreePlaces (lf := 100000) (k := 1000) (by kernel_rfl)
def hmTreePlaces521 : List HE := hTreePlaces520 :: hmTreePlaces520
theorem hmTreePlaces521_ok : ∀ x ∈ hmTreePlaces521, HOk Try.prog x := hmemo_cons hTreePlaces520_ok hmTreePlaces520_ok
def hTreePlaces521 : HE := ⟨32, [(.agg [(eI 100),(eI 0),(.sl 0 2 0 3 none 3)]),(eI 2),(eI 3),(.lit (.int .i64 (Int.negSucc 0)))], [btreePlaces13, btreePlaces10], [((.val eB0), [])]⟩
theorem hTreePlaces521_ok : HOk Try.prog hTreePlaces521 := hok_eq mmTreePlaces_ok hmTreePlaces521_ok folTreePlaces (lf := 100000) (k := 1000) (by kernel_rfl)
def hmTreePlaces522 : List HE := hTreePlaces521 :: hmTreePlaces521
theorem hmTreePlaces522_ok : ∀ x ∈ hmTreePlaces522, HOk Try.prog x := hmemo_cons hTreePlaces521_ok hmTreePlaces521_ok
def hTreePlaces522 : HE := ⟨32, [(.agg [(eI 100),(eI 0),(.sl 0 2 0 3 none 3)]),(eI 2),(eI 3),(eI 0)], [btreePlaces15, btreePlaces16, btreePlaces10], [((.val eB0), [])]⟩
theorem hTreePlaces522_ok : HOk Try.prog hTreePlaces522 := hok_eq mmTreePlaces_ok hmTreePlaces522_ok folTreePlaces (lf := 100000) (k := 1000) (by kernel_rfl)
def hmTreePlaces523 : List HE := hTreePlaces522 :: hmTreePlaces522
theorem hmTreePlaces523_ok : ∀ x ∈ hmTreePlaces523, HOk Try.prog x := hmemo_cons hTreePlaces522_ok hmTreePlaces522_ok
def hTreePlaces523 : HE := ⟨32, [(.agg [(eI 100),(eI 0),(.sl 0 2 0 3 none 3)]),(eI 2),(eI 3),(.lit (.int .i64 (Int.negSucc 0)))], [btreePlaces15, btreePlaces16, btreePlaces10], [((.val eB0), [])]⟩
theorem hTreePlaces523_ok : HOk Try.prog hTreePlaces523 := hok_eq mmTreePlaces_ok hmTreePlaces523_ok folTreePlaces (lf := 100000) (k := 1000) (by kernel_rfl)
def hmTreePlaces524 : List HE := hTreePlaces523 :: hmTreePlaces523
theorem hmTreePlaces524_ok : ∀ x ∈ hmTreePlaces524, HOk Try.prog x := hmemo_cons hTreePlaces523_ok hmTreePlaces523_ok
def hTreePlaces524 : HE := ⟨32, [(.agg [(eI 101),(eI 2),(.lit (.slice none 0 0))]),(eI 2),(eI 2),(eI 4)], [], [((.val eB0), [])]⟩
theorem hTreePlaces524_ok : HOk Try.prog hTreePlaces524 := hok_eq mmTreePlaces_ok hmTreePlaces524_ok folTreePlaces (lf := 100000) (k := 1000) (by kernel_rfl)
def hmTreePlaces525 : List HE := hTreePlaces524 :: hmTreePlaces524
theorem hmTreePlaces525_ok : ∀ x ∈ hmTreePlaces525, HOk Try.prog x := hmemo_cons hTreePlaces524_ok hmTreePlaces524_ok
def hTreePlaces525 : HE := ⟨32, [(.agg [(eI 1),(.lit (.int .i64 (Int.negSucc 0))),(.lit (.slice none 0 0))]),(eI 2),(eI 2),(eI 4)], [], [((.val eB0), [])]⟩
theorem hTreePlaces525_ok : HOk Try.prog hTreePlaces525 := hok_eq mmTreePlaces_ok hmTreePlaces525_ok folTreePlaces (lf := 100000) (k := 1000) (by kernel_rfl)
def hmTreePlaces526 : List HE := hTreePlaces525 :: hmTreePlaces525
theorem hmTreePlaces526_ok : ∀ x ∈ hmTreePlaces526, HOk Try.prog x := hmemo_cons hTreePlaces525_ok hmTreePlaces525_ok
def hTreePlaces526 : HE := ⟨32, [(.agg [(eI 3),(.lit (.int .i64 (Int.negSucc 0))),(.lit (.slice none 0 0))]),(eI 2),(eI 2),(eI 3)], [], [((.val eB0), [])]⟩
theorem hTreePlaces526_ok : HOk Try.prog hTreePlaces526 := hok_eq mmTreePlaces_ok hmTreePlaces526_ok folTreePlaces (lf := 100000) (k := 1000) (by kernel_rfl)
def hmTreePlaces527 : List HE := hTreePlaces526 :: hmTreePlaces526
theorem hmTreePlaces527_ok : ∀ x ∈ hmTreePlaces527, HOk Try.prog x := hmemo_cons hTreePlaces526_ok hmTreePlaces526_ok
def hTreePlaces527 : HE := ⟨32, [(.agg [(eI 101),(eI 3),(.sl 0 0 0 1 none 3)]),(eI 2),(eI 2),(eI 3)], [btreePlaces10], [((.val eB0), [])]⟩
theorem hTreePlaces527_ok : HOk Try.prog hTreePlaces527 := hok_eq mmTreePlaces_ok hmTreePlaces527_ok folTreePlaces (lf := 100000) (k := 1000) (by kernel_rfl)
def hmTreePlaces528 : List HE := hTreePlaces527 :: hmTreePlaces527
theorem hmTreePlaces528_ok : ∀ x ∈ hmTreePlaces528, HOk Try.prog x := hmemo_cons hTreePlaces527_ok hmTreePlaces527_ok
def hTreePlaces528 : HE := ⟨32, [(.agg [(eI 1),(.lit (.int .i64 (Int.negSucc 0))),(.lit (.slice none 0 0))]),(eI 2),(eI 2),(eI 2)], [], [((.val eB0), [])]⟩
theorem hTreePlaces528_ok : HOk Try.prog hTreePlaces528 := hok_eq mmTreePlaces_ok hmTreePlaces528_ok folTreePlaces (lf := 100000) (k := 1000) (by kernel_rfl)
def hmTreePlaces529 : List HE := hTreePlaces528 :: hmTreePlaces528
theorem hmTreePlaces529_ok : ∀ x ∈ hmTreePlaces529, HOk Try.prog x := hmemo_cons hTreePlaces528_ok hmTreePlaces528_ok
def hTreePlaces529 : HE := ⟨32, [(.agg [(eI 100),(.lit (.int .i64 (Int.negSucc 0))),(.lit (.slice none 0 0))]),(eI 2),(eI 2),(eI 1)], [], [((.val eB0), [])]⟩
theorem hTreePlaces529_ok : HOk Try.prog hTreePlaces529 := hok_eq mmTreePlaces_ok hmTreePlaces529_ok folTreePlaces (lf := 100000) (k := 1000) (by kernel_rfl)
def hmTreePlaces530 : List HE := hTreePlaces529 :: hmTreePlaces529
theorem hmTreePlaces530_ok : ∀ x ∈ hmTreePlaces530, HOk Try.prog x := hmemo_cons hTreePlaces529_ok hmTreePlaces529_ok
def hTreePlaces530 : HE := ⟨32, [(.agg [(eI 100),(eI 0),(.sl 0 2 0 3 none 3)]),(eI 2),(eI 2),(eI 3)], [btreePlaces13, btreePlaces10], [((.val eB0), [])]⟩
theorem hTreePlaces530_ok : HOk Try.prog hTreePlaces530 := hok_eq mmTreePlaces_ok hmTreePlaces530_ok folTreePlaces (lf := 100000) (k := 1000) (by kernel_rfl)
def hmTreePlaces531 : List HE := hTreePlaces530 :: hmTreePlaces530
theorem hmTreePlaces531_ok : ∀ x ∈ hmTreePlaces531, HOk Try.prog x := hmemo_cons hTreePlaces530_ok hmTreePlaces530_ok
def hTreePlaces531 : HE := ⟨32, [(.agg [(eI 100),(eI 0),(.sl 0 2 0 3 none 3)]),(eI 2),(eI 2),(eI 4)], [btreePlaces15, btreePlaces16, btreePlaces10], [((.val eB0), [])]⟩
theorem hTreePlaces531_ok : HOk Try.prog hTreePlaces531 := hok_eq mmTreePlaces_ok hmTreePlaces531_ok folTreePlaces (lf := 100000) (k := 1000) (by kernel_rfl)
def hmTreePlaces532 : List HE := hTreePlaces531 :: hmTreePlaces531
theorem hmTreePlaces532_ok : ∀ x ∈ hmTreePlaces532, HOk Try.prog x := hmemo_cons hTreePlaces531_ok hmTreePlaces531_ok
def hTreePlaces532 : HE := ⟨32, [(.agg [(eI 101),(eI 2),(.lit (.slice none 0 0))]),(eI 2),(eI 2),(eI 3)], [], [((.val eB0), [])]⟩
theorem hTreePlaces532_ok : HOk Try.prog hTreePlaces532 := hok_eq mmTreePlaces_ok hmTreePlaces532_ok folTreePlaces (lf := 100000) (k := 1000) (by kernel_rfl)
def hmTreePlaces533 : List HE := hTreePlaces532 :: hmTreePlaces532
theorem hmTreePlaces533_ok : ∀ x ∈ hmTreePlaces533, HOk Try.prog x := hmemo_cons hTreePlaces532_ok hmTreePlaces532_ok
def hTreePlaces533 : HE := ⟨32, [(.agg [(eI 1),(.lit (.int .i64 (Int.negSucc 0))),(.lit (.slice none 0 0))]),(eI 2),(eI 2),(eI 3)], [], [((.val eB0), [])]⟩
theorem hTreePlaces533_ok : HOk Try.prog hTreePlaces533 := hok_eq mmTreePlaces_ok hmTreePlaces533_ok folTreePlaces (lf := 100000) (k := 1000) (by kernel_rfl)
def hmTreePlaces534 : List HE := hTreePlaces533 :: hmTreePlaces533
theorem hmTreePlaces534_ok : ∀ x ∈ hmTreePlaces534, HOk Try.prog x := hmemo_cons hTreePlaces533_ok hmTreePlaces533_ok
def hTreePlaces534 : HE := ⟨32, [(.agg [(eI 3),(.lit (.int .i64 (Int.negSucc 0))),(.lit (.slice none 0 0))]),(eI 2),(eI 2),(eI 2)], [], [((.val eB0), [])]⟩
theorem hTreePlaces534_ok : HOk Try.prog hTreePlaces534 := hok_eq mmTreePlaces_ok hmTreePlaces534_ok folTreePlaces (lf := 100000) (k := 1000) (by kernel_rfl)
def hmTreePlaces535 : List HE := hTreePlaces534 :: hmTreePlaces534
theorem hmTreePlaces535_ok : ∀ x ∈ hmTreePlaces535, HOk Try.prog x := hmemo_cons hTreePlaces534_ok hmTreePlaces534_ok
def hTreePlaces535 : HE := ⟨32, [(.agg [(eI 101),(eI 3),(.sl 0 0 0 1 none 3)]),(eI 2),(eI 2),(eI 2)], [btreePlaces10], [((.val eB0), [])]⟩
theorem hTreePlaces535_ok : HOk Try.prog hTreePlaces535 := hok_eq mmTreePlaces_ok hmTreePlaces535_ok folTreePlaces (lf := 100000) (k := 1000) (by kernel_rfl)
def hmTreePlaces536 : List HE := hTreePlaces535 :: hmTreePlaces535
theorem hmTreePlaces536_ok : ∀ x ∈ hmTreePlaces536, HOk Try.prog x := hmemo_cons hTreePlaces535_ok hmTreePlaces535_ok
def hTreePlaces536 : HE := ⟨32, [(.agg [(eI 1),(.lit (.int .i64 (Int.negSucc 0))),(.lit (.slice none 0 0))]),(eI 2),(eI 2),(eI 1)], [], [((.val eB0), [])]⟩
theorem hTreePlaces536_ok : HOk Try.prog hTreePlaces536 := hok_eq mmTreePlaces_ok hmTreePlaces536_ok folTreePlaces (lf := 100000) (k := 1000) (by kernel_rfl)
def hmTreePlaces537 : List HE := hTreePlaces536 :: hmTreePlaces536
theorem hmTreePlaces537_ok : ∀ x ∈ hmTreePlaces537, HOk Try.prog x := hmemo_cons hTreePlaces536_ok hmTreePlaces536_ok
def hTreePlaces537 : HE := ⟨32, [(.agg [(eI 100),(.lit (.int .i64 (Int.negSucc 0))),(.lit (.slice none 0 0))]),(eI 2),(eI 2),(eI 0)], [], [((.val eB0), [])]⟩
theorem hTreePlaces537_ok : HOk Try.prog hTreePlaces537 := hok_eq mmTreePlaces_ok hmTreePlaces537_ok folTreePlaces (lf := 100000) (k := 1000) (by kernel_rfl)
def hmTreePlaces538 : List HE := hTreePlaces537 :: hmTreePlaces537
theorem hmTreePlaces538_ok : ∀ x ∈ hmTreePlaces538, HOk Try.prog x := hmemo_cons hTreePlaces537_ok hmTreePlaces537_ok
def hTreePlaces538 : HE := ⟨32, [(.agg [(eI 100),(eI 0),(.sl 0 2 0 3 none 3)]),(eI 2),(eI 2),(eI 2)], [btreePlaces13, btreePlaces10], [((.val eB0), [])]⟩
theorem hTreePlaces538_ok : HOk Try.prog hTreePlaces538 := hok_eq mmTreePlaces_ok hmTreePlaces538_ok folTreePlaces (lf := 100000) (k := 1000) (by kernel_rfl)
def hmTreePlaces539 : List HE := hTreePlaces538 :: hmTreePlaces538
theorem hmTreePlaces539_ok : ∀ x ∈ hmTreePlaces539, HOk Try.prog x := hmemo_cons hTreePlaces538_ok hmTreePlaces538_ok
def hTreePlaces539 : HE := ⟨32, [(.agg [(eI 100),(eI 0),(.sl 0 2 0 3 none 3)]),(eI 2),(eI 2),(eI 3)], [btreePlaces15, btreePlaces16, btreePlaces10], [((.val eB0), [])]⟩
theorem hTreePlaces539_ok : HOk Try.prog hTreePlaces539 := hok_eq mmTreePlaces_ok hmTreePlaces539_ok folTreePlaces (lf := 100000) (k := 1000) (by kernel_rfl)
def hmTreePlaces540 : List HE := hTreePlaces539 :: hmTreePlaces539
theorem hmTreePlaces540_ok : ∀ x ∈ hmTreePlaces540, HOk Try.prog x := hmemo_cons hTreePlaces539_ok hmTreePlaces539_ok
def hTreePlaces540 : HE := ⟨32, [(.agg [(eI 101),(eI 2),(.lit (.slice none 0 0))]),(eI 2),(eI 2),(eI 2)], [], [((.val eB0), [])]⟩
theorem hTreePlaces540_ok : HOk Try.prog hTreePlaces540 := hok_eq mmTreePlaces_ok hmTreePlaces540_ok folTreePlaces (lf := 100000) (k := 1000) (by kernel_rfl)
def hmTreePlaces541 : List HE := hTreePlaces540 :: hmTreePlaces540
theorem hmTreePlaces541_ok : ∀ x ∈ hmTreePlaces541, HOk Try.prog x := hmemo_cons hTreePlaces540_ok hmTreePlaces540_ok
def hTreePlaces541 : HE := ⟨32, [(.agg [(eI 3),(.lit (.int .i64 (Int.negSucc 0))),(.lit (.slice none 0 0))]),(eI 2),(eI 2),(eI 1)], [], [((.val eB0), [])]⟩
theorem hTreePlaces541_ok : HOk Try.prog hTreePlaces541 := hok_eq mmTreePlaces_ok hmTreePlaces541_ok folTreePlaces (lf := 100000) (k := 1000) (by kernel_rfl)
def hmTreePlaces542 : List HE := hTreePlaces541 :: hmTreePlaces541
theorem hmTreePlaces542_ok : ∀ x ∈ hmTreePlaces542, HOk Try.prog x := hmemo_cons hTreePlaces541_ok hmTreePlaces541_ok
def hTreePlaces542 : HE := ⟨32, [(.agg [(eI 101),(eI 3),(.sl 0 0 0 1 none 3)]),(eI 2),(eI 2),(eI 1)], [btreePlaces10], [((.val eB0), [])]⟩
theorem hTreePlaces542_ok : HOk Try.prog hTreePlaces542 := hok_eq mmTreePlaces_ok hmTreePlaces542_ok folTreePlaces (lf := 100000) (k := 1000) (by kernel_rfl)
def hmTreePlaces543 : List HE := hTreePlaces542 :: hmTreePlaces542
theorem hmTreePlaces543_ok : ∀ x ∈ hmTreePlaces543, HOk Try.prog x := hmemo_cons hTreePlaces542_ok hmTreePlaces542_ok
def hTreePlaces543 : HE := ⟨32, [(.agg [(eI 1),(.lit (.int .i64 (Int.negSucc 0))),(.lit (.slice none 0 0))]),(eI 2),(eI 2),(eI 0)], [], [((.val eB0), [])]⟩
theorem hTreePlaces543_ok : HOk Try.prog hTreePlaces543 := hok_eq mmTreePlaces_ok hmTreePlaces543_ok folTreePlaces (lf := 100000) (k := 1000) (by kernel_rfl)
def hmTreePlaces544 : List HE := hTreePlaces543 :: hmTreePlaces543
theorem hmTreePlaces544_ok : ∀ x ∈ hmTreePlaces544, HOk Try.prog x := hmemo_cons hTreePlaces543_ok hmTreePlaces543_ok
def hTreePlaces544 : HE := ⟨32, [(.agg [(eI 100),(.lit (.int .i64 (Int.negSucc 0))),(.lit (.slice none 0 0))]),(eI 2),(eI 2),(.lit (.int .i64 (Int.negSucc 0)))], [], [((.val eB0), [])]⟩
theorem hTreePlaces544_ok : HOk Try.prog hTreePlaces544 := hok_eq mmTreePlaces_ok hmTreePlaces544_ok folTreePlaces (lf := 100000) (k := 1000) (by kernel_rfl)
def hmTreePlaces545 : List HE := hTreePlaces544 :: hmTreePlaces544
theorem hmTreePlaces545_ok : ∀ x ∈ hmTreePlaces545, HOk Try.prog x := hmemo_cons hTreePlaces544_ok hmTreePlaces544_ok
def hTreePlaces545 : HE := ⟨32, [(.agg [(eI 100),(eI 0),(.sl 0 2 0 3 none 3)]),(eI 2),(eI 2),(eI 1)], [btreePlaces13, btreePlaces10], [((.val eB0), [])]⟩
theorem hTreePlaces545_ok : HOk Try.prog hTreePlaces545 := hok_eq mmTreePlaces_ok hmTreePlaces545_ok folTreePlaces (lf := 100000) (k := 1000) (by kernel_rfl)
def hmTreePlaces546 : List HE := hTreePlaces545 :: hmTreePlaces545
theorem hmTreePlaces546_ok : ∀ x ∈ hmTreePlaces546, HOk Try.prog x := hmemo_cons hTreePlaces545_ok hmTreePlaces545_ok
def hTreePlaces546 : HE := ⟨32, [(.agg [(eI 100),(eI 0),(.sl 0 2 0 3 none 3)]),(eI 2),(eI 2),(eI 2)], [btreePlaces15, btreePlaces16, btreePlaces10], [((.val eB0), [])]⟩
theorem hTreePlaces546_ok : HOk Try.prog hTreePlaces546 := hok_eq mmTreePlaces_ok hmTreePlaces546_ok folTreePlaces (lf := 100000) (k := 1000) (by kernel_rfl)
def hmTreePlaces547 : List HE := hTreePlaces546 :: hmTreePlaces546
theorem hmTreePlaces547_ok : ∀ x ∈ hmTreePlaces547, HOk Try.prog x := hmemo_cons hTreePlaces546_ok hmTreePlaces546_ok
def hTreePlaces547 : HE := ⟨32, [(.agg [(eI 101),(eI 2),(.lit (.slice none 0 0))]),(eI 2),(eI 2),(eI 1)], [], [((.val eB0), [])]⟩
theorem hTreePlaces547_ok : HOk Try.prog hTreePlaces547 := hok_eq mmTreePlaces_ok hmTreePlaces547_ok folTreePlaces (lf := 100000) (k := 1000) (by kernel_rfl)
def hmTreePlaces548 : List HE := hTreePlaces547 :: hmTreePlaces547
theorem hmTreePlaces548_ok : ∀ x ∈ hmTreePlaces548, HOk Try.prog x := hmemo_cons hTreePlaces547_ok hmTreePlaces547_ok
def hTreePlaces548 : HE := ⟨32, [(.agg [(eI 3),(.lit (.int .i64 (Int.negSucc 0))),(.lit (.slice none 0 0))]),(eI 2),(eI 2),(eI 0)], [], [((.val eB0), [])]⟩
theorem hTreePlaces548_ok : HOk Try.prog hTreePlaces548 := hok_eq mmTreePlaces_ok hmTreePlaces548_ok folTreePlaces (lf := 100000) (k := 1000) (by kernel_rfl)
def hmTreePlaces549 : List HE := hTreePlaces548 :: hmTreePlaces548
theorem hmTreePlaces549_ok : ∀ x ∈ hmTreePlaces549, HOk Try.prog x := hmemo_cons hTreePlaces548_ok hmTreePlaces548_ok
def hTreePlaces549 : HE := ⟨32, [(.agg [(eI 101),(eI 3),(.sl 0 0 0 1 none 3)]),(eI 2),(eI 2),(eI 0)], [btreePlaces10], [((.val eB0), [])]⟩
theorem hTreePlaces549_ok : HOk Try.prog hTreePlaces549 := hok_eq mmTreePlaces_ok hmTreePlaces549_ok folTreePlaces (lf := 100000) (k := 1000) (by kernel_rfl)
def hmTreePlaces550 : List HE := hTreePlaces549 :: hmTreePlaces549
theorem hmTreePlaces550_ok : ∀ x ∈ hmTreePlaces550, HOk Try.prog x := hmemo_cons hTreePlaces549_ok hmTreePlaces549_ok
def hTreePlaces550 : HE := ⟨32, [(.agg [(eI 1),(.lit (.int .i64 (Int.negSucc 0))),(.lit (.slice none 0 0))]),(eI 2),(eI 2),(.lit (.int .i64 (Int.negSucc 0)))], [], [((.val eB0), [])]⟩
theorem hTreePlaces550_ok : HOk Try.prog hTreePlaces550 := hok_eq mmTreePlaces_ok hmTreePlaces550_ok folTreePlaces (lf := 100000) (k := 1000) (by kernel_rfl)
def hmTreePlaces551 : List HE := hTreePlaces550 :: hmTreePlaces550
theorem hmTreePlaces551_ok : ∀ x ∈ hmTreePlaces551, HOk Try.prog x := hmemo_cons hTreePlaces550_ok hmTreePlaces550_ok
def hTreePlaces551 : HE := ⟨32, [(.agg [(eI 100),(.lit (.int .i64 (Int.negSucc 0))),(.lit (.slice none 0 0))]),(eI 2),(eI 2),(.lit (.int .i64 (Int.negSucc 1)))], [], [((.val eB0), [])]⟩
theorem hTreePlaces551_ok : HOk Try.prog hTreePlaces551 := hok_eq mmTreePlaces_ok hmTreePlaces551_ok folTreePlaces (lf := 100000) (k := 1000) (by kernel_rfl)
def hmTreePlaces552 : List HE := hTreePlaces551 :: hmTreePlaces551
theorem hmTreePlaces552_ok : ∀ x ∈ hmTreePlaces552, HOk Try.prog x := hmemo_cons hTreePlaces551_ok hmTreePlaces551_ok
def hTreePlaces552 : HE := ⟨32, [(.agg [(eI 100),(eI 0),(.sl 0 2 0 3 none 3)]),(eI 2),(eI 2),(eI 0)], [btreePlaces13, btreePlaces10], [((.val eB0), [])]⟩
theorem hTreePlaces552_ok : HOk Try.prog hTreePlaces552 := hok_eq mmTreePlaces_ok hmTreePlaces552_ok folTreePlaces (lf := 100000) (k := 1000) (by kernel_rfl)
def hmTreePlaces553 : List HE := hTreePlaces552 :: hmTreePlaces552
theorem hmTreePlaces553_ok : ∀ x ∈ hmTreePlaces553, HOk Try.prog x := hmemo_cons hTreePlaces552_ok hmTreePlaces552_ok
def hTreePlaces553 : HE := ⟨32, [(.agg [(eI 100),(eI 0),(.sl 0 2 0 3 none 3)]),(eI 2),(eI 2),(eI 1)], [btreePlaces15, btreePlaces16, btreePlaces10], [((.val eB0), [])]⟩
theorem hTreePlaces553_ok : HOk Try.prog hTreePlaces553 := hok_eq mmTreePlaces_ok hmTreePlaces553_ok folTreePlaces (lf := 100000) (k := 1000) (by kernel_rfl)
def hmTreePlaces554 : List HE := hTreePlaces553 :: hmTreePlaces553
theorem hmTreePlaces554_ok : ∀ x ∈ hmTreePlaces554, HOk Try.prog x := hmemo_cons hTreePlaces553_ok hmTreePlaces553_ok
def hTreePlaces554 : HE := ⟨32, [(.agg [(eI 101),(eI 2),(.lit (.slice none 0 0))]),(eI 2),(eI 2),(eI 0)], [], [((.val eB0), [])]⟩
theorem hTreePlaces554_ok : HOk Try.prog hTreePlaces554 := hok_eq mmTreePlaces_ok hmTreePlaces554_ok folTreePlaces (lf := 100000) (k := 1000) (by kernel_rfl)
def hmTreePlaces555 : List HE := hTreePlaces554 :: hmTreePlaces554
theorem hmTreePlaces555_ok : ∀ x ∈ hmTreePlaces555, HOk Try.prog x := hmemo_cons hTreePlaces554_ok hmTreePlaces554_ok
def hTreePlaces555 : HE := ⟨32, [(.agg [(eI 100),(eI 0),(.sl 0 2 0 3 none 3)]),(eI 2),(eI 2),(.lit (.int .i64 (Int.negSucc 0)))], [btreePlaces13, btreePlaces10], [((.val eB0), [])]⟩
theorem hTreePlaces555_ok : HOk Try.prog hTreePlaces555 := hok_eq mmTreePlaces_ok hmTreePlaces555_ok folTreePlaces (lf := 100000) (k := 1000) (by kernel_rfl)
def hmTreePlaces556 : List HE := hTreePlaces555 :: hmTreePlaces555
theorem hmTreePlaces556_ok : ∀ x ∈ hmTreePlaces556, HOk Try.prog x := hmemo_cons hTreePlaces555_ok hmTreePlaces555_ok
def hTreePlaces556 : HE := ⟨32, [(.agg [(eI 100),(eI 0),(.sl 0 2 0 3 none 3)]),(eI 2),(eI 2),(eI 0)], [btreePlaces15, btreePlaces16, btreePlaces10], [((.val eB0), [])]⟩
theorem hTreePlaces556_ok : HOk Try.prog hTreePlaces556 := hok_eq mmTreePlaces_ok hmTreePlaces556_ok folTreePlaces (lf := 100000) (k := 1000) (by kernel_rfl)
def hmTreePlaces557 : List HE := hTreePlaces556 :: hmTreePlaces556
theorem hmTreePlaces557_ok : ∀ x ∈ hmTreePlaces557, HOk Try.prog x := hmemo_cons hTreePlaces556_ok hmTreePlaces556_ok
def hTreePlaces557 : HE := ⟨32, [(.agg [(eI 100),(eI 0),(.sl 0 2 0 3 none 3)]),(eI 2),(eI 2),(.lit (.int .i64 (Int.negSucc 0)))], [btreePlaces15, btreePlaces16, btreePlaces10], [((.val eB0), [])]⟩
theorem hTreePlaces557_ok : HOk Try.prog hTreePlaces557 := hok_eq mmTreePlaces_ok hmTreePlaces557_ok folTreePlaces (lf := 100000) (k := 1000) (by kernel_rfl)
def hmTreePlaces558 : List HE := hTreePlaces557 :: hmTreePlaces557
theorem hmTreePlaces558_ok : ∀ x ∈ hmTreePlaces558, HOk Try.prog x := hmemo_cons hTreePlaces557_ok hmTreePlaces557_ok
def hTreePlaces558 : HE := ⟨32, [(.agg [(eI 101),(eI 2),(.lit (.slice none 0 0))]),(eI 2),(eI 1),(eI 4)], [], [((.val eB0), [])]⟩
theorem hTreePlaces558_ok : HOk Try.prog hTreePlaces558 := hok_eq mmTreePlaces_ok hmTreePlaces558_ok folTreePlaces (lf := 100000) (k := 1000) (by kernel_rfl)
def hmTreePlaces559 : List HE := hTreePlaces558 :: hmTreePlaces558
theorem hmTreePlaces559_ok : ∀ x ∈ hmTreePlaces559, HOk Try.prog x := hmemo_cons hTreePlaces558_ok hmTreePlaces558_ok
def hTreePlaces559 : HE := ⟨32, [(.agg [(eI 1),(.lit (.int .i64 (Int.negSucc 0))),(.lit (.slice none 0 0))]),(eI 2),(eI 1),(eI 4)], [], [((.val eB0), [])]⟩
theorem hTreePlaces559_ok : HOk Try.prog hTreePlaces559 := hok_eq mmTreePlaces_ok hmTreePlaces559_ok folTreePlaces (lf := 100000) (k := 1000) (by kernel_rfl)
def hmTreePlaces560 : List HE := hTreePlaces559 :: hmTreePlaces559
theorem hmTreePlaces560_ok : ∀ x ∈ hmTreePlaces560, HOk Try.prog x := hmemo_cons hTreePlaces559_ok hmTreePlaces559_ok
def hTreePlaces560 : HE := ⟨32, [(.agg [(eI 3),(.lit (.int .i64 (Int.negSucc 0))),(.lit (.slice none 0 0))]),(eI 2),(eI 1),(eI 3)], [], [((.val eB0), [])]⟩
theorem hTreePlaces560_ok : HOk Try.prog hTreePlaces560 := hok_eq mmTreePlaces_ok hmTreePlaces560_ok folTreePlaces (lf := 100000) (k := 1000) (by kernel_rfl)
def hmTreePlaces561 : List HE := hTreePlaces560 :: hmTreePlaces560
theorem hmTreePlaces561_ok : ∀ x ∈ hmTreePlaces561, HOk Try.prog x := hmemo_cons hTreePlaces560_ok hmTreePlaces560_ok
def hTreePlaces561 : HE := ⟨32, [(.agg [(eI 101),(eI 3),(.sl 0 0 0 1 none 3)]),(eI 2),(eI 1),(eI 3)], [btreePlaces10], [((.val eB0), [])]⟩
theorem hTreePlaces561_ok : HOk Try.prog hTreePlaces561 := hok_eq mmTreePlaces_ok hmTreePlaces561_ok folTreePlaces (lf := 100000) (k := 1000) (by kernel_rfl)
def hmTreePlaces562 : List HE := hTreePlaces561 :: hmTreePlaces561
theorem hmTreePlaces562_ok : ∀ x ∈ hmTreePlaces562, HOk Try.prog x := hmemo_cons hTreePlaces561_ok hmTreePlaces561_ok
def hTreePlaces562 : HE := ⟨32, [(.agg [(eI 1),(.lit (.int .i64 (Int.negSucc 0))),(.lit (.slice none 0 0))]),(eI 2),(eI 1),(eI 2)], [], [((.val eB0), [])]⟩
theorem hTreePlaces562_ok : HOk Try.prog hTreePlaces562 := hok_eq mmTreePlaces_ok hmTreePlaces562_ok folTreePlaces (lf := 100000) (k := 1000) (by kernel_rfl)
def hmTreePlaces563 : List HE := hTreePlaces562 :: hmTreePlaces562
theorem hmTreePlaces563_ok : ∀ x ∈ hmTreePlaces563, HOk Try.prog x := hmemo_cons hTreePlaces562_ok hmTreePlaces562_ok
def hTreePlaces563 : HE := ⟨32, [(.agg [(eI 100),(.lit (.int .i64 (Int.negSucc 0))),(.lit (.slice none 0 0))]),(eI 2),(eI 1),(eI 1)], [], [((.val eB0), [])]⟩
theorem hTreePlaces563_ok : HOk Try.prog hTreePlaces563 := hok_eq mmTreePlaces_ok hmTreePlaces563_ok folTreePlaces (lf := 100000) (k := 1000) (by kernel_rfl)
def hmTreePlaces564 : List HE := hTreePlaces563 :: hmTreePlaces563
theorem hmTreePlaces564_ok : ∀ x ∈ hmTreePlaces564, HOk Try.prog x := hmemo_cons hTreePlaces563_ok hmTreePlaces563_ok
def hTreePlaces564 : HE := ⟨32, [(.agg [(eI 100),(eI 0),(.sl 0 2 0 3 none 3)]),(eI 2),(eI 1),(eI 3)], [btreePlaces13, btreePlaces10], [((.val eB0), [])]⟩
theorem hTreePlaces564_ok : HOk Try.prog hTreePlaces564 := hok_eq mmTreePlaces_ok hmTreePlaces564_ok folTreePlaces (lf := 100000) (k := 1000) (by kernel_rfl)
def hmTreePlaces565 : List HE := hTreePlaces564 :: hmTreePlaces564
theorem hmTreePlaces565_ok : ∀ x ∈ hmTreePlaces565, HOk Try.prog x := hmemo_cons hTreePlaces564_ok hmTreePlaces564_ok
def hTreePlaces565 : HE := ⟨32, [(.agg [(eI 100),(eI 0),(.sl 0 2 0 3 none 3)]),(eI 2),(eI 1),(eI 4)], [btreePlaces15, btreePlaces16, btreePlaces10], [((.val eB0), [])]⟩
theorem hTreePlaces565_ok : HOk Try.prog hTreePlaces565 := hok_eq mmTreePlaces_ok hmTreePlaces565_ok folTreePlaces (lf := 100000) (k := 1000) (by kernel_rfl)
def hmTreePlaces566 : List HE := hTreePlaces565 :: hmTreePlaces565
theorem hmTreePlaces566_ok : ∀ x ∈ hmTreePlaces566, HOk Try.prog x := hmemo_cons hTreePlaces565_ok hmTreePlaces565_ok
def hTreePlaces566 : HE := ⟨32, [(.agg [(eI 101),(eI 2),(.lit (.slice none 0 0))]),(eI 2),(eI 1),(eI 3)], [], [((.val eB0), [])]⟩
theorem hTreePlaces566_ok : HOk Try.prog hTreePlaces566 := hok_eq mmTreePlaces_ok hmTreePlaces566_ok folTreePlaces (lf := 100000) (k := 1000) (by kernel_rfl)
def hmTreePlaces567 : List HE := hTreePlaces566 :: hmTreePlaces566
theorem hmTreePlaces567_ok : ∀ x ∈ hmTreePlaces567, HOk Try.prog x := hmemo_cons hTreePlaces566_ok hmTreePlaces566_ok
def hTreePlaces567 : HE := ⟨32, [(.agg [(eI 1),(.lit (.int .i64 (Int.negSucc 0))),(.lit (.slice none 0 0))]),(eI 2),(eI 1),(eI 3)], [], [((.val eB0), [])]⟩
theorem hTreePlaces567_ok : HOk Try.prog hTreePlaces567 := hok_eq mmTreePlaces_ok hmTreePlaces567_ok folTreePlaces (lf := 100000) (k := 1000) (by kernel_rfl)
def hmTreePlaces568 : List HE := hTreePlaces567 :: hmTreePlaces567
theorem hmTreePlaces568_ok : ∀ x ∈ hmTreePlaces568, HOk Try.prog x := hmemo_cons hTreePlaces567_ok hmTreePlaces567_ok
def hTreePlaces568 : HE := ⟨32, [(.agg [(eI 3),(.lit (.int .i64 (Int.negSucc 0))),(.lit (.slice none 0 0))]),(eI 2),(eI 1),(eI 2)], [], [((.val eB0), [])]⟩
theorem hTreePlaces568_ok : HOk Try.prog hTreePlaces568 := hok_eq mmTreePlaces_ok hmTreePlaces568_ok folTreePlaces (lf := 100000) (k := 1000) (by kernel_rfl)
def hmTreePlaces569 : List HE := hTreePlaces568 :: hmTreePlaces568
theorem hmTreePlaces569_ok : ∀ x ∈ hmTreePlaces569, HOk Try.prog x := hmemo_cons hTreePlaces568_ok hmTreePlaces568_ok
def hTreePlaces569 : HE := ⟨32, [(.agg [(eI 101),(eI 3),(.sl 0 0 0 1 none 3)]),(eI 2),(eI 1),(eI 2)], [btreePlaces10], [((.val eB0), [])]⟩
theorem hTreePlaces569_ok : HOk Try.prog hTreePlaces569 := hok_eq mmTreePlaces_ok hmTreePlaces569_ok folTreePlaces (lf := 100000) (k := 1000) (by kernel_rfl)
def hmTreePlaces570 : List HE := hTreePlaces569 :: hmTreePlaces569
theorem hmTreePlaces570_ok : ∀ x ∈ hmTreePlaces570, HOk Try.prog x := hmemo_cons hTreePlaces569_ok hmTreePlaces569_ok
def hTreePlaces570 : HE := ⟨32, [(.agg [(eI 1),(.lit (.int .i64 (Int.negSucc 0))),(.lit (.slice none 0 0))]),(eI 2),(eI 1),(eI 1)], [], [((.val eB0), [])]⟩
theorem hTreePlaces570_ok : HOk Try.prog hTreePlaces570 := hok_eq mmTreePlaces_ok hmTreePlaces570_ok folTreePlaces (lf := 100000) (k := 1000) (by kernel_rfl)
def hmTreePlaces571 : List HE := hTreePlaces570 :: hmTreePlaces570
theorem hmTreePlaces571_ok : ∀ x ∈ hmTreePlaces571, HOk Try.prog x := hmemo_cons hTreePlaces570_ok hmTreePlaces570_ok
def hTreePlaces571 : HE := ⟨32, [(.agg [(eI 100),(.lit (.int .i64 (Int.negSucc 0))),(.lit (.slice none 0 0))]),(eI 2),(eI 1),(eI 0)], [], [((.val eB0), [])]⟩
theorem hTreePlaces571_ok : HOk Try.prog hTreePlaces571 := hok_eq mmTreePlaces_ok hmTreePlaces571_ok folTreePlaces (lf := 100000) (k := 1000) (by kernel_rfl)
def hmTreePlaces572 : List HE := hTreePlaces571 :: hmTreePlaces571
theorem hmTreePlaces572_ok : ∀ x ∈ hmTreePlaces572, HOk Try.prog x := hmemo_cons hTreePlaces571_ok hmTreePlaces571_ok
def hTreePlaces572 : HE := ⟨32, [(.agg [(eI 100),(eI 0),(.sl 0 2 0 3 none 3)]),(eI 2),(eI 1),(eI 2)], [btreePlaces13, btreePlaces10], [((.val eB0), [])]⟩
theorem hTreePlaces572_ok : HOk Try.prog hTreePlaces572 := hok_eq mmTreePlaces_ok hmTreePlaces572_ok folTreePlaces (lf := 100000) (k := 1000) (by kernel_rfl)
def hmTreePlaces573 : List HE := hTreePlaces572 :: hmTreePlaces572
theorem hmTreePlaces573_ok : ∀ x ∈ hmTreePlaces573, HOk Try.prog x := hmemo_cons hTreePlaces572_ok hmTreePlaces572_ok
def hTreePlaces573 : HE := ⟨32, [(.agg [(eI 100),(eI 0),(.sl 0 2 0 3 none 3)]),(eI 2),(eI 1),(eI 3)], [btreePlaces15, btreePlaces16, btreePlaces10], [((.val eB0), [])]⟩
theorem hTreePlaces573_ok : HOk Try.prog hTreePlaces573 := hok_eq mmTreePlaces_ok hmTreePlaces573_ok folTreePlaces (lf := 100000) (k := 1000) (by kernel_rfl)
def hmTreePlaces574 : List HE := hTreePlaces573 :: hmTreePlaces573
theorem hmTreePlaces574_ok : ∀ x ∈ hmTreePlaces574, HOk Try.prog x := hmemo_cons hTreePlaces573_ok hmTreePlaces573_ok
def hTreePlaces574 : HE := ⟨32, [(.agg [(eI 101),(eI 2),(.lit (.slice none 0 0))]),(eI 2),(eI 1),(eI 2)], [], [((.val eB0), [])]⟩
theorem hTreePlaces574_ok : HOk Try.prog hTreePlaces574 := hok_eq mmTreePlaces_ok hmTreePlaces574_ok folTreePlaces (lf := 100000) (k := 1000) (by kernel_rfl)
def hmTreePlaces575 : List HE := hTreePlaces574 :: hmTreePlaces574
theorem hmTreePlaces575_ok : ∀ x ∈ hmTreePlaces575, HOk Try.prog x := hmemo_cons hTreePlaces574_ok hmTreePlaces574_ok
def hTreePlaces575 : HE := ⟨32, [(.agg [(eI 3),(.lit (.int .i64 (Int.negSucc 0))),(.lit (.slice none 0 0))]),(eI 2),(eI 1),(eI 1)], [], [((.val eB0), [])]⟩
theorem hTreePlaces575_ok : HOk Try.prog hTreePlaces575 := hok_eq mmTreePlaces_ok hmTreePlaces575_ok folTreePlaces (lf := 100000) (k := 1000) (by kernel_rfl)
def hmTreePlaces576 : List HE := hTreePlaces575 :: hmTreePlaces575
theorem hmTreePlaces576_ok : ∀ x ∈ hmTreePlaces576, HOk Try.prog x := hmemo_cons hTreePlaces575_ok hmTreePlaces575_ok
def hTreePlaces576 : HE := ⟨32, [(.agg [(eI 101),(eI 3),(.sl 0 0 0 1 none 3)]),(eI 2),(eI 1),(eI 1)], [btreePlaces10], [((.val eB0), [])]⟩
theorem hTreePlaces576_ok : HOk Try.prog hTreePlaces576 := hok_eq mmTreePlaces_ok hmTreePlaces576_ok folTreePlaces (lf := 100000) (k := 1000) (by kernel_rfl)
def hmTreePlaces577 : List HE := hTreePlaces576 :: hmTreePlaces576
theorem hmTreePlaces577_ok : ∀ x ∈ hmTreePlaces577, HOk Try.prog x := hmemo_cons hTreePlaces576_ok hmTreePlaces576_ok
def hTreePlaces577 : HE := ⟨32, [(.agg [(eI 1),(.lit (.int .i64 (Int.negSucc 0))),(.lit (.slice none 0 0))]),(eI 2),(eI 1),(eI 0)], [], [((.val eB0), [])]⟩
theorem hTreePlaces577_ok : HOk Try.prog hTreePlaces577 := hok_eq mmTreePlaces_ok hmTreePlaces577_ok folTreePlaces (lf := 100000) (k := 1000) (by kernel_rfl)
def hmTreePlaces578 : List HE := hTreePlaces577 :: hmTreePlaces577
theorem hmTreePlaces578_ok : ∀ x ∈ hmTreePlaces578, HOk Try.prog x := hmemo_cons hTreePlaces577_ok hmTreePlaces577_ok
def hTreePlaces578 : HE := ⟨32, [(.agg [(eI 100),(.lit (.int .i64 (Int.negSucc 0))),(.lit (.slice none 0 0))]),(eI 2),(eI 1),(.lit (.int .i64 (Int.negSucc 0)))], [], [((.val eB0), [])]⟩
theorem hTreePlaces578_ok : HOk Try.prog hTreePlaces578 := hok_eq mmTreePlaces_ok hmTreePlaces578_ok folTreePlaces (lf := 100000) (k := 1000) (by kernel_rfl)
def hmTreePlaces579 : List HE := hTreePlaces578 :: hmTreePlaces578
theorem hmTreePlaces579_ok : ∀ x ∈ hmTreePlaces579, HOk Try.prog x := hmemo_cons hTreePlaces578_ok hmTreePlaces578_ok
def hTreePlaces579 : HE := ⟨32, [(.agg [(eI 100),(eI 0),(.sl 0 2 0 3 none 3)]),(eI 2),(eI 1),(eI 1)], [btreePlaces13, btreePlaces10], [((.val eB0), [])]⟩
theorem hTreePlaces579_ok : HOk Try.prog hTreePlaces579 := hok_eq mmTreePlaces_ok hmTreePlaces579_ok folTreePlaces (lf := 100000) (k := 1000) (by kernel_rfl)
def hmTreePlaces580 : List HE := hTreePlaces579 :: hmTreePlaces579
theorem hmTreePlaces580_ok : ∀ x ∈ hmTreePlaces580, HOk Try.prog x := hmemo_cons hTreePlaces579_ok hmTreePlaces579_ok
def hTreePlaces580 : HE := ⟨32, [(.agg [(eI 100),(eI 0),(.sl 0 2 0 3 none 3)]),(eI 2),(eI 1),(eI 2)], [btreePlaces15, btreePlaces16, btreePlaces10], [((.val eB0), [])]⟩
theorem hTreePlaces580_ok : HOk Try.prog hTreePlaces580 := hok_eq mmTreePlaces_ok hmTreePlaces580_ok folTreePlaces (lf := 100000) (k := 1000) (by kernel_rfl)
def hmTreePlaces581 : List HE := hTreePlaces580 :: hmTreePlaces580
theorem hmTreePlaces581_ok : ∀ x ∈ hmTreePlaces581, HOk Try.prog x := hmemo_cons hTreePlaces580_ok hmTreePlaces580_ok
def hTreePlaces581 : HE := ⟨32, [(.agg [(eI 101),(eI 2),(.lit (.slice none 0 0))]),(eI 2),(eI 1),(eI 1)], [], [((.val eB0), [])]⟩
theorem hTreePlaces581_ok : HOk Try.prog hTreePlaces581 := hok_eq mmTreePlaces_ok hmTreePlaces581_ok folTreePlaces (lf := 100000) (k := 1000) (by kernel_rfl)
def hmTreePlaces582 : List HE := hTreePlaces581 :: hmTreePlaces581
theorem hmTreePlaces582_ok : ∀ x ∈ hmTreePlaces582, HOk Try.prog x := hmemo_cons hTreePlaces581_ok hmTreePlaces581_ok
def hTreePlaces582 : HE := ⟨32, [(.agg [(eI 3),(.lit (.int .i64 (Int.negSucc 0))),(.lit (.slice none 0 0))]),(eI 2),(eI 1),(eI 0)], [], [((.val eB0), [])]⟩
theorem hTreePlaces582_ok : HOk Try.prog hTreePlaces582 := hok_eq mmTreePlaces_ok hmTreePlaces582_ok folTreePlaces (lf := 100000) (k := 1000) (by kernel_rfl)
def hmTreePlaces583 : List HE := hTreePlaces582 :: hmTreePlaces582
theorem hmTreePlaces583_ok : ∀ x ∈ hmTreePlaces583, HOk Try.prog x := hmemo_cons hTreePlaces582_ok hmTreePlaces582_ok
def hTreePlaces583 : HE := ⟨32, [(.agg [(eI 101),(eI 3),(.sl 0 0 0 1 none 3)]),(eI 2),(eI 1),(eI 0)], [btreePlaces10], [((.val eB0), [])]⟩
theorem hTreePlaces583_ok : HOk Try.prog hTreePlaces583 := hok_eq mmTreePlaces_ok hmTreePlaces583_ok folTreePlaces (lf := 100000) (k := 1000) (by kernel_rfl)
def hmTreePlaces584 : List HE := hTreePlaces583 :: hmTreePlaces583
theorem hmTreePlaces584_ok : ∀ x ∈ hmTreePlaces584, HOk Try.prog x := hmemo_cons hTreePlaces583_ok hmTreePlaces583_ok
def hTreePlaces584 : HE := ⟨32, [(.agg [(eI 1),(.lit (.int .i64 (Int.negSucc 0))),(.lit (.slice none 0 0))]),(eI 2),(eI 1),(.lit (.int .i64 (Int.negSucc 0)))], [], [((.val eB0), [])]⟩
theorem hTreePlaces584_ok : HOk Try.prog hTreePlaces584 := hok_eq mmTreePlaces_ok hmTreePlaces584_ok folTreePlaces (lf := 100000) (k := 1000) (by kernel_rfl)
def hmTreePlaces585 : List HE := hTreePlaces584 :: hmTreePlaces584
theorem hmTreePlaces585_ok : ∀ x ∈ hmTreePlaces585, HOk Try.prog x := hmemo_cons hTreePlaces584_ok hmTreePlaces584_ok
def hTreePlaces585 : HE := ⟨32, [(.agg [(eI 100),(.lit (.int .i64 (Int.negSucc 0))),(.lit (.slice none 0 0))]),(eI 2),(eI 1),(.lit (.int .i64 (Int.negSucc 1)))], [], [((.val eB0), [])]⟩
theorem hTreePlaces585_ok : HOk Try.prog hTreePlaces585 := hok_eq mmTreePlaces_ok hmTreePlaces585_ok folTreePlaces (lf := 100000) (k := 1000) (by kernel_rfl)
def hmTreePlaces586 : List HE := hTreePlaces585 :: hmTreePlaces585
theorem hmTreePlaces586_ok : ∀ x ∈ hmTreePlaces586, HOk Try.prog x := hmemo_cons hTreePlaces585_ok hmTreePlaces585_ok
def hTreePlaces586 : HE := ⟨32, [(.agg [(eI 100),(eI 0),(.sl 0 2 0 3 none 3)]),(eI 2),(eI 1),(eI 0)], [btreePlaces13, btreePlaces10], [((.val eB0), [])]⟩
theorem hTreePlaces586_ok : HOk Try.prog hTreePlaces586 := hok_eq mmTreePlaces_ok hmTreePlaces586_ok folTreePlaces (lf := 100000) (k := 1000) (by kernel_rfl)
def hmTreePlaces587 : List HE := hTreePlaces586 :: hmTreePlaces586
theorem hmTreePlaces587_ok : ∀ x ∈ hmTreePlaces587, HOk Try.prog x := hmemo_cons hTreePlaces586_ok hmTreePlaces586_ok
def hTreePlaces587 : HE := ⟨32, [(.agg [(eI 100),(eI 0),(.sl 0 2 0 3 none 3)]),(eI 2),(eI 1),(eI 1)], [btreePlaces15, btreePlaces16, btreePlaces10], [((.val eB0), [])]⟩
theorem hTreePlaces587_ok : HOk Try.prog hTreePlaces587 := hok_eq mmTreePlaces_ok hmTreePlaces587_ok folTreePlaces (lf := 100000) (k := 1000) (by kernel_rfl)
def hmTreePlaces588 : List HE := hTreePlaces587 :: hmTreePlaces587
theorem hmTreePlaces588_ok : ∀ x ∈ hmTreePlaces588, HOk Try.prog x := hmemo_cons hTreePlaces587_ok hmTreePlaces587_ok
def hTreePlaces588 : HE := ⟨32, [(.agg [(eI 101),(eI 2),(.lit (.slice none 0 0))]),(eI 2),(eI 1),(eI 0)], [], [((.val eB0), [])]⟩
theorem hTreePlaces588_ok : HOk Try.prog hTreePlaces588 := hok_eq mmTreePlaces_ok hmTreePlaces588_ok folTreePlaces (lf := 100000) (k := 1000) (by kernel_rfl)
def hmTreePlaces589 : List HE := hTreePlaces588 :: hmTreePlaces588
theorem hmTreePlaces589_ok : ∀ x ∈ hmTreePlaces589, HOk Try.prog x := hmemo_cons hTreePlaces588_ok hmTreePlaces588_ok
def hTreePlaces589 : HE := ⟨32, [(.agg [(eI 100),(eI 0),(.sl 0 2 0 3 none 3)]),(eI 2),(eI 1),(.lit (.int .i64 (Int.negSucc 0)))], [btreePlaces13, btreePlaces10], [((.val eB0), [])]⟩
theorem hTreePlaces589_ok : HOk Try.prog hTreePlaces589 := hok_eq mmTreePlaces_ok hmTreePlaces589_ok folTreePlaces (lf := 100000) (k := 1000) (by kernel_rfl)
def hmTreePlaces590 : List HE := hTreePlaces589 :: hmTreePlaces589
theorem hmTreePlaces590_ok : ∀ x ∈ hmTreePlaces590, HOk Try.prog x := hmemo_cons hTreePlaces589_ok hmTreePlaces589_ok
def hTreePlaces590 : HE := ⟨32, [(.agg [(eI 100),(eI 0),(.sl 0 2 0 3 none 3)]),(eI 2),(eI 1),(eI 0)], [btreePlaces15, btreePlaces16, btreePlaces10], [((.val eB0), [])]⟩
theorem hTreePlaces590_ok : HOk Try.prog hTreePlaces590 := hok_eq mmTreePlaces_ok hmTreePlaces590_ok folTreePlaces (lf := 100000) (k := 1000) (by kernel_rfl)
def hmTreePlaces591 : List HE := hTreePlaces590 :: hmTreePlaces590
theorem hmTreePlaces591_ok : ∀ x ∈ hmTreePlaces591, HOk Try.prog x := hmemo_cons hTreePlaces590_ok hmTreePlaces590_ok
def hTreePlaces591 : HE := ⟨32, [(.agg [(eI 100),(eI 0),(.sl 0 2 0 3 none 3)]),(eI 2),(eI 1),(.lit (.int .i64 (Int.negSucc 0)))], [btreePlaces15, btreePlaces16, btreePlaces10], [((.val eB0), [])]⟩
theorem hTreePlaces591_ok : HOk Try.prog hTreePlaces591 := hok_eq mmTreePlaces_ok hmTreePlaces591_ok folTreePlaces (lf := 100000) (k := 1000) (by kernel_rfl)
def hmTreePlaces592 : List HE := hTreePlaces591 :: hmTreePlaces591
theorem hmTreePlaces592_ok : ∀ x ∈ hmTreePlaces592, HOk Try.prog x := hmemo_cons hTreePlaces591_ok hmTreePlaces591_ok
def hTreePlaces592 : HE := ⟨32, [(.agg [(eI 101),(eI 2),(.lit (.slice none 0 0))]),(eI 2),(eI 0),(eI 4)], [], [((.val eB0), [])]⟩
theorem hTreePlaces592_ok : HOk Try.prog hTreePlaces592 := hok_eq mmTreePlaces_ok hmTreePlaces592_ok folTreePlaces (lf := 100000) (k := 1000) (by kernel_rfl)
def hmTreePlaces593 : List HE := hTreePlaces592 :: hmTreePlaces592
theorem hmTreePlaces593_ok : ∀ x ∈ hmTreePlaces593, HOk Try.prog x := hmemo_cons hTreePlaces592_ok hmTreePlaces592_ok
def hTreePlaces593 : HE := ⟨32, [(.agg [(eI 1),(.lit (.int .i64 (Int.negSucc 0))),(.lit (.slice none 0 0))]),(eI 2),(eI 0),(eI 4)], [], [((.val eB0), [])]⟩
theorem hTreePlaces593_ok : HOk Try.prog hTreePlaces593 := hok_eq mmTreePlaces_ok hmTreePlaces593_ok folTreePlaces (lf := 100000) (k := 1000) (by kernel_rfl)
def hmTreePlaces594 : List HE := hTreePlaces593 :: hmTreePlaces593
theorem hmTreePlaces594_ok : ∀ x ∈ hmTreePlaces594, HOk Try.prog x := hmemo_cons hTreePlaces593_ok hmTreePlaces593_ok
def hTreePlaces594 : HE := ⟨32, [(.agg [(eI 3),(.lit (.int .i64 (Int.negSucc 0))),(.lit (.slice none 0 0))]),(eI 2),(eI 0),(eI 3)], [], [((.val eB0), [])]⟩
theorem hTreePlaces594_ok : HOk Try.prog hTreePlaces594 := hok_eq mmTreePlaces_ok hmTreePlaces594_ok folTreePlaces (lf := 100000) (k := 1000) (by kernel_rfl)
def hmTreePlaces595 : List HE := hTreePlaces594 :: hmTreePlaces594
theorem hmTreePlaces595_ok : ∀ x ∈ hmTreePlaces595, HOk Try.prog x := hmemo_cons hTreePlaces594_ok hmTreePlaces594_ok
def hTreePlaces595 : HE := ⟨32, [(.agg [(eI 101),(eI 3),(.sl 0 0 0 1 none 3)]),(eI 2),(eI 0),(eI 3)], [btreePlaces10], [((.val eB0), [])]⟩
theorem hTreePlaces595_ok : HOk Try.prog hTreePlaces595 := hok_eq mmTreePlaces_ok hmTreePlaces595_ok folTreePlaces (lf := 100000) (k := 1000) (by kernel_rfl)
def hmTreePlaces596 : List HE := hTreePlaces595 :: hmTreePlaces595
theorem hmTreePlaces596_ok : ∀ x ∈ hmTreePlaces596, HOk Try.prog x := hmemo_cons hTreePlaces595_ok hmTreePlaces595_ok
def hTreePlaces596 : HE := ⟨32, [(.agg [(eI 1),(.lit (.int .i64 (Int.negSucc 0))),(.lit (.slice none 0 0))]),(eI 2),(eI 0),(eI 2)], [], [((.val eB0), [])]⟩
theorem hTreePlaces596_ok : HOk Try.prog hTreePlaces596 := hok_eq mmTreePlaces_ok hmTreePlaces596_ok folTreePlaces (lf := 100000) (k := 1000) (by kernel_rfl)
def hmTreePlaces597 : List HE := hTreePlaces596 :: hmTreePlaces596
theorem hmTreePlaces597_ok : ∀ x ∈ hmTreePlaces597, HOk Try.prog x := hmemo_cons hTreePlaces596_ok hmTreePlaces596_ok
def hTreePlaces597 : HE := ⟨32, [(.agg [(eI 100),(.lit (.int .i64 (Int.negSucc 0))),(.lit (.slice none 0 0))]),(eI 2),(eI 0),(eI 1)], [], [((.val eB0), [])]⟩
theorem hTreePlaces597_ok : HOk Try.prog hTreePlaces597 := hok_eq mmTreePlaces_ok hmTreePlaces597_ok folTreePlaces (lf := 100000) (k := 1000) (by kernel_rfl)
def hmTreePlaces598 : List HE := hTreePlaces597 :: hmTreePlaces597
theorem hmTreePlaces598_ok : ∀ x ∈ hmTreePlaces598, HOk Try.prog x := hmemo_cons hTreePlaces597_ok hmTreePlaces597_ok
def hTreePlaces598 : HE := ⟨32, [(.agg [(eI 100),(eI 0),(.sl 0 2 0 3 none 3)]),(eI 2),(eI 0),(eI 3)], [btreePlaces13, btreePlaces10], [((.val eB0), [])]⟩
theorem hTreePlaces598_ok : HOk Try.prog hTreePlaces598 := hok_eq mmTreePlaces_ok hmTreePlaces598_ok folTreePlaces (lf := 100000) (k := 1000) (by kernel_rfl)
def hmTreePlaces599 : List HE := hTreePlaces598 :: hmTreePlaces598
theorem hmTreePlaces599_ok : ∀ x ∈ hmTreePlaces599, HOk Try.prog x := hmemo_cons hTreePlaces598_ok hmTreePlaces598_ok
def hTreePlaces599 : HE := ⟨32, [(.agg [(eI 100),(eI 0),(.sl 0 2 0 3 none 3)]),(eI 2),(eI 0),(eI 4)], [btreePlaces15, btreePlaces16, btreePlaces10], [((.val eB0), [])]⟩
theorem hTreePlaces599_ok : HOk Try.prog hTreePlaces599 := hok_eq mmTreePlaces_ok hmTreePlaces599_ok folTreePlaces (lf := 100000) (k := 1000) (by kernel_rfl)
def hmTreePlaces600 : List HE := hTreePlaces599 :: hmTreePlaces599
theorem hmTreePlaces600_ok : ∀ x ∈ hmTreePlaces600, HOk Try.prog x := hmemo_cons hTreePlaces599_ok hmTreePlaces599_ok
def hTreePlaces600 : HE := ⟨32, [(.agg [(eI 101),(eI 2),(.lit (.slice none 0 0))]),(eI 2),(eI 0),(eI 3)], [], [((.val eB0), [])]⟩
theorem hTreePlaces600_ok : HOk Try.prog hTreePlaces600 := hok_eq mmTreePlaces_ok hmTreePlaces600_ok folTreePlaces (lf := 100000) (k := 1000) (by kernel_rfl)
def hmTreePlaces601 : List HE := hTreePlaces600 :: hmTreePlaces600
theorem hmTreePlaces601_ok : ∀ x ∈ hmTreePlaces601, HOk Try.prog x := hmemo_cons hTreePlaces600_ok hmTreePlaces600_ok
def hTreePlaces601 : HE := ⟨32, [(.agg [(eI 1),(.lit (.int .i64 (Int.negSucc 0))),(.lit (.slice none 0 0))]),(eI 2),(eI 0),(eI 3)], [], [((.val eB0), [])]⟩
theorem hTreePlaces601_ok : HOk Try.prog hTreePlaces601 := hok_eq mmTreePlaces_ok hmTreePlaces601_ok folTreePlaces (lf := 100000) (k := 1000) (by kernel_rfl)
def hmTreePlaces602 : List HE := hTreePlaces601 :: hmTreePlaces601
theorem hmTreePlaces602_ok : ∀ x ∈ hmTreePlaces602, HOk Try.prog x := hmemo_cons hTreePlaces601_ok hmTreePlaces601_ok
def hTreePlaces602 : HE := ⟨32, [(.agg [(eI 3),(.lit (.int .i64 (Int.negSucc 0))),(.lit (.slice none 0 0))]),(eI 2),(eI 0),(eI 2)], [], [((.val eB0), [])]⟩
theorem hTreePlaces602_ok : HOk Try.prog hTreePlaces602 := hok_eq mmTreePlaces_ok hmTreePlaces602_ok folTreePlaces (lf := 100000) (k := 1000) (by kernel_rfl)
def hmTreePlaces603 : List HE := hTreePlaces602 :: hmTreePlaces602
theorem hmTreePlaces603_ok : ∀ x ∈ hmTreePlaces603, HOk Try.prog x := hmemo_cons hTreePlaces602_ok hmTreePlaces602_ok
def hTreePlaces603 : HE := ⟨32, [(.agg [(eI 101),(eI 3),(.sl 0 0 0 1 none 3)]),(eI 2),(eI 0),(eI 2)], [btreePlaces10], [((.val eB0), [])]⟩
theorem hTreePlaces603_ok : HOk Try.prog hTreePlaces603 := hok_eq mmTreePlaces_ok hmTreePlaces603_ok folTreePlaces (lf := 100000) (k := 1000) (by kernel_rfl)
def hmTreePlaces604 : List HE := hTreePlaces603 :: hmTreePlaces603
theorem hmTreePlaces604_ok : ∀ x ∈ hmTreePlaces604, HOk Try.prog x := hmemo_cons hTreePlaces603_ok hmTreePlaces603_ok
def hTreePlaces604 : HE := ⟨32, [(.agg [(eI 1),(.lit (.int .i64 (Int.negSucc 0))),(.lit (.slice none 0 0))]),(eI 2),(eI 0),(eI 1)], [], [((.val eB0), [])]⟩
theorem hTreePlaces604_ok : HOk Try.prog hTreePlaces604 := hok_eq mmTreePlaces_ok hmTreePlaces604_ok folTreePlaces (lf := 100000) (k := 1000) (by kernel_rfl)
def hmTreePlaces605 : List HE := hTreePlaces604 :: hmTreePlaces604
theorem hmTreePlaces605_ok : ∀ x ∈ hmTreePlaces605, HOk Try.prog x := hmemo_cons hTreePlaces604_ok hmTreePlaces604_ok
def hTreePlaces605 : HE := ⟨32, [(.agg [(eI 100),(.lit (.int .i64 (Int.negSucc 0))),(.lit (.slice none 0 0))]),(eI 2),(eI 0),(eI 0)], [], [((.val eB0), [])]⟩
theorem hTreePlaces605_ok : HOk Try.prog hTreePlaces605 := hok_eq mmTreePlaces_ok hmTreePlaces605_ok folTreePlaces (lf := 100000) (k := 1000) (by kernel_rfl)
def hmTreePlaces606 : List HE := hTreePlaces605 :: hmTreePlaces605
theorem hmTreePlaces606_ok : ∀ x ∈ hmTreePlaces606, HOk Try.prog x := hmemo_cons hTreePlaces605_ok hmTreePlaces605_ok
def hTreePlaces606 : HE := ⟨32, [(.agg [(eI 100),(eI 0),(.sl 0 2 0 3 none 3)]),(eI 2),(eI 0),(eI 2)], [btreePlaces13, btreePlaces10], [((.val eB0), [])]⟩
theorem hTreePlaces606_ok : HOk Try.prog hTreePlaces606 := hok_eq mmTreePlaces_ok hmTreePlaces606_ok folTreePlaces (lf := 100000) (k := 1000) (by kernel_rfl)
def hmTreePlaces607 : List HE := hTreePlaces606 :: hmTreePlaces606
theorem hmTreePlaces607_ok : ∀ x ∈ hmTreePlaces607, HOk Try.prog x := hmemo_cons hTreePlaces606_ok hmTreePlaces606_ok
def hTreePlaces607 : HE := ⟨32, [(.agg [(eI 100),(eI 0),(.sl 0 2 0 3 none 3)]),(eI 2),(eI 0),(eI 3)], [btreePlaces15, btreePlaces16, btreePlaces10], [((.val eB0), [])]⟩
theorem hTreePlaces607_ok : HOk Try.prog hTreePlaces607 := hok_eq mmTreePlaces_ok hmTreePlaces607_ok folTreePlaces (lf := 100000) (k := 1000) (by kernel_rfl)
def hmTreePlaces608 : List HE := hTreePlaces607 :: hmTreePlaces607
theorem hmTreePlaces608_ok : ∀ x ∈ hmTreePlaces608, HOk Try.prog x := hmemo_cons hTreePlaces607_ok hmTreePlaces607_ok
def hTreePlaces608 : HE := ⟨32, [(.agg [(eI 101),(eI 2),(.lit (.slice none 0 0))]),(eI 2),(eI 0),(eI 2)], [], [((.val eB0), [])]⟩
theorem hTreePlaces608_ok : HOk Try.prog hTreePlaces608 := hok_eq mmTreePlaces_ok hmTreePlaces608_ok folTreePlaces (lf := 100000) (k := 1000) (by kernel_rfl)
def hmTreePlaces609 : List HE := hTreePlaces608 :: hmTreePlaces608
theorem hmTreePlaces609_ok : ∀ x ∈ hmTreePlaces609, HOk Try.prog x := hmemo_cons hTreePlaces608_ok hmTreePlaces608_ok
def hTreePlaces609 : HE := ⟨32, [(.agg [(eI 3),(.lit (.int .i64 (Int.negSucc 0))),(.lit (.slice none 0 0))]),(eI 2),(eI 0),(eI 1)], [], [((.val eB0), [])]⟩
theorem hTreePlaces609_ok : HOk Try.prog hTreePlaces609 := hok_eq mmTreePlaces_ok hmTreePlaces609_ok folTreePlaces (lf := 100000) (k := 1000) (by kernel_rfl)
def hmTreePlaces610 : List HE := hTreePlaces609 :: hmTreePlaces609
theorem hmTreePlaces610_ok : ∀ x ∈ hmTreePlaces610, HOk Try.prog x := hmemo_cons hTreePlaces609_ok hmTreePlaces609_ok
def hTreePlaces610 : HE := ⟨32, [(.agg [(eI 101),(eI 3),(.sl 0 0 0 1 none 3)]),(eI 2),(eI 0),(eI 1)], [btreePlaces10], [((.val eB0), [])]⟩
theorem hTreePlaces610_ok : HOk Try.prog hTreePlaces610 := hok_eq mmTreePlaces_ok hmTreePlaces610_ok folTreePlaces (lf := 100000) (k := 1000) (by kernel_rfl)
def hmTreePlaces611 : List HE := hTreePlaces610 :: hmTreePlaces610
theorem hmTreePlaces611_ok : ∀ x ∈ hmTreePlaces611, HOk Try.prog x := hmemo_cons hTreePlaces610_ok hmTreePlaces610_ok
def hTreePlaces611 : HE := ⟨32, [(.agg [(eI 1),(.lit (.int .i64 (Int.negSucc 0))),(.lit (.slice none 0 0))]),(eI 2),(eI 0),(eI 0)], [], [((.val eB0), [])]⟩
theorem hTreePlaces611_ok : HOk Try.prog hTreePlaces611 := hok_eq mmTreePlaces_ok hmTreePlaces611_ok folTreePlaces (lf := 100000) (k := 1000) (by kernel_rfl)
def hmTreePlaces612 : List HE := hTreePlaces611 :: hmTreePlaces611
theorem hmTreePlaces612_ok : ∀ x ∈ hmTreePlaces612, HOk Try.prog x := hmemo_cons hTreePlaces611_ok hmTreePlaces611_ok
def hTreePlaces612 : HE := ⟨32, [(.agg [(eI 100),(.lit (.int .i64 (Int.negSucc 0))),(.lit (.slice none 0 0))]),(eI 2),(eI 0),(.lit (.int .i64 (Int.negSucc 0)))], [], [((.val eB0), [])]⟩
theorem hTreePlaces612_ok : HOk Try.prog hTreePlaces612 := hok_eq mmTreePlaces_ok hmTreePlaces612_ok folTreePlaces (lf := 100000) (k := 1000) (by kernel_rfl)
def hmTreePlaces613 : List HE := hTreePlaces612 :: hmTreePlaces612
theorem hmTreePlaces613_ok : ∀ x ∈ hmTreePlaces613, HOk Try.prog x := hmemo_cons hTreePlaces612_ok hmTreePlaces612_ok
def hTreePlaces613 : HE := ⟨32, [(.agg [(eI 100),(eI 0),(.sl 0 2 0 3 none 3)]),(eI 2),(eI 0),(eI 1)], [btreePlaces13, btreePlaces10], [((.val eB0), [])]⟩
theorem hTreePlaces613_ok : HOk Try.prog hTreePlaces613 := hok_eq mmTreePlaces_ok hmTreePlaces613_ok folTreePlaces (lf := 100000) (k := 1000) (by kernel_rfl)
def hmTreePlaces614 : List HE := hTreePlaces613 :: hmTreePlaces613
theorem hmTreePlaces614_ok : ∀ x ∈ hmTreePlaces614, HOk Try.prog x := hmemo_cons hTreePlaces613_ok hmTreePlaces613_ok
def hTreePlaces614 : HE := ⟨32, [(.agg [(eI 100),(eI 0),(.sl 0 2 0 3 none 3)]),(eI 2),(eI 0),(eI 2)], [btreePlaces15, btreePlaces16, btreePlaces10], [((.val eB0), [])]⟩
theorem hTreePlaces614_ok : HOk Try.prog hTreePlaces614 := hok_eq mmTreePlaces_ok hmTreePlaces614_ok folTreePlaces (lf := 100000) (k := 1000) (by kernel_rfl)
def hmTreePlaces615 : List HE := hTreePlaces614 :: hmTreePlaces614
theorem hmTreePlaces615_ok : ∀ x ∈ hmTreePlaces615, HOk Try.prog x := hmemo_cons hTreePlaces614_ok hmTreePlaces614_ok
def hTreePlaces615 : HE := ⟨32, [(.agg [(eI 101),(eI 2),(.lit (.slice none 0 0))]),(eI 2),(eI 0),(eI 1)], [], [((.val eB0), [])]⟩
theorem hTreePlaces615_ok : HOk Try.prog hTreePlaces615 := hok_eq mmTreePlaces_ok hmTreePlaces615_ok folTreePlaces (lf := 100000) (k := 1000) (by kernel_rfl)
def hmTreePlaces616 : List HE := hTreePlaces615 :: hmTreePlaces615
theorem hmTreePlaces616_ok : ∀ x ∈ hmTreePlaces616, HOk Try.prog x := hmemo_cons hTreePlaces615_ok hmTreePlaces615_ok
def hTreePlaces616 : HE := ⟨32, [(.agg [(eI 3),(.lit (.int .i64 (Int.negSucc 0))),(.lit (.slice none 0 0))]),(eI 2),(eI 0),(eI 0)], [], [((.val eB0), [])]⟩
theorem hTreePlaces616_ok : HOk Try.prog hTreePlaces616 := hok_eq mmTreePlaces_ok hmTreePlaces616_ok folTreePlaces (lf := 100000) (k := 1000) (by kernel_rfl)
def hmTreePlaces617 : List HE := hTreePlaces616 :: hmTreePlaces616
theorem hmTreePlaces617_ok : ∀ x ∈ hmTreePlaces617, HOk Try.prog x := hmemo_cons hTreePlaces616_ok hmTreePlaces616_ok
def hTreePlaces617 : HE := ⟨32, [(.agg [(eI 101),(eI 3),(.sl 0 0 0 1 none 3)]),(eI 2),(eI 0),(eI 0)], [btreePlaces10], [((.val eB0), [])]⟩
theorem hTreePlaces617_ok : HOk Try.prog hTreePlaces617 := hok_eq mmTreePlaces_ok hmTreePlaces617_ok folTreePlaces (lf := 100000) (k := 1000) (by kernel_rfl)
def hmTreePlaces618 : List HE := hTreePlaces617 :: hmTreePlaces617
theorem hmTreePlaces618_ok : ∀ x ∈ hmTreePlaces618, HOk Try.prog x := hmemo_cons hTreePlaces617_ok hmTreePlaces617_ok
def hTreePlaces618 : HE := ⟨32, [(.agg [(eI 1),(.lit (.int .i64 (Int.negSucc 0))),(.lit (.slice none 0 0))]),(eI 2),(eI 0),(.lit (.int .i64 (Int.negSucc 0)))], [], [((.val eB0), [])]⟩
theorem hTreePlaces618_ok : HOk Try.prog hTreePlaces618 := hok_eq mmTreePlaces_ok hmTreePlaces618_ok folTreePlaces (lf := 100000) (k := 1000) (by kernel_rfl)
def hmTreePlaces619 : List HE := hTreePlaces618 :: hmTreePlaces618
theorem hmTreePlaces619_ok : ∀ x ∈ hmTreePlaces619, HOk Try.prog x := hmemo_cons hTreePlaces618_ok hmTreePlaces618_ok
def hTreePlaces619 : HE := ⟨32, [(.agg [(eI 100),(.lit (.int .i64 (Int.negSucc 0))),(.lit (.slice none 0 0))]),(eI 2),(eI 0),(.lit (.int .i64 (Int.negSucc 1)))], [], [((.val eB0), [])]⟩
theorem hTreePlaces619_ok : HOk Try.prog hTreePlaces619 := hok_eq mmTreePlaces_ok hmTreePlaces619_ok folTreePlaces (lf := 100000) (k := 1000) (by kernel_rfl)
def hmTreePlaces620 : List HE := hTreePlaces619 :: hmTreePlaces619
theorem hmTreePlaces620_ok : ∀ x ∈ hmTreePlaces620, HOk Try.prog x := hmemo_cons hTreePlaces619_ok hmTreePlaces619_ok
def hTreePlaces620 : HE := ⟨32, [(.agg [(eI 100),(eI 0),(.sl 0 2 0 3 none 3)]),(eI 2),(eI 0),(eI 0)], [btreePlaces13, btreePlaces10], [((.val eB0), [])]⟩
theorem hTreePlaces620_ok : HOk Try.prog hTreePlaces620 := hok_eq mmTreePlaces_ok hmTreePlaces620_ok folTreePlaces (lf := 100000) (k := 1000) (by kernel_rfl)
def hmTreePlaces621 : List HE := hTreePlaces620 :: hmTreePlaces620
theorem hmTreePlaces621_ok : ∀ x ∈ hmTreePlaces621, HOk Try.prog x := hmemo_cons hTreePlaces620_ok hmTreePlaces620_ok
def hTreePlaces621 : HE := ⟨32, [(.agg [(eI 100),(eI 0),(.sl 0 2 0 3 none 3)]),(eI 2),(eI 0),(eI 1)], [btreePlaces15, btreePlaces16, btreePlaces10], [((.val eB0), [])]⟩
theorem hTreePlaces621_ok : HOk Try.prog hTreePlaces621 := hok_eq mmTreePlaces_ok hmTreePlaces621_ok folTreePlaces (lf := 100000) (k := 1000) (by kernel_rfl)
def hmTreePlaces622 : List HE := hTreePlaces621 :: hmTreePlaces621
theorem hmTreePlaces622_ok : ∀ x ∈ hmTreePlaces622, HOk Try.prog x := hmemo_cons hTreePlaces621_ok hmTreePlaces621_ok
def hTreePlaces622 : HE := ⟨32, [(.agg [(eI 101),(eI 2),(.lit (.slice none 0 0))]),(eI 2),(eI 0),(eI 0)], [], [((.val eB1), [])]⟩
theorem hTreePlaces622_ok : HOk Try.prog hTreePlaces622 := hok_eq mmTreePlaces_ok hmTreePlaces622_ok folTreePlaces (lf := 100000) (k := 1000) (by kernel_rfl)
def hmTreePlaces623 : List HE := hTreePlaces622 :: hmTreePlaces622
theorem hmTreePlaces623_ok : ∀ x ∈ hmTreePlaces623, HOk Try.prog x := hmemo_cons hTreePlaces622_ok hmTreePlaces622_ok
def hTreePlaces623 : HE := ⟨32, [(.agg [(eI 100),(eI 0),(.sl 0 2 0 3 none 3)]),(eI 2),(eI 0),(eI 0)], [btreePlaces15, btreePlaces16, btreePlaces10], [((.val eB1), [])]⟩
theorem hTreePlaces623_ok : HOk Try.prog hTreePlaces623 := hok_eq mmTreePlaces_ok hmTreePlaces623_ok folTreePlaces (lf := 100000) (k := 1000) (by kernel_rfl)
def hmTreePlaces624 : List HE := hTreePlaces623 :: hmTreePlaces623
theorem hmTreePlaces624_ok : ∀ x ∈ hmTreePlaces624, HOk Try.prog x := hmemo_cons hTreePlaces623_ok hmTreePlaces623_ok
def hTreePlaces624 : HE := ⟨32, [(.agg [(eI 100),(eI 0),(.sl 0 2 0 3 none 3)]),(eI 2),(eI 0),(.lit (.int .i64 (Int.negSucc 0)))], [btreePlaces15, btreePlaces16, btreePlaces10], [((.val eB0), [])]⟩
theorem hTreePlaces624_ok : HOk Try.prog hTreePlaces624 := hok_eq mmTreePlaces_ok hmTreePlaces624_ok folTreePlaces (lf := 100000) (k := 1000) (by kernel_rfl)
def hmTreePlaces625 : List HE := hTreePlaces624 :: hmTreePlaces624
theorem hmTreePlaces625_ok : ∀ x ∈ hmTreePlaces625, HOk Try.prog x := hmemo_cons hTreePlaces624_ok hmTreePlaces624_ok
def hTreePlaces625 : HE := ⟨32, [(.agg [(eI 101),(eI 2),(.lit (.slice none 0 0))]),(eI 2),(.lit (.int .i64 (Int.negSucc 0))),(eI 4)], [], [((.val eB0), [])]⟩
theorem hTreePlaces625_ok : HOk Try.prog hTreePlaces625 := hok_eq mmTreePlaces_ok hmTreePlaces625_ok folTreePlaces (lf := 100000) (k := 1000) (by kernel_rfl)
def hmTreePlaces626 : List HE := hTreePlaces625 :: hmTreePlaces625
theorem hmTreePlaces626_ok : ∀ x ∈ hmTreePlaces626, HOk Try.prog x := hmemo_cons hTreePlaces625_ok hmTreePlaces625_ok
def hTreePlaces626 : HE := ⟨32, [(.agg [(eI 1),(.lit (.int .i64 (Int.negSucc 0))),(.lit (.slice none 0 0))]),(eI 2),(.lit (.int .i64 (Int.negSucc 0))),(eI 4)], [], [((.val eB0), [])]⟩
theorem hTreePlaces626_ok : HOk Try.prog hTreePlaces626 := hok_eq mmTreePlaces_ok hmTreePlaces626_ok folTreePlaces (lf := 100000) (k := 1000) (by kernel_rfl)
def hmTreePlaces627 : List HE := hTreePlaces626 :: hmTreePlaces626
theorem hmTreePlaces627_ok : ∀ x ∈ hmTreePlaces627, HOk Try.prog x := hmemo_cons hTreePlaces626_ok hmTreePlaces626_ok
def hTreePlaces627 : HE := ⟨32, [(.agg [(eI 3),(.lit (.int .i64 (Int.negSucc 0))),(.lit (.slice none 0 0))]),(eI 2),(.lit (.int .i64 (Int.negSucc 0))),(eI 3)], [], [((.val eB0), [])]⟩
theorem hTreePlaces627_ok : HOk Try.prog hTreePlaces627 := hok_eq mmTreePlaces_ok hmTreePlaces627_ok folTreePlaces (lf := 100000) (k := 1000) (by kernel_rfl)
def hmTreePlaces628 : List HE := hTreePlaces627 :: hmTreePlaces627
theorem hmTreePlaces628_ok : ∀ x ∈ hmTreePlaces628, HOk Try.prog x := hmemo_cons hTreePlaces627_ok hmTreePlaces627_ok
def hTreePlaces628 : HE := ⟨32, [(.agg [(eI 101),(eI 3),(.sl 0 0 0 1 none 3)]),(eI 2),(.lit (.int .i64 (Int.negSucc 0))),(eI 3)], [btreePlaces10], [((.val eB0), [])]⟩
theorem hTreePlaces628_ok : HOk Try.prog hTreePlaces628 := hok_eq mmTreePlaces_ok hmTreePlaces628_ok folTreePlaces (lf := 100000) (k := 1000) (by kernel_rfl)
def hmTreePlaces629 : List HE := hTreePlaces628 :: hmTreePlaces628
theorem hmTreePlaces629_ok : ∀ x ∈ hmTreePlaces629, HOk Try.prog x := hmemo_cons hTreePlaces628_ok hmTreePlaces628_ok
def hTreePlaces629 : HE := ⟨32, [(.agg [(eI 1),(.lit (.int .i64 (Int.negSucc 0))),(.lit (.slice none 0 0))]),(eI 2),(.lit (.int .i64 (Int.negSucc 0))),(eI 2)], [], [((.val eB0), [])]⟩
theorem hTreePlaces629_ok : HOk Try.prog hTreePlaces629 := hok_eq mmTreePlaces_ok hmTreePlaces629_ok folTreePlaces (lf := 100000) (k := 1000) (by kernel_rfl)
def hmTreePlaces630 : List HE := hTreePlaces629 :: hmTreePlaces629
theorem hmTreePlaces630_ok : ∀ x ∈ hmTreePlaces630, HOk Try.prog x := hmemo_cons hTreePlaces629_ok hmTreePlaces629_ok
def hTreePlaces630 : HE := ⟨32, [(.agg [(eI 100),(.lit (.int .i64 (Int.negSucc 0))),(.lit (.slice none 0 0))]),(eI 2),(.lit (.int .i64 (Int.negSucc 0))),(eI 1)], [], [((.val eB0), [])]⟩
theorem hTreePlaces630_ok : HOk Try.prog hTreePlaces630 := hok_eq mmTreePlaces_ok hmTreePlaces630_ok folTreePlaces (lf := 100000) (k := 1000) (by kernel_rfl)
def hmTreePlaces631 : List HE := hTreePlaces630 :: hmTreePlaces630
theorem hmTreePlaces631_ok : ∀ x ∈ hmTreePlaces631, HOk Try.prog x := hmemo_cons hTreePlaces630_ok hmTreePlaces630_ok
def hTreePlaces631 : HE := ⟨32, [(.agg [(eI 100),(eI 0),(.sl 0 2 0 3 none 3)]),(eI 2),(.lit (.int .i64 (Int.negSucc 0))),(eI 3)], [btreePlaces13, btreePlaces10], [((.val eB0), [])]⟩
theorem hTreePlaces631_ok : HOk Try.prog hTreePlaces631 := hok_eq mmTreePlaces_ok hmTreePlaces631_ok folTreePlaces (lf := 100000) (k := 1000) (by kernel_rfl)
def hmTreePlaces632 : List HE := hTreePlaces631 :: hmTreePlaces631
theorem hmTreePlaces632_ok : ∀ x ∈ hmTreePlaces632, HOk Try.prog x := hmemo_cons hTreePlaces631_ok hmTreePlaces631_ok
def hTreePlaces632 : HE := ⟨32, [(.agg [(eI 100),(eI 0),(.sl 0 2 0 3 none 3)]),(eI 2),(.lit (.int .i64 (Int.negSucc 0))),(eI 4)], [btreePlaces15, btreePlaces16, btreePlaces10], [((.val eB0), [])]⟩
theorem hTreePlaces632_ok : HOk Try.prog hTreePlaces632 := hok_eq mmTreePlaces_ok hmTreePlaces632_ok folTreePlaces (lf := 100000) (k := 1000) (by kernel_rfl)
def hmTreePlaces633 : List HE := hTreePlaces632 :: hmTreePlaces632
theorem hmTreePlaces633_ok : ∀ x ∈ hmTreePlaces633, HOk Try.prog x := hmemo_cons hTreePlaces632_ok hmTreePlaces632_ok
def hTreePlaces633 : HE := ⟨32, [(.agg [(eI 101),(eI 2),(.lit (.slice none 0 0))]),(eI 2),(.lit (.int .i64 (Int.negSucc 0))),(eI 3)], [], [((.val eB0), [])]⟩
theorem hTreePlaces633_ok : HOk Try.prog hTreePlaces633 := hok_eq mmTreePlaces_ok hmTreePlaces633_ok folTreePlaces (lf := 100000) (k := 1000) (by kernel_rfl)
def hmTreePlaces634 : List HE := hTreePlaces633 :: hmTreePlaces633
theorem hmTreePlaces634_ok : ∀ x ∈ hmTreePlaces634, HOk Try.prog x := hmemo_cons hTreePlaces633_ok hmTreePlaces633_ok
def hTreePlaces634 : HE := ⟨32, [(.agg [(eI 1),(.lit (.int .i64 (Int.negSucc 0))),(.lit (.slice none 0 0))]),(eI 2),(.lit (.int .i64 (Int.negSucc 0))),(eI 3)], [], [((.val eB0), [])]⟩
theorem hTreePlaces634_ok : HOk Try.prog hTreePlaces634 := hok_eq mmTreePlaces_ok hmTreePlaces634_ok folTreePlaces (lf := 100000) (k := 1000) (by kernel_rfl)
def hmTreePlaces635 : List HE := hTreePlaces634 :: hmTreePlaces634
theorem hmTreePlaces635_ok : ∀ x ∈ hmTreePlaces635, HOk Try.prog x := hmemo_cons hTreePlaces634_ok hmTreePlaces634_ok
def hTreePlaces635 : HE := ⟨32, [(.agg [(eI 3),(.lit (.int .i64 (Int.negSucc 0))),(.lit (.slice none 0 0))]),(eI 2),(.lit (.int .i64 (Int.negSucc 0))),(eI 2)], [], [((.val eB0), [])]⟩
theorem hTreePlaces635_ok : HOk Try.prog hTreePlaces635 := hok_eq mmTreePlaces_ok hmTreePlaces635_ok folTreePlaces (lf := 100000) (k := 1000) (by kernel_rfl)
def hmTreePlaces636 : List HE := hTreePlaces635 :: hmTreePlaces635
theorem hmTreePlaces636_ok : ∀ x ∈ hmTreePlaces636, HOk Try.prog x := hmemo_cons hTreePlaces635_ok hmTreePlaces635_ok
def hTreePlaces636 : HE := ⟨32, [(.agg [(eI 101),(eI 3),(.sl 0 0 0 1 none 3)]),(eI 2),(.lit (.int .i64 (Int.negSucc 0))),(eI 2)], [btreePlaces10], [((.val eB0), [])]⟩
theorem hTreePlaces636_ok : HOk Try.prog hTreePlaces636 := hok_eq mmTreePlaces_ok hmTreePlaces636_ok folTreePlaces (lf := 100000) (k := 1000) (by kernel_rfl)
def hmTreePlaces637 : List HE := hTreePlaces636 :: hmTreePlaces636
theorem hmTreePlaces637_ok : ∀ x ∈ hmTreePlaces637, HOk Try.prog x := hmemo_cons hTreePlaces636_ok hmTreePlaces636_ok
def hTreePlaces637 : HE := ⟨32, [(.agg [(eI 1),(.lit (.int .i64 (Int.negSucc 0))),(.lit (.slice none 0 0))]),(eI 2),(.lit (.int .i64 (Int.negSucc 0))),(eI 1)], [], [((.val eB0), [])]⟩
theorem hTreePlaces637_ok : HOk Try.prog hTreePlaces637 := hok_eq mmTreePlaces_ok hmTreePlaces637_ok folTreePlaces (lf := 100000) (k := 1000) (by kernel_rfl)
def hmTreePlaces638 : List HE := hTreePlaces637 :: hmTreePlaces637
theorem hmTreePlaces638_ok : ∀ x ∈ hmTreePlaces638, HOk Try.prog x := hmemo_cons hTreePlaces637_ok hmTreePlaces637_ok
def hTreePlaces638 : HE := ⟨32, [(.agg [(eI 100),(.lit (.int .i64 (Int.negSucc 0))),(.lit (.slice none 0 0))]),(eI 2),(.lit (.int .i64 (Int.negSucc 0))),(eI 0)], [], [((.val eB0), [])]⟩
theorem hTreePlaces638_ok : HOk Try.prog hTreePlaces638 := hok_eq mmTreePlaces_ok hmTreePlaces638_ok folTreePlaces (lf := 100000) (k := 1000) (by kernel_rfl)
def hmTreePlaces639 : List HE := hTreePlaces638 :: hmTreePlaces638
theorem hmTreePlaces639_ok : ∀ x ∈ hmTreePlaces639, HOk Try.prog x := hmemo_cons hTreePlaces638_ok hmTreePlaces638_ok
def hTreePlaces639 : HE := ⟨32, [(.agg [(eI 100),(eI 0),(.sl 0 2 0 3 none 3)]),(eI 2),(.lit (.int .i64 (Int.negSucc 0))),(eI 2)], [btreePlaces13, btreePlaces10], [((.val eB0), [])]⟩
theorem hTreePlaces639_ok : HOk Try.prog hTreePlaces639 := hok_eq mmTreePlaces_ok hmTreePlaces639_ok folTreePlaces (lf := 100000) (k := 1000) (by kernel_rfl)
def hmTreePlaces640 : List HE := hTreePlaces639 :: hmTreePlaces639
theorem hmTreePlaces640_ok : ∀ x ∈ hmTreePlaces640, HOk Try.prog x := hmemo_cons hTreePlaces639_ok hmTreePlaces639_ok
def hTreePlaces640 : HE := ⟨32, [(.agg [(eI 100),(eI 0),(.sl 0 2 0 3 none 3)]),(eI 2),(.lit (.int .i64 (Int.negSucc 0))),(eI 3)], [btreePlaces15, btreePlaces16, btreePlaces10], [((.val eB0), [])]⟩
theorem hTreePlaces640_ok : HOk Try.prog hTreePlaces640 := hok_eq mmTreePlaces_ok hmTreePlaces640_ok folTreePlaces (lf := 100000) (k := 1000) (by kernel_rfl)
def hmTreePlaces641 : List HE := hTreePlaces640 :: hmTreePlaces640
theorem hmTreePlaces641_ok : ∀ x ∈ hmTreePlaces641, HOk Try.prog x := hmemo_cons hTreePlaces640_ok hmTreePlaces640_ok
def hTreePlaces641 : HE := ⟨32, [(.agg [(eI 101),(eI 2),(.lit (.slice none 0 0))]),(eI 2),(.lit (.int .i64 (Int.negSucc 0))),(eI 2)], [], [((.val eB0), [])]⟩
theorem hTreePlaces641_ok : HOk Try.prog hTreePlaces641 := hok_eq mmTreePlaces_ok hmTreePlaces641_ok folTreePlaces (lf := 100000) (k := 1000) (by kernel_rfl)
def hmTreePlaces642 : List HE := hTreePlaces641 :: hmTreePlaces641
theorem hmTreePlaces642_ok : ∀ x ∈ hmTreePlaces642, HOk Try.prog x := hmemo_cons hTreePlaces641_ok hmTreePlaces641_ok
def hTreePlaces642 : HE := ⟨32, [(.agg [(eI 3),(.lit (.int .i64 (Int.negSucc 0))),(.lit (.slice none 0 0))]),(eI 2),(.lit (.int .i64 (Int.negSucc 0))),(eI 1)], [], [((.val eB0), [])]⟩
theorem hTreePlaces642_ok : HOk Try.prog hTreePlaces642 := hok_eq mmTreePlaces_ok hmTreePlaces642_ok folTreePlaces (lf := 100000) (k := 1000) (by kernel_rfl)
def hmTreePlaces643 : List HE := hTreePlaces642 :: hmTreePlaces642
theorem hmTreePlaces643_ok : ∀ x ∈ hmTreePlaces643, HOk Try.prog x := hmemo_cons hTreePlaces642_ok hmTreePlaces642_ok
def hTreePlaces643 : HE := ⟨32, [(.agg [(eI 101),(eI 3),(.sl 0 0 0 1 none 3)]),(eI 2),(.lit (.int .i64 (Int.negSucc 0))),(eI 1)], [btreePlaces10], [((.val eB0), [])]⟩
theorem hTreePlaces643_ok : HOk Try.prog hTreePlaces643 := hok_eq mmTreePlaces_ok hmTreePlaces643_ok folTreePlaces (lf := 100000) (k := 1000) (by kernel_rfl)
def hmTreePlaces644 : List HE := hTreePlaces643 :: hmTreePlaces643
theorem hmTreePlaces644_ok : ∀ x ∈ hmTreePlaces644, HOk Try.prog x := hmemo_cons hTreePlaces643_ok hmTreePlaces643_ok
def hTreePlaces644 : HE := ⟨32, [(.agg [(eI 1),(.lit (.int .i64 (Int.negSucc 0))),(.lit (.slice none 0 0))]),(eI 2),(.lit (.int .i64 (Int.negSucc 0))),(eI 0)], [], [((.val eB0), [])]⟩
theorem hTreePlaces644_ok : HOk Try.prog hTreePlaces644 := hok_eq mmTreePlaces_ok hmTreePlaces644_ok folTreePlaces (lf := 100000) (k := 1000) (by kernel_rfl)
def hmTreePlaces645 : List HE := hTreePlaces644 :: hmTreePlaces644
theorem hmTreePlaces645_ok : ∀ x ∈ hmTreePlaces645, HOk Try.prog x := hmemo_cons hTreePlaces644_ok hmTreePlaces644_ok
def hTreePlaces645 : HE := ⟨32, [(.agg [(eI 100),(.lit (.int .i64 (Int.negSucc 0))),(.lit (.slice none 0 0))]),(eI 2),(.lit (.int .i64 (Int.negSucc 0))),(.lit (.int .i64 (Int.negSucc 0)))], [], [((.val eB0), [])]⟩
theorem hTreePlaces645_ok : HOk Try.prog hTreePlaces645 := hok_eq mmTreePlaces_ok hmTreePlaces645_ok folTreePlaces (lf := 100000) (k := 1000) (by kernel_rfl)
def hmTreePlaces646 : List HE := hTreePlaces645 :: hmTreePlaces645
theorem hmTreePlaces646_ok : ∀ x ∈ hmTreePlaces646, HOk Try.prog x := hmemo_cons hTreePlaces645_ok hmTreePlaces645_ok
def hTreePlaces646 : HE := ⟨32, [(.agg [(eI 100),(eI 0),(.sl 0 2 0 3 none 3)]),(eI 2),(.lit (.int .i64 (Int.negSucc 0))),(eI 1)], [btreePlaces13, btreePlaces10], [((.val eB0), [])]⟩
theorem hTreePlaces646_ok : HOk Try.prog hTreePlaces646 := hok_eq mmTreePlaces_ok hmTreePlaces646_ok folTreePlaces (lf := 100000) (k := 1000) (by kernel_rfl)
def hmTreePlaces647 : List HE := hTreePlaces646 :: hmTreePlaces646
theorem hmTreePlaces647_ok : ∀ x ∈ hmTreePlaces647, HOk Try.prog x := hmemo_cons hTreePlaces646_ok hmTreePlaces646_ok
def hTreePlaces647 : HE := ⟨32, [(.agg [(eI 100),(eI 0),(.sl 0 2 0 3 none 3)]),(eI 2),(.lit (.int .i64 (Int.negSucc 0))),(eI 2)], [btreePlaces15, btreePlaces16, btreePlaces10], [((.val eB0), [])]⟩
theorem hTreePlaces647_ok : HOk Try.prog hTreePlaces647 := hok_eq mmTreePlaces_ok hmTreePlaces647_ok folTreePlaces (lf := 100000) (k := 1000) (by kernel_rfl)
def hmTreePlaces648 : List HE := hTreePlaces647 :: hmTreePlaces647
theorem hmTreePlaces648_ok : ∀ x ∈ hmTreePlaces648, HOk Try.prog x := hmemo_cons hTreePlaces647_ok hmTreePlaces647_ok
def hTreePlaces648 : HE := ⟨32, [(.agg [(eI 101),(eI 2),(.lit (.slice none 0 0))]),(eI 2),(.lit (.int .i64 (Int.negSucc 0))),(eI 1)], [], [((.val eB0), [])]⟩
theorem hTreePlaces648_ok : HOk Try.prog hTreePlaces648 := hok_eq mmTreePlaces_ok hmTreePlaces648_ok folTreePlaces (lf := 100000) (k := 1000) (by kernel_rfl)
def hmTreePlaces649 : List HE := hTreePlaces648 :: hmTreePlaces648
theorem hmTreePlaces649_ok : ∀ x ∈ hmTreePlaces649, HOk Try.prog x := hmemo_cons hTreePlaces648_ok hmTreePlaces648_ok
def hTreePlaces649 : HE := ⟨32, [(.agg [(eI 3),(.lit (.int .i64 (Int.negSucc 0))),(.lit (.slice none 0 0))]),(eI 2),(.lit (.int .i64 (Int.negSucc 0))),(eI 0)], [], [((.val eB0), [])]⟩
theorem hTreePlaces649_ok : HOk Try.prog hTreePlaces649 := hok_eq mmTreePlaces_ok hmTreePlaces649_ok folTreePlaces (lf := 100000) (k := 1000) (by kernel_rfl)
def hmTreePlaces650 : List HE := hTreePlaces649 :: hmTreePlaces649
theorem hmTreePlaces650_ok : ∀ x ∈ hmTreePlaces650, HOk Try.prog x := hmemo_cons hTreePlaces649_ok hmTreePlaces649_ok
def hTreePlaces650 : HE := ⟨32, [(.agg [(eI 101),(eI 3),(.sl 0 0 0 1 none 3)]),(eI 2),(.lit (.int .i64 (Int.negSucc 0))),(eI 0)], [btreePlaces10], [((.val eB0), [])]⟩
theorem hTreePlaces650_ok : HOk Try.prog hTreePlaces650 := hok_eq mmTreePlaces_ok hmTreePlaces650_ok folTreePlaces (lf := 100000) (k := 1000) (by kernel_rfl)
def hmTreePlaces651 : List HE := hTreePlaces650 :: hmTreePlaces650
theorem hmTreePlaces651_ok : ∀ x ∈ hmTreePlaces651, HOk Try.prog x := hmemo_cons hTreePlaces650_ok hmTreePlaces650_ok
def hTreePlaces651 : HE := ⟨32, [(.agg [(eI 1),(.lit (.int .i64 (Int.negSucc 0))),(.lit (.slice none 0 0))]),(eI 2),(.lit (.int .i64 (Int.negSucc 0))),(.lit (.int .i64 (Int.negSucc 0)))], [], [((.val eB0), [])]⟩
theorem hTreePlaces651_ok : HOk Try.prog hTreePlaces651 := hok_eq mmTreePlaces_ok hmTreePlaces651_ok folTreePlaces (lf := 100000) (k := 1000) (by kernel_rfl)
def hmTreePlaces652 : List HE := hTreePlaces651 :: hmTreePlaces651
theorem hmTreePlaces652_ok : ∀ x ∈ hmTreePlaces652, HOk Try.prog x := hmemo_cons hTreePlaces651_ok hmTreePlaces651_ok
def hTreePlaces652 : HE := ⟨32, [(.agg [(eI 100),(.lit (.int .i64 (Int.negSucc 0))),(.lit (.slice none 0 0))]),(eI 2),(.lit (.int .i64 (Int.negSucc 0))),(.lit (.int .i64 (Int.negSucc 1)))], [], [((.val eB0), [])]⟩
theorem hTreePlaces652_ok : HOk Try.prog hTreePlaces652 := hok_eq mmTreePlaces_ok hmTreePlaces652_ok folTreePlaces (lf := 100000) (k := 1000) (by kernel_rfl)
def hmTreePlaces653 : List HE := hTreePlaces652 :: hmTreePlaces652
theorem hmTreePlaces653_ok : ∀ x ∈ hmTreePlaces653, HOk Try.prog x := hmemo_cons hTreePlaces652_ok hmTreePlaces652_ok
def hTreePlaces653 : HE := ⟨32, [(.agg [(eI 100),(eI 0),(.sl 0 2 0 3 none 3)]),(eI 2),(.lit (.int .i64 (Int.negSucc 0))),(eI 0)], [btreePlaces13, btreePlaces10], [((.val eB0), [])]⟩
theorem hTreePlaces653_ok : HOk Try.prog hTreePlaces653 := hok_eq mmTreePlaces_ok hmTreePlaces653_ok folTreePlaces (lf := 100000) (k := 1000) (by kernel_rfl)
def hmTreePlaces654 : List HE := hTreePlaces653 :: hmTreePlaces653
theorem hmTreePlaces654_ok : ∀ x ∈ hmTreePlaces654, HOk Try.prog x := hmemo_cons hTreePlaces653_ok hmTreePlaces653_ok
def hTreePlaces654 : HE := ⟨32, [(.agg [(eI 100),(eI 0),(.sl 0 2 0 3 none 3)]),(eI 2),(.lit (.int .i64 (Int.negSucc 0))),(eI 1)], [btreePlaces15, btreePlaces16, btreePlaces10], [((.val eB0), [])]⟩
theorem hTreePlaces654_ok : HOk Try.prog hTreePlaces654 := hok_eq mmTreePlaces_ok hmTreePlaces654_ok folTreePlaces (lf := 100000) (k := 1000) (by kernel_rfl)
def hmTreePlaces655 : List HE := hTreePlaces654 :: hmTreePlaces654
theorem hmTreePlaces655_ok : ∀ x ∈ hmTreePlaces655, HOk Try.prog x := hmemo_cons hTreePlaces654_ok hmTreePlaces654_ok
def hTreePlaces655 : HE := ⟨32, [(.agg [(eI 101),(eI 2),(.lit (.slice none 0 0))]),(eI 2),(.lit (.int .i64 (Int.negSucc 0))),(eI 0)], [], [((.val eB0), [])]⟩
theorem hTreePlaces655_ok : HOk Try.prog hTreePlaces655 := hok_eq mmTreePlaces_ok hmTreePlaces655_ok folTreePlaces (lf := 100000) (k := 1000) (by kernel_rfl)
def hmTreePlaces656 : List HE := hTreePlaces655 :: hmTreePlaces655
theorem hmTreePlaces656_ok : ∀ x ∈ hmTreePlaces656, HOk Try.prog x := hmemo_cons hTreePlaces655_ok hmTreePlaces655_ok
def hTreePlaces656 : HE := ⟨32, [(.agg [(eI 100),(eI 0),(.sl 0 2 0 3 none 3)]),(eI 2),(.lit (.int .i64 (Int.negSucc 0))),(.lit (.int .i64 (Int.negSucc 0)))], [btreePlaces13, btreePlaces10], [((.val eB0), [])]⟩
theorem hTreePlaces656_ok : HOk Try.prog hTreePlaces656 := hok_eq mmTreePlaces_ok hmTreePlaces656_ok folTreePlaces (lf := 100000) (k := 1000) (by kernel_rfl)
def hmTreePlaces657 : List HE := hTreePlaces656 :: hmTreePlaces656
theorem hmTreePlaces657_ok : ∀ x ∈ hmTreePlaces657, HOk Try.prog x := hmemo_cons hTreePlaces656_ok hmTreePlaces656_ok
def hTreePlaces657 : HE := ⟨32, [(.agg [(eI 100),(eI 0),(.sl 0 2 0 3 none 3)]),(eI 2),(.lit (.int .i64 (Int.negSucc 0))),(eI 0)], [btreePlaces15, btreePlaces16, btreePlaces10], [((.val eB0), [])]⟩
theorem hTreePlaces657_ok : HOk Try.prog hTreePlaces657 := hok_eq mmTreePlaces_ok hmTreePlaces657_ok folTreePlaces (lf := 100000) (k := 1000) (by kernel_rfl)
def hmTreePlaces658 : List HE := hTreePlaces657 :: hmTreePlaces657
theorem hmTreePlaces658_ok : ∀ x ∈ hmTreePlaces658, HOk Try.prog x := hmemo_cons hTreePlaces657_ok hmTreePlaces657_ok
def hTreePlaces658 : HE := ⟨32, [(.agg [(eI 100),(eI 0),(.sl 0 2 0 3 none 3)]),(eI 2),(.lit (.int .i64 (Int.negSucc 0))),(.lit (.int .i64 (Int.negSucc 0)))], [btreePlaces15, btreePlaces16, btreePlaces10], [((.val eB0), [])]⟩
theorem hTreePlaces658_ok : HOk Try.prog hTreePlaces658 := hok_eq mmTreePlaces_ok hmTreePlaces658_ok folTreePlaces (lf := 100000) (k := 1000) (by kernel_rfl)
def hmTreePlaces659 : List HE := hTreePlaces658 :: hmTreePlaces658
theorem hmTreePlaces659_ok : ∀ x ∈ hmTreePlaces659, HOk Try.prog x := hmemo_cons hTreePlaces658_ok hmTreePlaces658_ok
def hTreePlaces659 : HE := ⟨32, [(.agg [(eI 101),(eI 2),(.lit (.slice none 0 0))]),(eI 1),(eI 4),(eI 4)], [], [((.val eB0), [])]⟩
theorem hTreePlaces659_ok : HOk Try.prog hTreePlaces659 := hok_eq mmTreePlaces_ok hmTreePlaces659_ok folTreePlaces (lf := 100000) (k := 1000) (by kernel_rfl)
def hmTreePlaces660 : List HE := hTreePlaces659 :: hmTreePlaces659
theorem hmTreePlaces660_ok : ∀ x ∈ hmTreePlaces660, HOk Try.prog x := hmemo_cons hTreePlaces659_ok hmTreePlaces659_ok
def hTreePlaces660 : HE := ⟨32, [(.agg [(eI 1),(.lit (.int .i64 (Int.negSucc 0))),(.lit (.slice none 0 0))]),(eI 1),(eI 4),(eI 4)], [], [((.val eB0), [])]⟩
theorem hTreePlaces660_ok : HOk Try.prog hTreePlaces660 := hok_eq mmTreePlaces_ok hmTreePlaces660_ok folTreePlaces (lf := 100000) (k := 1000) (by kernel_rfl)
def hmTreePlaces661 : List HE := hTreePlaces660 :: hmTreePlaces660
theorem hmTreePlaces661_ok : ∀ x ∈ hmTreePlaces661, HOk Try.prog x := hmemo_cons hTreePlaces660_ok hmTreePlaces660_ok
def hTreePlaces661 : HE := ⟨32, [(.agg [(eI 3),(.lit (.int .i64 (Int.negSucc 0))),(.lit (.slice none 0 0))]),(eI 1),(eI 4),(eI 3)], [], [((.val eB0), [])]⟩
theorem hTreePlaces661_ok : HOk Try.prog hTreePlaces661 := hok_eq mmTreePlaces_ok hmTreePlaces661_ok folTreePlaces (lf := 100000) (k := 1000) (by kernel_rfl)
def hmTreePlaces662 : List HE := hTreePlaces661 :: hmTreePlaces661
theorem hmTreePlaces662_ok : ∀ x ∈ hmTreePlaces662, HOk Try.prog x := hmemo_cons hTreePlaces661_ok hmTreePlaces661_ok
def hTreePlaces662 : HE := ⟨32, [(.agg [(eI 101),(eI 3),(.sl 0 0 0 1 none 3)]),(eI 1),(eI 4),(eI 3)], [btreePlaces10], [((.val eB0), [])]⟩
theorem hTreePlaces662_ok : HOk Try.prog hTreePlaces662 := hok_eq mmTreePlaces_ok hmTreePlaces662_ok folTreePlaces (lf := 100000) (k := 1000) (by kernel_rfl)
def hmTreePlaces663 : List HE := hTreePlaces662 :: hmTreePlaces662
theorem hmTreePlaces663_ok : ∀ x ∈ hmTreePlaces663, HOk Try.prog x := hmemo_cons hTreePlaces662_ok hmTreePlaces662_ok
def hTreePlaces663 : HE := ⟨32, [(.agg [(eI 1),(.lit (.int .i64 (Int.negSucc 0))),(.lit (.slice none 0 0))]),(eI 1),(eI 4),(eI 2)], [], [((.val eB0), [])]⟩
theorem hTreePlaces663_ok : HOk Try.prog hTreePlaces663 := hok_eq mmTreePlaces_ok hmTreePlaces663_ok folTreePlaces (lf := 100000) (k := 1000) (by kernel_rfl)
def hmTreePlaces664 : List HE := hTreePlaces663 :: hmTreePlaces663
theorem hmTreePlaces664_ok : ∀ x ∈ hmTreePlaces664, HOk Try.prog x := hmemo_cons hTreePlaces663_ok hmTreePlaces663_ok
def hTreePlaces664 : HE := ⟨32, [(.agg [(eI 100),(.lit (.int .i64 (Int.negSucc 0))),(.lit (.slice none 0 0))]),(eI 1),(eI 4),(eI 1)], [], [((.val eB0), [])]⟩
theorem hTreePlaces664_ok : HOk Try.prog hTreePlaces664 := hok_eq mmTreePlaces_ok hmTreePlaces664_ok folTreePlaces (lf := 100000) (k := 1000) (by kernel_rfl)
def hmTreePlaces665 : List HE := hTreePlaces664 :: hmTreePlaces664
theorem hmTreePlaces665_ok : ∀ x ∈ hmTreePlaces665, HOk Try.prog x := hmemo_cons hTreePlaces664_ok hmTreePlaces664_ok
def hTreePlaces665 : HE := ⟨32, [(.agg [(eI 100),(eI 0),(.sl 0 2 0 3 none 3)]),(eI 1),(eI 4),(eI 3)], [btreePlaces13, btreePlaces10], [((.val eB0), [])]⟩
theorem hTreePlaces665_ok : HOk Try.prog hTreePlaces665 := hok_eq mmTreePlaces_ok hmTreePlaces665_ok folTreePlaces (lf := 100000) (k := 1000) (by kernel_rfl)
def hmTreePlaces666 : List HE := hTreePlaces665 :: hmTreePlaces665
theorem hmTreePlaces666_ok : ∀ x ∈ hmTreePlaces666, HOk Try.prog x := hmemo_cons hTreePlaces665_ok hmTreePlaces665_ok
def hTreePlaces666 : HE := ⟨32, [(.agg [(eI 100),(eI 0),(.sl 0 2 0 3 none 3)]),(eI 1),(eI 4),(eI 4)], [btreePlaces15, btreePlaces16, btreePlaces10], [((.val eB0), [])]⟩
theorem hTreePlaces666_ok : HOk Try.prog hTreePlaces666 := hok_eq mmTreePlaces_ok hmTreePlaces666_ok folTreePlaces (lf := 100000) (k := 1000) (by kernel_rfl)
def hmTreePlaces667 : List HE := hTreePlaces666 :: hmTreePlaces666
theorem hmTreePlaces667_ok : ∀ x ∈ hmTreePlaces667, HOk Try.prog x := hmemo_cons hTreePlaces666_ok hmTreePlaces666_ok
def hTreePlaces667 : HE := ⟨32, [(.agg [(eI 101),(eI 2),(.lit (.slice none 0 0))]),(eI 1),(eI 4),(eI 3)], [], [((.val eB0), [])]⟩
theorem hTreePlaces667_ok : HOk Try.prog hTreePlaces667 := hok_eq mmTreePlaces_ok hmTreePlaces667_ok folTreePlaces (lf := 100000) (k := 1000) (by kernel_rfl)
def hmTreePlaces668 : List HE := hTreePlaces667 :: hmTreePlaces667
theorem hmTreePlaces668_ok : ∀ x ∈ hmTreePlaces668, HOk Try.prog x := hmemo_cons hTreePlaces667_ok hmTreePlaces667_ok
def hTreePlaces668 : HE := ⟨32, [(.agg [(eI 1),(.lit (.int .i64 (Int.negSucc 0))),(.lit (.slice none 0 0))]),(eI 1),(eI 4),(eI 3)], [], [((.val eB0), [])]⟩
theorem hTreePlaces668_ok : HOk Try.prog hTreePlaces668 := hok_eq mmTreePlaces_ok hmTreePlaces668_ok folTreePlaces (lf := 100000) (k := 1000) (by kernel_rfl)
def hmTreePlaces669 : List HE := hTreePlaces668 :: hmTreePlaces668
theorem hmTreePlaces669_ok : ∀ x ∈ hmTreePlaces669, HOk Try.prog x := hmemo_cons hTreePlaces668_ok hmTreePlaces668_ok
def hTreePlaces669 : HE := ⟨32, [(.agg [(eI 3),(.lit (.int .i64 (Int.negSucc 0))),(.lit (.slice none 0 0))]),(eI 1),(eI 4),(eI 2)], [], [((.val eB0), [])]⟩
theorem hTreePlaces669_ok : HOk Try.prog hTreePlaces669 := hok_eq mmTreePlaces_ok hmTreePlaces669_ok folTreePlaces (lf := 100000) (k := 1000) (by kernel_rfl)
def hmTreePlaces670 : List HE := hTreePlaces669 :: hmTreePlaces669
theorem hmTreePlaces670_ok : ∀ x ∈ hmTreePlaces670, HOk Try.prog x := hmemo_cons hTreePlaces669_ok hmTreePlaces669_ok
def hTreePlaces670 : HE := ⟨32, [(.agg [(eI 101),(eI 3),(.sl 0 0 0 1 none 3)]),(eI 1),(eI 4),(eI 2)], [btreePlaces10], [((.val eB0), [])]⟩
theorem hTreePlaces670_ok : HOk Try.prog hTreePlaces670 := hok_eq mmTreePlaces_ok hmTreePlaces670_ok folTreePlaces (lf := 100000) (k := 1000) (by kernel_rfl)
def hmTreePlaces671 : List HE := hTreePlaces670 :: hmTreePlaces670
theorem hmTreePlaces671_ok : ∀ x ∈ hmTreePlaces671, HOk Try.prog x := hmemo_cons hTreePlaces670_ok hmTreePlaces670_ok
def hTreePlaces671 : HE := ⟨32, [(.agg [(eI 1),(.lit (.int .i64 (Int.negSucc 0))),(.lit (.slice none 0 0))]),(eI 1),(eI 4),(eI 1)], [], [((.val eB0), [])]⟩
theorem hTreePlaces671_ok : HOk Try.prog hTreePlaces671 := hok_eq mmTreePlaces_ok hmTreePlaces671_ok folTreePlaces (lf := 100000) (k := 1000) (by kernel_rfl)
def hmTreePlaces672 : List HE := hTreePlaces671 :: hmTreePlaces671
theorem hmTreePlaces672_ok : ∀ x ∈ hmTreePlaces672, HOk Try.prog x := hmemo_cons hTreePlaces671_ok hmTreePlaces671_ok
def hTreePlaces672 : HE := ⟨32, [(.agg [(eI 100),(.lit (.int .i64 (Int.negSucc 0))),(.lit (.slice none 0 0))]),(eI 1),(eI 4),(eI 0)], [], [((.val eB0), [])]⟩
theorem hTreePlaces672_ok : HOk Try.prog hTreePlaces672 := hok_eq mmTreePlaces_ok hmTreePlaces672_ok folTreePlaces (lf := 100000) (k := 1000) (by kernel_rfl)
def hmTreePlaces673 : List HE := hTreePlaces672 :: hmTreePlaces672
theorem hmTreePlaces673_ok : ∀ x ∈ hmTreePlaces673, HOk Try.prog x := hmemo_cons hTreePlaces672_ok hmTreePlaces672_ok
def hTreePlaces673 : HE := ⟨32, [(.agg [(eI 100),(eI 0),(.sl 0 2 0 3 none 3)]),(eI 1),(eI 4),(eI 2)], [btreePlaces13, btreePlaces10], [((.val eB0), [])]⟩
theorem hTreePlaces673_ok : HOk Try.prog hTreePlaces673 := hok_eq mmTreePlaces_ok hmTreePlaces673_ok folTreePlaces (lf := 100000) (k := 1000) (by kernel_rfl)
def hmTreePlaces674 : List HE := hTreePlaces673 :: hmTreePlaces673
theorem hmTreePlaces674_ok : ∀ x ∈ hmTreePlaces674, HOk Try.prog x := hmemo_cons hTreePlaces673_ok hmTreePlaces673_ok
def hTreePlaces674 : HE := ⟨32, [(.agg [(eI 100),(eI 0),(.sl 0 2 0 3 none 3)]),(eI 1),(eI 4),(eI 3)], [btreePlaces15, btreePlaces16, btreePlaces10], [((.val eB0), [])]⟩
theorem hTreePlaces674_ok : HOk Try.prog hTreePlaces674 := hok_eq mmTreePlaces_ok hmTreePlaces674_ok folTreePlaces (lf := 100000) (k := 1000) (by kernel_rfl)
def hmTreePlaces675 : List HE := hTreePlaces674 :: hmTreePlaces674
theorem hmTreePlaces675_ok : ∀ x ∈ hmTreePlaces675, HOk Try.prog x := hmemo_cons hTreePlaces674_ok hmTreePlaces674_ok
def hTreePlaces675 : HE := ⟨32, [(.agg [(eI 101),(eI 2),(.lit (.slice none 0 0))]),(eI 1),(eI 4),(eI 2)], [], [((.val eB0), [])]⟩
theorem hTreePlaces675_ok : HOk Try.prog hTreePlaces675 := hok_eq mmTreePlaces_ok hmTreePlaces675_ok folTreePlaces (lf := 100000) (k := 1000) (by kernel_rfl)
def hmTreePlaces676 : List HE := hTreePlaces675 :: hmTreePlaces675
theorem hmTreePlaces676_ok : ∀ x ∈ hmTreePlaces676, HOk Try.prog x := hmemo_cons hTreePlaces675_ok hmTreePlaces675_ok
def hTreePlaces676 : HE := ⟨32, [(.agg [(eI 3),(.lit (.int .i64 (Int.negSucc 0))),(.lit (.slice none 0 0))]),(eI 1),(eI 4),(eI 1)], [], [((.val eB0), [])]⟩
theorem hTreePlaces676_ok : HOk Try.prog hTreePlaces676 := hok_eq mmTreePlaces_ok hmTreePlaces676_ok folTreePlaces (lf := 100000) (k := 1000) (by kernel_rfl)
def hmTreePlaces677 : List HE := hTreePlaces676 :: hmTreePlaces676
theorem hmTreePlaces677_ok : ∀ x ∈ hmTreePlaces677, HOk Try.prog x := hmemo_cons hTreePlaces676_ok hmTreePlaces676_ok
def hTreePlaces677 : HE := ⟨32, [(.agg [(eI 101),(eI 3),(.sl 0 0 0 1 none 3)]),(eI 1),(eI 4),(eI 1)], [btreePlaces10], [((.val eB0), [])]⟩
theorem hTreePlaces677_ok : HOk Try.prog hTreePlaces677 := hok_eq mmTreePlaces_ok hmTreePlaces677_ok folTreePlaces (lf := 100000) (k := 1000) (by kernel_rfl)
def hmTreePlaces678 : List HE := hTreePlaces677 :: hmTreePlaces677
theorem hmTreePlaces678_ok : ∀ x ∈ hmTreePlaces678, HOk Try.prog x := hmemo_cons hTreePlaces677_ok hmTreePlaces677_ok
def hTreePlaces678 : HE := ⟨32, [(.agg [(eI 1),(.lit (.int .i64 (Int.negSucc 0))),(.lit (.slice none 0 0))]),(eI 1),(eI 4),(eI 0)], [], [((.val eB0), [])]⟩
theorem hTreePlaces678_ok : HOk Try.prog hTreePlaces678 := hok_eq mmTreePlaces_ok hmTreePlaces678_ok folTreePlaces (lf := 100000) (k := 1000) (by kernel_rfl)
def hmTreePlaces679 : List HE := hTreePlaces678 :: hmTreePlaces678
theorem hmTreePlaces679_ok : ∀ x ∈ hmTreePlaces679, HOk Try.prog x := hmemo_cons hTreePlaces678_ok hmTreePlaces678_ok
def hTreePlaces679 : HE := ⟨32, [(.agg [(eI 100),(.lit (.int .i64 (Int.negSucc 0))),(.lit (.slice none 0 0))]),(eI 1),(eI 4),(.lit (.int .i64 (Int.negSucc 0)))], [], [((.val eB0), [])]⟩
theorem hTreePlaces679_ok : HOk Try.prog hTreePlaces679 := hok_eq mmTreePlaces_ok hmTreePlaces679_ok folTreePlaces (lf := 100000) (k := 1000) (by kernel_rfl)
def hmTreePlaces680 : List HE := hTreePlaces679 :: hmTreePlaces679
theorem hmTreePlaces680_ok : ∀ x ∈ hmTreePlaces680, HOk Try.prog x := hmemo_cons hTreePlaces679_ok hmTreePlaces679_ok
def hTreePlaces680 : HE := ⟨32, [(.agg [(eI 100),(eI 0),(.sl 0 2 0 3 none 3)]),(eI 1),(eI 4),(eI 1)], [btreePlaces13, btreePlaces10], [((.val eB0), [])]⟩
theorem hTreePlaces680_ok : HOk Try.prog hTreePlaces680 := hok_eq mmTreePlaces_ok hmTreePlaces680_ok folTreePlaces (lf := 100000) (k := 1000) (by kernel_rfl)
def hmTreePlaces681 : List HE := hTreePlaces680 :: hmTreePlaces680
theorem hmTreePlaces681_ok : ∀ x ∈ hmTreePlaces681, HOk Try.prog x := hmemo_cons hTreePlaces680_ok hmTreePlaces680_ok
def hTreePlaces681 : HE := ⟨32, [(.agg [(eI 100),(eI 0),(.sl 0 2 0 3 none 3)]),(eI 1),(eI 4),(eI 2)], [btreePlaces15, btreePlaces16, btreePlaces10], [((.val eB0), [])]⟩
theorem hTreePlaces681_ok : HOk Try.prog hTreePlaces681 := hok_eq mmTreePlaces_ok hmTreePlaces681_ok folTreePlaces (lf := 100000) (k := 1000) (by kernel_rfl)
def hmTreePlaces682 : List HE := hTreePlaces681 :: hmTreePlaces681
theorem hmTreePlaces682_ok : ∀ x ∈ hmTreePlaces682, HOk Try.prog x := hmemo_cons hTreePlaces681_ok hmTreePlaces681_ok
def hTreePlaces682 : HE := ⟨32, [(.agg [(eI 101),(eI 2),(.lit (.slice none 0 0))]),(eI 1),(eI 4),(eI 1)], [], [((.val eB0), [])]⟩
theorem hTreePlaces682_ok : HOk Try.prog hTreePlaces682 := hok_eq mmTreePlaces_ok hmTreePlaces682_ok folTreePlaces (lf := 100000) (k := 1000) (by kernel_rfl)
def hmTreePlaces683 : List HE := hTreePlaces682 :: hmTreePlaces682
theorem hmTreePlaces683_ok : ∀ x ∈ hmTreePlaces683, HOk Try.prog x := hmemo_cons hTreePlaces682_ok hmTreePlaces682_ok
def hTreePlaces683 : HE := ⟨32, [(.agg [(eI 3),(.lit (.int .i64 (Int.negSucc 0))),(.lit (.slice none 0 0))]),(eI 1),(eI 4),(eI 0)], [], [((.val eB0), [])]⟩
theorem hTreePlaces683_ok : HOk Try.prog hTreePlaces683 := hok_eq mmTreePlaces_ok hmTreePlaces683_ok folTreePlaces (lf := 100000) (k := 1000) (by kernel_rfl)
def hmTreePlaces684 : List HE := hTreePlaces683 :: hmTreePlaces683
theorem hmTreePlaces684_ok : ∀ x ∈ hmTreePlaces684, HOk Try.prog x := hmemo_cons hTreePlaces683_ok hmTreePlaces683_ok
def hTreePlaces684 : HE := ⟨32, [(.agg [(eI 101),(eI 3),(.sl 0 0 0 1 none 3)]),(eI 1),(eI 4),(eI 0)], [btreePlaces10], [((.val eB0), [])]⟩
theorem hTreePlaces684_ok : HOk Try.prog hTreePlaces684 := hok_eq mmTreePlaces_ok hmTreePlaces684_ok folTreePlaces (lf := 100000) (k := 1000) (by kernel_rfl)
def hmTreePlaces685 : List HE := hTreePlaces684 :: hmTreePlaces684
theorem hmTreePlaces685_ok : ∀ x ∈ hmTreePlaces685, HOk Try.prog x := hmemo_cons hTreePlaces684_ok hmTreePlaces684_ok
def hTreePlaces685 : HE := ⟨32, [(.agg [(eI 1),(.lit (.int .i64 (Int.negSucc 0))),(.lit (.slice none 0 0))]),(eI 1),(eI 4),(.lit (.int .i64 (Int.negSucc 0)))], [], [((.val eB0), [])]⟩
theorem hTreePlaces685_ok : HOk Try.prog hTreePlaces685 := hok_eq mmTreePlaces_ok hmTreePlaces685_ok folTreePlaces (lf := 100000) (k := 1000) (by kernel_rfl)
def hmTreePlaces686 : List HE := hTreePlaces685 :: hmTreePlaces685
theorem hmTreePlaces686_ok : ∀ x ∈ hmTreePlaces686, HOk Try.prog x := hmemo_cons hTreePlaces685_ok hmTreePlaces685_ok
def hTreePlaces686 : HE := ⟨32, [(.agg [(eI 100),(.lit (.int .i64 (Int.negSucc 0))),(.lit (.slice none 0 0))]),(eI 1),(eI 4),(.lit (.int .i64 (Int.negSucc 1)))], [], [((.val eB0), [])]⟩
theorem hTreePlaces686_ok : HOk Try.prog hTreePlaces686 := hok_eq mmTreePlaces_ok hmTreePlaces686_ok folTreePlaces (lf := 100000) (k := 1000) (by kernel_rfl)
def hmTreePlaces687 : List HE := hTreePlaces686 :: hmTreePlaces686
theorem hmTreePlaces687_ok : ∀ x ∈ hmTreePlaces687, HOk Try.prog x := hmemo_cons hTreePlaces686_ok hmTreePlaces686_ok
def hTreePlaces687 : HE := ⟨32, [(.agg [(eI 100),(eI 0),(.sl 0 2 0 3 none 3)]),(eI 1),(eI 4),(eI 0)], [btreePlaces13, btreePlaces10], [((.val eB0), [])]⟩
theorem hTreePlaces687_ok : HOk Try.prog hTreePlaces687 := hok_eq mmTreePlaces_ok hmTreePlaces687_ok folTreePlaces (lf := 100000) (k := 1000) (by kernel_rfl)
def hmTreePlaces688 : List HE := hTreePlaces687 :: hmTreePlaces687
theorem hmTreePlaces688_ok : ∀ x ∈ hmTreePlaces688, HOk Try.prog x := hmemo_cons hTreePlaces687_ok hmTreePlaces687_ok
def hTreePlaces688 : HE := ⟨32, [(.agg [(eI 100),(eI 0),(.sl 0 2 0 3 none 3)]),(eI 1),(eI 4),(eI 1)], [btreePlaces15, btreePlaces16, btreePlaces10], [((.val eB0), [])]⟩
theorem hTreePlaces688_ok : HOk Try.prog hTreePlaces688 := hok_eq mmTreePlaces_ok hmTreePlaces688_ok folTreePlaces (lf := 100000) (k := 1000) (by kernel_rfl)
def hmTreePlaces689 : List HE := hTreePlaces688 :: hmTreePlaces688
theorem hmTreePlaces689_ok : ∀ x ∈ hmTreePlaces689, HOk Try.prog x := hmemo_cons hTreePlaces688_ok hmTreePlaces688_ok
def hTreePlaces689 : HE := ⟨32, [(.agg [(eI 101),(eI 2),(.lit (.slice none 0 0))]),(eI 1),(eI 4),(eI 0)], [], [((.val eB0), [])]⟩
theorem hTreePlaces689_ok : HOk Try.prog hTreePlaces689 := hok_eq mmTreePlaces_ok hmTreePlaces689_ok folTreePlaces (lf := 100000) (k := 1000) (by kernel_rfl)
def hmTreePlaces690 : List HE := hTreePlaces689 :: hmTreePlaces689
theorem hmTreePlaces690_ok : ∀ x ∈ hmTreePlaces690, HOk Try.prog x := hmemo_cons hTreePlaces689_ok hmTreePlaces689_ok
def hTreePlaces690 : HE := ⟨32, [(.agg [(eI 100),(eI 0),(.sl 0 2 0 3 none 3)]),(eI 1),(eI 4),(.lit (.int .i64 (Int.negSucc 0)))], [btreePlaces13, btreePlaces10], [((.val eB0), [])]⟩
theorem hTreePlaces690_ok : HOk Try.prog hTreePlaces690 := hok_eq mmTreePlaces_ok hmTreePlaces690_ok folTreePlaces (lf := 100000) (k := 1000) (by kernel_rfl)
def hmTreePlaces691 : List HE := hTreePlaces690 :: hmTreePlaces690
theorem hmTreePlaces691_ok : ∀ x ∈ hmTreePlaces691, HOk Try.prog x := hmemo_cons hTreePlaces690_ok hmTreePlaces690_ok
def hTreePlaces691 : HE := ⟨32, [(.agg [(eI 100),(eI 0),(.sl 0 2 0 3 none 3)]),(eI 1),(eI 4),(eI 0)], [btreePlaces15, btreePlaces16, btreePlaces10], [((.val eB0), [])]⟩
theorem hTreePlaces691_ok : HOk Try.prog hTreePlaces691 := hok_eq mmTreePlaces_ok hmTreePlaces691_ok folTreePlaces (lf := 100000) (k := 1000) (by kernel_rfl)
def hmTreePlaces692 : List HE := hTreePlaces691 :: hmTreePlaces691
theorem hmTreePlaces692_ok : ∀ x ∈ hmTreePlaces692, HOk Try.prog x := hmemo_cons hTreePlaces691_ok hmTreePlaces691_ok
def hTreePlaces692 : HE := ⟨32, [(.agg [(eI 100),(eI 0),(.sl 0 2 0 3 none 3)]),(eI 1),(eI 4),(.lit (.int .i64 (Int.negSucc 0)))], [btreePlaces15, btreePlaces16, btreePlaces10], [((.val eB0), [])]⟩
theorem hTreePlaces692_ok : HOk Try.prog hTreePlaces692 := hok_eq mmTreePlaces_ok hmTreePlaces692_ok folTreePlaces (lf := 100000) (k := 1000) (by kernel_rfl)
def hmTreePlaces693 : List HE := hTreePlaces692 :: hmTreePlaces692
theorem hmTreePlaces693_ok : ∀ x ∈ hmTreePlaces693, HOk Try.prog x := hmemo_cons hTreePlaces692_ok hmTreePlaces692_ok
def hTreePlaces693 : HE := ⟨32, [(.agg [(eI 101),(eI 2),(.lit (.slice none 0 0))]),(eI 1),(eI 3),(eI 4)], [], [((.val eB0), [])]⟩
theorem hTreePlaces693_ok : HOk Try.prog hTreePlaces693 := hok_eq mmTreePlaces_ok hmTreePlaces693_ok folTreePlaces (lf := 100000) (k := 1000) (by kernel_rfl)
def hmTreePlaces694 : List HE := hTreePlaces693 :: hmTreePlaces693
theorem hmTreePlaces694_ok : ∀ x ∈ hmTreePlaces694, HOk Try.prog x := hmemo_cons hTreePlaces693_ok hmTreePlaces693_ok
def hTreePlaces694 : HE := ⟨32, [(.agg [(eI 1),(.lit (.int .i64 (Int.negSucc 0))),(.lit (.slice none 0 0))]),(eI 1),(eI 3),(eI 4)], [], [((.val eB0), [])]⟩
theorem hTreePlaces694_ok : HOk Try.prog hTreePlaces694 := hok_eq mmTreePlaces_ok hmTreePlaces694_ok folTreePlaces (lf := 100000) (k := 1000) (by kernel_rfl)
def hmTreePlaces695 : List HE := hTreePlaces694 :: hmTreePlaces694
theorem hmTreePlaces695_ok : ∀ x ∈ hmTreePlaces695, HOk Try.prog x := hmemo_cons hTreePlaces694_ok hmTreePlaces694_ok
def hTreePlaces695 : HE := ⟨32, [(.agg [(eI 3),(.lit (.int .i64 (Int.negSucc 0))),(.lit (.slice none 0 0))]),(eI 1),(eI 3),(eI 3)], [], [((.val eB0), [])]⟩
theorem hTreePlaces695_ok : HOk Try.prog hTreePlaces695 := hok_eq mmTreePlaces_ok hmTreePlaces695_ok folTreePlaces (lf := 100000) (k := 1000) (by kernel_rfl)
def hmTreePlaces696 : List HE := hTreePlaces695 :: hmTreePlaces695
theorem hmTreePlaces696_ok : ∀ x ∈ hmTreePlaces696, HOk Try.prog x := hmemo_cons hTreePlaces695_ok hmTreePlaces695_ok
def hTreePlaces696 : HE := ⟨32, [(.agg [(eI 101),(eI 3),(.sl 0 0 0 1 none 3)]),(eI 1),(eI 3),(eI 3)], [btreePlaces10], [((.val eB0), [])]⟩
theorem hTreePlaces696_ok : HOk Try.prog hTreePlaces696 := hok_eq mmTreePlaces_ok hmTreePlaces696_ok folTreePlaces (lf := 100000) (k := 1000) (by kernel_rfl)
def hmTreePlaces697 : List HE := hTreePlaces696 :: hmTreePlaces696
theorem hmTreePlaces697_ok : ∀ x ∈ hmTreePlaces697, HOk Try.prog x := hmemo_cons hTreePlaces696_ok hmTreePlaces696_ok
def hTreePlaces697 : HE := ⟨32, [(.agg [(eI 1),(.lit (.int .i64 (Int.negSucc 0))),(.lit (.slice none 0 0))]),(eI 1),(eI 3),(eI 2)], [], [((.val eB0), [])]⟩
theorem hTreePlaces697_ok : HOk Try.prog hTreePlaces697 := hok_eq mmTreePlaces_ok hmTreePlaces697_ok folTreePlaces (lf := 100000) (k := 1000) (by kernel_rfl)
def hmTreePlaces698 : List HE := hTreePlaces697 :: hmTreePlaces697
theorem hmTreePlaces698_ok : ∀ x ∈ hmTreePlaces698, HOk Try.prog x := hmemo_cons hTreePlaces697_ok hmTreePlaces697_ok
def hTreePlaces698 : HE := ⟨32, [(.agg [(eI 100),(.lit (.int .i64 (Int.negSucc 0))),(.lit (.slice none 0 0))]),(eI 1),(eI 3),(eI 1)], [], [((.val eB0), [])]⟩
theorem hTreePlaces698_ok : HOk Try.prog hTreePlaces698 := hok_eq mmTreePlaces_ok hmTreePlaces698_ok folTreePlaces (lf := 100000) (k := 1000) (by kernel_rfl)
def hmTreePlaces699 : List HE := hTreePlaces698 :: hmTreePlaces698
theorem hmTreePlaces699_ok : ∀ x ∈ hmTreePlaces699, HOk Try.prog x := hmemo_cons hTreePlaces698_ok hmTreePlaces698_ok
def hTreePlaces699 : HE := ⟨32, [(.agg [(eI 100),(eI 0),(.sl 0 2 0 3 none 3)]),(eI 1),(eI 3),(eI 3)], [btreePlaces13, btreePlaces10], [((.val eB0), [])]⟩
theorem hTreePlaces699_ok : HOk Try.prog hTreePlaces699 := hok_eq mmTreePlaces_ok hmTreePlaces699_ok folTreePlaces (lf := 100000) (k := 1000) (by kernel_rfl)
def hmTreePlaces700 : List HE := hTreePlaces699 :: hmTreePlaces699
theorem hmTreePlaces700_ok : ∀ x ∈ hmTreePlaces700, HOk Try.prog x := hmemo_cons hTreePlaces699_ok hmTreePlaces699_ok
def hTreePlaces700 : HE := ⟨32, [(.agg [(eI 100),(eI 0),(.sl 0 2 0 3 none 3)]),(eI 1),(eI 3),(eI 4)], [btreePlaces15, btreePlaces16, btreePlaces10], [((.val eB0), [])]⟩
theorem hTreePlaces700_ok : HOk Try.prog hTreePlaces700 := hok_eq mmTreePlaces_ok hmTreePlaces700_ok folTreePlaces (lf := 100000) (k := 1000) (by kernel_rfl)
def hmTreePlaces701 : List HE := hTreePlaces700 :: hmTreePlaces700
theorem hmTreePlaces701_ok : ∀ x ∈ hmTreePlaces701, HOk Try.prog x := hmemo_cons hTreePlaces700_ok hmTreePlaces700_ok
def hTreePlaces701 : HE := ⟨32, [(.agg [(eI 101),(eI 2),(.lit (.slice none 0 0))]),(eI 1),(eI 3),(eI 3)], [], [((.val eB0), [])]⟩
theorem hTreePlaces701_ok : HOk Try.prog hTreePlaces701 := hok_eq mmTreePlaces_ok hmTreePlaces701_ok folTreePlaces (lf := 100000) (k := 1000) (by kernel_rfl)
def hmTreePlaces702 : List HE := hTreePlaces701 :: hmTreePlaces701
theorem hmTreePlaces702_ok : ∀ x ∈ hmTreePlaces702, HOk Try.prog x := hmemo_cons hTreePlaces701_ok hmTreePlaces701_ok
def hTreePlaces702 : HE := ⟨32, [(.agg [(eI 1),(.lit (.int .i64 (Int.negSucc 0))),(.lit (.slice none 0 0))]),(eI 1),(eI 3),(eI 3)], [], [((.val eB0), [])]⟩
theorem hTreePlaces702_ok : HOk Try.prog hTreePlaces702 := hok_eq mmTreePlaces_ok hmTreePlaces702_ok folTreePlaces (lf := 100000) (k := 1000) (by kernel_rfl)
def hmTreePlaces703 : List HE := hTreePlaces702 :: hmTreePlaces702
theorem hmTreePlaces703_ok : ∀ x ∈ hmTreePlaces703, HOk Try.prog x := hmemo_cons hTreePlaces702_ok hmTreePlaces702_ok
def hTreePlaces703 : HE := ⟨32, [(.agg [(eI 3),(.lit (.int .i64 (Int.negSucc 0))),(.lit (.slice none 0 0))]),(eI 1),(eI 3),(eI 2)], [], [((.val eB0), [])]⟩
theorem hTreePlaces703_ok : HOk Try.prog hTreePlaces703 := hok_eq mmTreePlaces_ok hmTreePlaces703_ok folTreePlaces (lf := 100000) (k := 1000) (by kernel_rfl)
def hmTreePlaces704 : List HE := hTreePlaces703 :: hmTreePlaces703
theorem hmTreePlaces704_ok : ∀ x ∈ hmTreePlaces704, HOk Try.prog x := hmemo_cons hTreePlaces703_ok hmTreePlaces703_ok
def hTreePlaces704 : HE := ⟨32, [(.agg [(eI 101),(eI 3),(.sl 0 0 0 1 none 3)]),(eI 1),(eI 3),(eI 2)], [btreePlaces10], [((.val eB0), [])]⟩
theorem hTreePlaces704_ok : HOk Try.prog hTreePlaces704 := hok_eq mmTreePlaces_ok hmTreePlaces704_ok folTreePlaces (lf := 100000) (k := 1000) (by kernel_rfl)
def hmTreePlaces705 : List HE := hTreePlaces704 :: hmTreePlaces704
theorem hmTreePlaces705_ok : ∀ x ∈ hmTreePlaces705, HOk Try.prog x := hmemo_cons hTreePlaces704_ok hmTreePlaces704_ok
def hTreePlaces705 : HE := ⟨32, [(.agg [(eI 1),(.lit (.int .i64 (Int.negSucc 0))),(.lit (.slice none 0 0))]),(eI 1),(eI 3),(eI 1)], [], [((.val eB0), [])]⟩
theorem hTreePlaces705_ok : HOk Try.prog hTreePlaces705 := hok_eq mmTreePlaces_ok hmTreePlaces705_ok folTreePlaces (lf := 100000) (k := 1000) (by kernel_rfl)
def hmTreePlaces706 : List HE := hTreePlaces705 :: hmTreePlaces705
theorem hmTreePlaces706_ok : ∀ x ∈ hmTreePlaces706, HOk Try.prog x := hmemo_cons hTreePlaces705_ok hmTreePlaces705_ok
def hTreePlaces706 : HE := ⟨32, [(.agg [(eI 100),(.lit (.int .i64 (Int.negSucc 0))),(.lit (.slice none 0 0))]),(eI 1),(eI 3),(eI 0)], [], [((.val eB0), [])]⟩
theorem hTreePlaces706_ok : HOk Try.prog hTreePlaces706 := hok_eq mmTreePlaces_ok hmTreePlaces706_ok folTreePlaces (lf := 100000) (k := 1000) (by kernel_rfl)
def hmTreePlaces707 : List HE := hTreePlaces706 :: hmTreePlaces706
theorem hmTreePlaces707_ok : ∀ x ∈ hmTreePlaces707, HOk Try.prog x := hmemo_cons hTreePlaces706_ok hmTreePlaces706_ok
def hTreePlaces707 : HE := ⟨32, [(.agg [(eI 100),(eI 0),(.sl 0 2 0 3 none 3)]),(eI 1),(eI 3),(eI 2)], [btreePlaces13, btreePlaces10], [((.val eB0), [])]⟩
theorem hTreePlaces707_ok : HOk Try.prog hTreePlaces707 := hok_eq mmTreePlaces_ok hmTreePlaces707_ok folTreePlaces (lf := 100000) (k := 1000) (by kernel_rfl)
def hmTreePlaces708 : List HE := hTreePlaces707 :: hmTreePlaces707
theorem hmTreePlaces708_ok : ∀ x ∈ hmTreePlaces708, HOk Try.prog x := hmemo_cons hTreePlaces707_ok hmTreePlaces707_ok
def hTreePlaces708 : HE := ⟨32, [(.agg [(eI 100),(eI 0),(.sl 0 2 0 3 none 3)]),(eI 1),(eI 3),(eI 3)], [btreePlaces15, btreePlaces16, btreePlaces10], [((.val eB0), [])]⟩
theorem hTreePlaces708_ok : HOk Try.prog hTreePlaces708 := hok_eq mmTreePlaces_ok hmTreePlaces708_ok folTreePlaces (lf := 100000) (k := 1000) (by kernel_rfl)
def hmTreePlaces709 : List HE := hTreePlaces708 :: hmTreePlaces708
theorem hmTreePlaces709_ok : ∀ x ∈ hmTreePlaces709, HOk Try.prog x := hmemo_cons hTreePlaces708_ok hmTreePlaces708_ok
def hTreePlaces709 : HE := ⟨32, [(.agg [(eI 101),(eI 2),(.lit (.slice none 0 0))]),(eI 1),(eI 3),(eI 2)], [], [((.val eB0), [])]⟩
theorem hTreePlaces709_ok : HOk Try.prog hTreePlaces709 := hok_eq mmTreePlaces_ok hmTreePlaces709_ok folTreePlaces (lf := 100000) (k := 1000) (by kernel_rfl)
def hmTreePlaces710 : List HE := hTreePlaces709 :: hmTreePlaces709
theorem hmTreePlaces710_ok : ∀ x ∈ hmTreePlaces710, HOk Try.prog x := hmemo_cons hTreePlaces709_ok hmTreePlaces709_ok
def hTreePlaces710 : HE := ⟨32, [(.agg [(eI 3),(.lit (.int .i64 (Int.negSucc 0))),(.lit (.slice none 0 0))]),(eI 1),(eI 3),(eI 1)], [], [((.val eB0), [])]⟩
theorem hTreePlaces710_ok : HOk Try.prog hTreePlaces710 := hok_eq mmTreePlaces_ok hmTreePlaces710_ok folTreePlaces (lf := 100000) (k := 1000) (by kernel_rfl)
def hmTreePlaces711 : List HE := hTreePlaces710 :: hmTreePlaces710
theorem hmTreePlaces711_ok : ∀ x ∈ hmTreePlaces711, HOk Try.prog x := hmemo_cons hTreePlaces710_ok hmTreePlaces710_ok
def hTreePlaces711 : HE := ⟨32, [(.agg [(eI 101),(eI 3),(.sl 0 0 0 1 none 3)]),(eI 1),(eI 3),(eI 1)], [btreePlaces10], [((.val eB0), [])]⟩
theorem hTreePlaces711_ok : HOk Try.prog hTreePlaces711 := hok_eq mmTreePlaces_ok hmTreePlaces711_ok folTreePlaces (lf := 100000) (k := 1000) (by kernel_rfl)
def hmTreePlaces712 : List HE := hTreePlaces711 :: hmTreePlaces711
theorem hmTreePlaces712_ok : ∀ x ∈ hmTreePlaces712, HOk Try.prog x := hmemo_cons hTreePlaces711_ok hmTreePlaces711_ok
def hTreePlaces712 : HE := ⟨32, [(.agg [(eI 1),(.lit (.int .i64 (Int.negSucc 0))),(.lit (.slice none 0 0))]),(eI 1),(eI 3),(eI 0)], [], [((.val eB0), [])]⟩
theorem hTreePlaces712_ok : HOk Try.prog hTreePlaces712 := hok_eq mmTreePlaces_ok hmTreePlaces712_ok folTreePlaces (lf := 100000) (k := 1000) (by kernel_rfl)
def hmTreePlaces713 : List HE := hTreePlaces712 :: hmTreePlaces712
theorem hmTreePlaces713_ok : ∀ x ∈ hmTreePlaces713, HOk Try.prog x := hmemo_cons hTreePlaces712_ok hmTreePlaces712_ok
def hTreePlaces713 : HE := ⟨32, [(.agg [(eI 100),(.lit (.int .i64 (Int.negSucc 0))),(.lit (.slice none 0 0))]),(eI 1),(eI 3),(.lit (.int .i64 (Int.negSucc 0)))], [], [((.val eB0), [])]⟩
theorem hTreePlaces713_ok : HOk Try.prog hTreePlaces713 := hok_eq mmTreePlaces_ok hmTreePlaces713_ok folTreePlaces (lf := 100000) (k := 1000) (by kernel_rfl)
def hmTreePlaces714 : List HE := hTreePlaces713 :: hmTreePlaces713
theorem hmTreePlaces714_ok : ∀ x ∈ hmTreePlaces714, HOk Try.prog x := hmemo_cons hTreePlaces713_ok hmTreePlaces713_ok
def hTreePlaces714 : HE := ⟨32, [(.agg [(eI 100),(eI 0),(.sl 0 2 0 3 none 3)]),(eI 1),(eI 3),(eI 1)], [btreePlaces13, btreePlaces10], [((.val eB0), [])]⟩
theorem hTreePlaces714_ok : HOk Try.prog hTreePlaces714 := hok_eq mmTreePlaces_ok hmTreePlaces714_ok folTreePlaces (lf := 100000) (k := 1000) (by kernel_rfl)
def hmTreePlaces715 : List HE := hTreePlaces714 :: hmTreePlaces714
theorem hmTreePlaces715_ok : ∀ x ∈ hmTreePlaces715, HOk Try.prog x := hmemo_cons hTreePlaces714_ok hmTreePlaces714_ok
def hTreePlaces715 : HE := ⟨32, [(.agg [(eI 100),(eI 0),(.sl 0 2 0 3 none 3)]),(eI 1),(eI 3),(eI 2)], [btreePlaces15, btreePlaces16, btreePlaces10], [((.val eB0), [])]⟩
theorem hTreePlaces715_ok : HOk Try.prog hTreePlaces715 := hok_eq mmTreePlaces_ok hmTreePlaces715_ok folTreePlaces (lf := 100000) (k := 1000) (by kernel_rfl)
def hmTreePlaces716 : List HE := hTreePlaces715 :: hmTreePlaces715
theorem hmTreePlaces716_ok : ∀ x ∈ hmTreePlaces716, HOk Try.prog x := hmemo_cons hTreePlaces715_ok hmTreePlaces715_ok
def hTreePlaces716 : HE := ⟨32, [(.agg [(eI 101),(eI 2),(.lit (.slice none 0 0))]),(eI 1),(eI 3),(eI 1)], [], [((.val eB0), [])]⟩
theorem hTreePlaces716_ok : HOk Try.prog hTreePlaces716 := hok_eq mmTreePlaces_ok hmTreePlaces716_ok folTreePlaces (lf := 100000) (k := 1000) (by kernel_rfl)
def hmTreePlaces717 : List HE := hTreePlaces716 :: hmTreePlaces716
theorem hmTreePlaces717_ok : ∀ x ∈ hmTreePlaces717, HOk Try.prog x := hmemo_cons hTreePlaces716_ok hmTreePlaces716_ok
def hTreePlaces717 : HE := ⟨32, [(.agg [(eI 3),(.lit (.int .i64 (Int.negSucc 0))),(.lit (.slice none 0 0))]),(eI 1),(eI 3),(eI 0)], [], [((.val eB0), [])]⟩
theorem hTreePlaces717_ok : HOk Try.prog hTreePlaces717 := hok_eq mmTreePlaces_ok hmTreePlaces717_ok folTreePlaces (lf := 100000) (k := 1000) (by kernel_rfl)
def hmTreePlaces718 : List HE := hTreePlaces717 :: hmTreePlaces717
theorem hmTreePlaces718_ok : ∀ x ∈ hmTreePlaces718, HOk Try.prog x := hmemo_cons hTreePlaces717_ok hmTreePlaces717_ok
def hTreePlaces718 : HE := ⟨32, [(.agg [(eI 101),(eI 3),(.sl 0 0 0 1 none 3)]),(eI 1),(eI 3),(eI 0)], [btreePlaces10], [((.val eB0), [])]⟩
theorem hTreePlaces718_ok : HOk Try.prog hTreePlaces718 := hok_eq mmTreePlaces_ok hmTreePlaces718_ok folTreePlaces (lf := 100000) (k := 1000) (by kernel_rfl)
def hmTreePlaces719 : List HE := hTreePlaces718 :: hmTreePlaces718
theorem hmTreePlaces719_ok : ∀ x ∈ hmTreePlaces719, HOk Try.prog x := hmemo_cons hTreePlaces718_ok hmTreePlaces718_ok
def hTreePlaces719 : HE := ⟨32, [(.agg [(eI 1),(.lit (.int .i64 (Int.negSucc 0))),(.lit (.slice none 0 0))]),(eI 1),(eI 3),(.lit (.int .i64 (Int.negSucc 0)))], [], [((.val eB0), [])]⟩
theorem hTreePlaces719_ok : HOk Try.prog hTreePlaces719 := hok_eq mmTreePlaces_ok hmTreePlaces719_ok folTreePlaces (lf := 100000) (k := 1000) (by kernel_rfl)
def hmTreePlaces720 : List HE := hTreePlaces719 :: hmTreePlaces719
theorem hmTreePlaces720_ok : ∀ x ∈ hmTreePlaces720, HOk Try.prog x := hmemo_cons hTreePlaces719_ok hmTreePlaces719_ok
def hTreePlaces720 : HE := ⟨32, [(.agg [(eI 100),(.lit (.int .i64 (Int.negSucc 0))),(.lit (.slice none 0 0))]),(eI 1),(eI 3),(.lit (.int .i64 (Int.negSucc 1)))], [], [((.val eB0), [])]⟩
theorem hTreePlaces720_ok : HOk Try.prog hTreePlaces720 := hok_eq mmTreePlaces_ok hmTreePlaces720_ok folTreePlaces (lf := 100000) (k := 1000) (by kernel_rfl)
def hmTreePlaces721 : List HE := hTreePlaces720 :: hmTreePlaces720
theorem hmTreePlaces721_ok : ∀ x ∈ hmTreePlaces721, HOk Try.prog x := hmemo_cons hTreePlaces720_ok hmTreePlaces720_ok
def hTreePlaces721 : HE := ⟨32, [(.agg [(eI 100),(eI 0),(.sl 0 2 0 3 none 3)]),(eI 1),(eI 3),(eI 0)], [btreePlaces13, btreePlaces10], [((.val eB0), [])]⟩
theorem hTreePlaces721_ok : HOk Try.prog hTreePlaces721 := hok_eq mmTreePlaces_ok hmTreePlaces721_ok folTreePlaces (lf := 100000) (k := 1000) (by kernel_rfl)
def hmTreePlaces722 : List HE := hTreePlaces721 :: hmTreePlaces721
theorem hmTreePlaces722_ok : ∀ x ∈ hmTreePlaces722, HOk Try.prog x := hmemo_cons hTreePlaces721_ok hmTreePlaces721_ok
def hTreePlaces722 : HE := ⟨32, [(.agg [(eI 100),(eI 0),(.sl 0 2 0 3 none 3)]),(eI 1),(eI 3),(eI 1)], [btreePlaces15, btreePlaces16, btreePlaces10], [((.val eB0), [])]⟩
theorem hTreePlaces722_ok : HOk Try.prog hTreePlaces722 := hok_eq mmTreePlaces_ok hmTreePlaces722_ok folTreePlaces (lf := 100000) (k := 1000) (by kernel_rfl)
def hmTreePlaces723 : List HE := hTreePlaces722 :: hmTreePlaces722
theorem hmTreePlaces723_ok : ∀ x ∈ hmTreePlaces723, HOk Try.prog x := hmemo_cons hTreePlaces722_ok hmTreePlaces722_ok
def hTreePlaces723 : HE := ⟨32, [(.agg [(eI 101),(eI 2),(.lit (.slice none 0 0))]),(eI 1),(eI 3),(eI 0)], [], [((.val eB0), [])]⟩
theorem hTreePlaces723_ok : HOk Try.prog hTreePlaces723 := hok_eq mmTreePlaces_ok hmTreePlaces723_ok folTreePlaces (lf := 100000) (k := 1000) (by kernel_rfl)
def hmTreePlaces724 : List HE := hTreePlaces723 :: hmTreePlaces723
theorem hmTreePlaces724_ok : ∀ x ∈ hmTreePlaces724, HOk Try.prog x := hmemo_cons hTreePlaces723_ok hmTreePlaces723_ok
def hTreePlaces724 : HE := ⟨32, [(.agg [(eI 100),(eI 0),(.sl 0 2 0 3 none 3)]),(eI 1),(eI 3),(.lit (.int .i64 (Int.negSucc 0)))], [btreePlaces13, btreePlaces10], [((.val eB0), [])]⟩
theorem hTreePlaces724_ok : HOk Try.prog hTreePlaces724 := hok_eq mmTreePlaces_ok hmTreePlaces724_ok folTreePlaces (lf := 100000) (k := 1000) (by kernel_rfl)
def hmTreePlaces725 : List HE := hTreePlaces724 :: hmTreePlaces724
theorem hmTreePlaces725_ok : ∀ x ∈ hmTreePlaces725, HOk Try.prog x := hmemo_cons hTreePlaces724_ok hmTreePlaces724_ok
def hTreePlaces725 : HE := ⟨32, [(.agg [(eI 100),(eI 0),(.sl 0 2 0 3 none 3)]),(eI 1),(eI 3),(eI 0)], [btreePlaces15, btreePlaces16, btreePlaces10], [((.val eB0), [])]⟩
theorem hTreePlaces725_ok : HOk Try.prog hTreePlaces725 := hok_eq mmTreePlaces_ok hmTreePlaces725_ok folTreePlaces (lf := 100000) (k := 1000) (by kernel_rfl)
def hmTreePlaces726 : List HE := hTreePlaces725 :: hmTreePlaces725
theorem hmTreePlaces726_ok : ∀ x ∈ hmTreePlaces726, HOk Try.prog x := hmemo_cons hTreePlaces725_ok hmTreePlaces725_ok
def hTreePlaces726 : HE := ⟨32, [(.agg [(eI 100),(eI 0),(.sl 0 2 0 3 none 3)]),(eI 1),(eI 3),(.lit (.int .i64 (Int.negSucc 0)))], [btreePlaces15, btreePlaces16, btreePlaces10], [((.val eB0), [])]⟩
theorem hTreePlaces726_ok : HOk Try.prog hTreePlaces726 := hok_eq mmTreePlaces_ok hmTreePlaces726_ok folTreePlaces (lf := 100000) (k := 1000) (by kernel_rfl)
def hmTreePlaces727 : List HE := hTreePlaces726 :: hmTreePlaces726
theorem hmTreePlaces727_ok : ∀ x ∈ hmTreePlaces727, HOk Try.prog x := hmemo_cons hTreePlaces726_ok hmTreePlaces726_ok
def hTreePlaces727 : HE := ⟨32, [(.agg [(eI 101),(eI 2),(.lit (.slice none 0 0))]),(eI 1),(eI 2),(eI 4)], [], [((.val eB0), [])]⟩
theorem hTreePlaces727_ok : HOk Try.prog hTreePlaces727 := hok_eq mmTreePlaces_ok hmTreePlaces727_ok folTreePlaces (lf := 100000) (k := 1000) (by kernel_rfl)
def hmTreePlaces728 : List HE := hTreePlaces727 :: hmTreePlaces727
theorem hmTreePlaces728_ok : ∀ x ∈ hmTreePlaces728, HOk Try.prog x := hmemo_cons hTreePlaces727_ok hmTreePlaces727_ok
def hTreePlaces728 : HE := ⟨32, [(.agg [(eI 1),(.lit (.int .i64 (Int.negSucc 0))),(.lit (.slice none 0 0))]),(eI 1),(eI 2),(eI 4)], [], [((.val eB0), [])]⟩
theorem hTreePlaces728_ok : HOk Try.prog hTreePlaces728 := hok_eq mmTreePlaces_ok hmTreePlaces728_ok folTreePlaces (lf := 100000) (k := 1000) (by kernel_rfl)
def hmTreePlaces729 : List HE := hTreePlaces728 :: hmTreePlaces728
theorem hmTreePlaces729_ok : ∀ x ∈ hmTreePlaces729, HOk Try.prog x := hmemo_cons hTreePlaces728_ok hmTreePlaces728_ok
def hTreePlaces729 : HE := ⟨32, [(.agg [(eI 3),(.lit (.int .i64 (Int.negSucc 0))),(.lit (.slice none 0 0))]),(eI 1),(eI 2),(eI 3)], [], [((.val eB0), [])]⟩
theorem hTreePlaces729_ok : HOk Try.prog hTreePlaces729 := hok_eq mmTreePlaces_ok hmTreePlaces729_ok folTreePlaces (lf := 100000) (k := 1000) (by kernel_rfl)
def hmTreePlaces730 : List HE := hTreePlaces729 :: hmTreePlaces729
theorem hmTreePlaces730_ok : ∀ x ∈ hmTreePlaces730, HOk Try.prog x := hmemo_cons hTreePlaces729_ok hmTreePlaces729_ok
def hTreePlaces730 : HE := ⟨32, [(.agg [(eI 101),(eI 3),(.sl 0 0 0 1 none 3)]),(eI 1),(eI 2),(eI 3)], [btreePlaces10], [((.val eB0), [])]⟩
theorem hTreePlaces730_ok : HOk Try.prog hTreePlaces730 := hok_eq mmTreePlaces_ok hmTreePlaces730_ok folTreePlaces (lf := 100000) (k := 1000) (by kernel_rfl)
def hmTreePlaces731 : List HE := hTreePlaces730 :: hmTreePlaces730
theorem hmTreePlaces731_ok : ∀ x ∈ hmTreePlaces731, HOk Try.prog x := hmemo_cons hTreePlaces730_ok hmTreePlaces730_ok
def hTreePlaces731 : HE := ⟨32, [(.agg [(eI 1),(.lit (.int .i64 (Int.negSucc 0))),(.lit (.slice none 0 0))]),(eI 1),(eI 2),(eI 2)], [], [((.val eB0), [])]⟩
theorem hTreePlaces731_ok : HOk Try.prog hTreePlaces731 := hok_eq mmTreePlaces_ok hmTreePlaces731_ok folTreePlaces (lf := 100000) (k := 1000) (by kernel_rfl)
def hmTreePlaces732 : List HE := hTreePlaces731 :: hmTreePlaces731
theorem hmTreePlaces732_ok : ∀ x ∈ hmTreePlaces732, HOk Try.prog x := hmemo_cons hTreePlaces731_ok hmTreePlaces731_ok
def hTreePlaces732 : HE := ⟨32, [(.agg [(eI 100),(.lit (.int .i64 (Int.negSucc 0))),(.lit (.slice none 0 0))]),(eI 1),(eI 2),(eI 1)], [], [((.val eB0), [])]⟩
theorem hTreePlaces732_ok : HOk Try.prog hTreePlaces732 := hok_eq mmTreePlaces_ok hmTreePlaces732_ok folTreePlaces (lf := 100000) (k := 1000) (by kernel_rfl)
def hmTreePlaces733 : List HE := hTreePlaces732 :: hmTreePlaces732
theorem hmTreePlaces733_ok : ∀ x ∈ hmTreePlaces733, HOk Try.prog x := hmemo_cons hTreePlaces732_ok hmTreePlaces732_ok
def hTreePlaces733 : HE := ⟨32, [(.agg [(eI 100),(eI 0),(.sl 0 2 0 3 none 3)]),(eI 1),(eI 2),(eI 3)], [btreePlaces13, btreePlaces10], [((.val eB0), [])]⟩
theorem hTreePlaces733_ok : HOk Try.prog hTreePlaces733 := hok_eq mmTreePlaces_ok hmTreePlaces733_ok folTreePlaces (lf := 100000) (k := 1000) (by kernel_rfl)
def hmTreePlaces734 : List HE := hTreePlaces733 :: hmTreePlaces733
theorem hmTreePlaces734_ok : ∀ x ∈ hmTreePlaces734, HOk Try.prog x := hmemo_cons hTreePlaces733_ok hmTreePlaces733_ok
def hTreePlaces734 : HE := ⟨32, [(.agg [(eI 100),(eI 0),(.sl 0 2 0 3 none 3)]),(eI 1),(eI 2),(eI 4)], [btreePlaces15, btreePlaces16, btreePlaces10], [((.val eB0), [])]⟩
theorem hTreePlaces734_ok : HOk Try.prog hTreePlaces734 := hok_eq mmTreePlaces_ok hmTreePlaces734_ok folTreePlaces (lf := 100000) (k := 1000) (by kernel_rfl)
def hmTreePlaces735 : List HE := hTreePlaces734 :: hmTreePlaces734
theorem hmTreePlaces735_ok : ∀ x ∈ hmTreePlaces735, HOk Try.prog x := hmemo_cons hTreePlaces734_ok hmTreePlaces734_ok
def hTreePlaces735 : HE := ⟨32, [(.agg [(eI 101),(eI 2),(.lit (.slice none 0 0))]),(eI 1),(eI 2),(eI 3)], [], [((.val eB0), [])]⟩
theorem hTreePlaces735_ok : HOk Try.prog hTreePlaces735 := hok_eq mmTreePlaces_ok hmTreePlaces735_ok folTreePlaces (lf := 100000) (k := 1000) (by kernel_rfl)
def hmTreePlaces736 : List HE := hTreePlaces735 :: hmTreePlaces735
theorem hmTreePlaces736_ok : ∀ x ∈ hmTreePlaces736, HOk Try.prog x := hmemo_cons hTreePlaces735_ok hmTreePlaces735_ok
def hTreePlaces736 : HE := ⟨32, [(.agg [(eI 1),(.lit (.int .i64 (Int.negSucc 0))),(.lit (.slice none 0 0))]),(eI 1),(eI 2),(eI 3)], [], [((.val eB0), [])]⟩
theorem hTreePlaces736_ok : HOk Try.prog hTreePlaces736 := hok_eq mmTreePlaces_ok hmTreePlaces736_ok folTreePlaces (lf := 100000) (k := 1000) (by kernel_rfl)
def hmTreePlaces737 : List HE := hTreePlaces736 :: hmTreePlaces736
theorem hmTreePlaces737_ok : ∀ x ∈ hmTreePlaces737, HOk Try.prog x := hmemo_cons hTreePlaces736_ok hmTreePlaces736_ok
def hTreePlaces737 : HE := ⟨32, [(.agg [(eI 3),(.lit (.int .i64 (Int.negSucc 0))),(.lit (.slice none 0 0))]),(eI 1),(eI 2),(eI 2)], [], [((.val eB0), [])]⟩
theorem hTreePlaces737_ok : HOk Try.prog hTreePlaces737 := hok_eq mmTreePlaces_ok hmTreePlaces737_ok folTreePlaces (lf := 100000) (k := 1000) (by kernel_rfl)
def hmTreePlaces738 : List HE := hTreePlaces737 :: hmTreePlaces737
theorem hmTreePlaces738_ok : ∀ x ∈ hmTreePlaces738, HOk Try.prog x := hmemo_cons hTreePlaces737_ok hmTreePlaces737_ok
def hTreePlaces738 : HE := ⟨32, [(.agg [(eI 101),(eI 3),(.sl 0 0 0 1 none 3)]),(eI 1),(eI 2),(eI 2)], [btreePlaces10], [((.val eB0), [])]⟩
theorem hTreePlaces738_ok : HOk Try.prog hTreePlaces738 := hok_eq mmTreePlaces_ok hmTreePlaces738_ok folTreePlaces (lf := 100000) (k := 1000) (by kernel_rfl)
def hmTreePlaces739 : List HE := hTreePlaces738 :: hmTreePlaces738
theorem hmTreePlaces739_ok : ∀ x ∈ hmTreePlaces739, HOk Try.prog x := hmemo_cons hTreePlaces738_ok hmTreePlaces738_ok
def hTreePlaces739 : HE := ⟨32, [(.agg [(eI 1),(.lit (.int .i64 (Int.negSucc 0))),(.lit (.slice none 0 0))]),(eI 1),(eI 2),(eI 1)], [], [((.val eB0), [])]⟩
theorem hTreePlaces739_ok : HOk Try.prog hTreePlaces739 := hok_eq mmTreePlaces_ok hmTreePlaces739_ok folTreePlaces (lf := 100000) (k := 1000) (by kernel_rfl)
def hmTreePlaces740 : List HE := hTreePlaces739 :: hmTreePlaces739
theorem hmTreePlaces740_ok : ∀ x ∈ hmTreePlaces740, HOk Try.prog x := hmemo_cons hTreePlaces739_ok hmTreePlaces739_ok
def hTreePlaces740 : HE := ⟨32, [(.agg [(eI 100),(.lit (.int .i64 (Int.negSucc 0))),(.lit (.slice none 0 0))]),(eI 1),(eI 2),(eI 0)], [], [((.val eB0), [])]⟩
theorem hTreePlaces740_ok : HOk Try.prog hTreePlaces740 := hok_eq mmTreePlaces_ok hmTreePlaces740_ok folTreePlaces (lf := 100000) (k := 1000) (by kernel_rfl)
def hmTreePlaces741 : List HE := hTreePlaces740 :: hmTreePlaces740
theorem hmTreePlaces741_ok : ∀ x ∈ hmTreePlaces741, HOk Try.prog x := hmemo_cons hTreePlaces740_ok hmTreePlaces740_ok
def hTreePlaces741 : HE := ⟨32, [(.agg [(eI 100),(eI 0),(.sl 0 2 0 3 none 3)]),(eI 1),(eI 2),(eI 2)], [btreePlaces13, btreePlaces10], [((.val eB0), [])]⟩
theorem hTreePlaces741_ok : HOk Try.prog hTreePlaces741 := hok_eq mmTreePlaces_ok hmTreePlaces741_ok folTreePlaces (lf := 100000) (k := 1000) (by kernel_rfl)
def hmTreePlaces742 : List HE := hTreePlaces741 :: hmTreePlaces741
theorem hmTreePlaces742_ok : ∀ x ∈ hmTreePlaces742, HOk Try.prog x := hmemo_cons hTreePlaces741_ok hmTreePlaces741_ok
def hTreePlaces742 : HE := ⟨32, [(.agg [(eI 100),(eI 0),(.sl 0 2 0 3 none 3)]),(eI 1),(eI 2),(eI 3)], [btreePlaces15, btreePlaces16, btreePlaces10], [((.val eB0), [])]⟩
theorem hTreePlaces742_ok : HOk Try.prog hTreePlaces742 := hok_eq mmTreePlaces_ok hmTreePlaces742_ok folTreePlaces (lf := 100000) (k := 1000) (by kernel_rfl)
def hmTreePlaces743 : List HE := hTreePlaces742 :: hmTreePlaces742
theorem hmTreePlaces743_ok : ∀ x ∈ hmTreePlaces743, HOk Try.prog x := hmemo_cons hTreePlaces742_ok hmTreePlaces742_ok
def hTreePlaces743 : HE := ⟨32, [(.agg [(eI 101),(eI 2),(.lit (.slice none 0 0))]),(eI 1),(eI 2),(eI 2)], [], [((.val eB0), [])]⟩
theorem hTreePlaces743_ok : HOk Try.prog hTreePlaces743 := hok_eq mmTreePlaces_ok hmTreePlaces743_ok folTreePlaces (lf := 100000) (k := 1000) (by kernel_rfl)
def hmTreePlaces744 : List HE := hTreePlaces743 :: hmTreePlaces743
theorem hmTreePlaces744_ok : ∀ x ∈ hmTreePlaces744, HOk Try.prog x := hmemo_cons hTreePlaces743_ok hmTreePlaces743_ok
def hTreePlaces744 : HE := ⟨32, [(.agg [(eI 3),(.lit (.int .i64 (Int.negSucc 0))),(.lit (.slice none 0 0))]),(eI 1),(eI 2),(eI 1)], [], [((.val eB0), [])]⟩
theorem hTreePlaces744_ok : HOk Try.prog hTreePlaces744 := hok_eq mmTreePlaces_ok hmTreePlaces744_ok folTreePlaces (lf := 100000) (k := 1000) (by kernel_rfl)
def hmTreePlaces745 : List HE := hTreePlaces744 :: hmTreePlaces744
theorem hmTreePlaces745_ok : ∀ x ∈ hmTreePlaces745, HOk Try.prog x := hmemo_cons hTreePlaces744_ok hmTreePlaces744_ok
def hTreePlaces745 : HE := ⟨32, [(.agg [(eI 101),(eI 3),(.sl 0 0 0 1 none 3)]),(eI 1),(eI 2),(eI 1)], [btreePlaces10], [((.val eB0), [])]⟩
theorem hTreePlaces745_ok : HOk Try.prog hTreePlaces745 := hok_eq mmTreePlaces_ok hmTreePlaces745_ok folTreePlaces (lf := 100000) (k := 1000) (by kernel_rfl)
def hmTreePlaces746 : List HE := hTreePlaces745 :: hmTreePlaces745
theorem hmTreePlaces746_ok : ∀ x ∈ hmTreePlaces746, HOk Try.prog x := hmemo_cons hTreePlaces745_ok hmTreePlaces745_ok
def hTreePlaces746 : HE := ⟨32, [(.agg [(eI 1),(.lit (.int .i64 (Int.negSucc 0))),(.lit (.slice none 0 0))]),(eI 1),(eI 2),(eI 0)], [], [((.val eB0), [])]⟩
theorem hTreePlaces746_ok : HOk Try.prog hTreePlaces746 := hok_eq mmTreePlaces_ok hmTreePlaces746_ok folTreePlaces (lf := 100000) (k := 1000) (by kernel_rfl)
def hmTreePlaces747 : List HE := hTreePlaces746 :: hmTreePlaces746
theorem hmTreePlaces747_ok : ∀ x ∈ hmTreePlaces747, HOk Try.prog x := hmemo_cons hTreePlaces746_ok hmTreePlaces746_ok
def hTreePlaces747 : HE := ⟨32, [(.agg [(eI 100),(.lit (.int .i64 (Int.negSucc 0))),(.lit (.slice none 0 0))]),(eI 1),(eI 2),(.lit (.int .i64 (Int.negSucc 0)))], [], [((.val eB0), [])]⟩
theorem hTreePlaces747_ok : HOk Try.prog hTreePlaces747 := hok_eq mmTreePlaces_ok hmTreePlaces747_ok folTreePlaces (lf := 100000) (k := 1000) (by kernel_rfl)
def hmTreePlaces748 : List HE := hTreePlaces747 :: hmTreePlaces747
theorem hmTreePlaces748_ok : ∀ x ∈ hmTreePlaces748, HOk Try.prog x := hmemo_cons hTreePlaces747_ok hmTreePlaces747_ok
def hTreePlaces748 : HE := ⟨32, [(.agg [(eI 100),(eI 0),(.sl 0 2 0 3 none 3)]),(eI 1),(eI 2),(eI 1)], [btreePlaces13, btreePlaces10], [((.val eB0), [])]⟩
theorem hTreePlaces748_ok : HOk Try.prog hTreePlaces748 := hok_eq mmTreePlaces_ok hmTreePlaces748_ok folTreePlaces (lf := 100000) (k := 1000) (by kernel_rfl)
def hmTreePlaces749 : List HE := hTreePlaces748 :: hmTreePlaces748
theorem hmTreePlaces749_ok : ∀ x ∈ hmTreePlaces749, HOk Try.prog x := hmemo_cons hTreePlaces748_ok hmTreePlaces748_ok
def hTreePlaces749 : HE := ⟨32, [(.agg [(eI 100),(eI 0),(.sl 0 2 0 3 none 3)]),(eI 1),(eI 2),(eI 2)], [btreePlaces15, btreePlaces16, btreePlaces10], [((.val eB0), [])]⟩
theorem hTreePlaces749_ok : HOk Try.prog hTreePlaces749 := hok_eq mmTreePlaces_ok hmTreePlaces749_ok folTreePlaces (lf := 100000) (k := 1000) (by kernel_rfl)
def hmTreePlaces750 : List HE := hTreePlaces749 :: hmTreePlaces749
theorem hmTreePlaces750_ok : ∀ x ∈ hmTreePlaces750, HOk Try.prog x := hmemo_cons hTreePlaces749_ok hmTreePlaces749_ok
def hTreePlaces750 : HE := ⟨32, [(.agg [(eI 101),(eI 2),(.lit (.slice none 0 0))]),(eI 1),(eI 2),(eI 1)], [], [((.val eB0), [])]⟩
theorem hTreePlaces750_ok : HOk Try.prog hTreePlaces750 := hok_eq mmTreePlaces_ok hmTreePlaces750_ok folTreePlaces (lf := 100000) (k := 1000) (by kernel_rfl)
def hmTreePlaces751 : List HE := hTreePlaces750 :: hmTreePlaces750
theorem hmTreePlaces751_ok : ∀ x ∈ hmTreePlaces751, HOk Try.prog x := hmemo_cons hTreePlaces750_ok hmTreePlaces750_ok
def hTreePlaces751 : HE := ⟨32, [(.agg [(eI 3),(.lit (.int .i64 (Int.negSucc 0))),(.lit (.slice none 0 0))]),(eI 1),(eI 2),(eI 0)], [], [((.val eB0), [])]⟩
theorem hTreePlaces751_ok : HOk Try.prog hTreePlaces751 := hok_eq mmTreePlaces_ok hmTreePlaces751_ok folTreePlaces (lf := 100000) (k := 1000) (by kernel_rfl)
def hmTreePlaces752 : List HE := hTreePlaces751 :: hmTreePlaces751
theorem hmTreePlaces752_ok : ∀ x ∈ hmTreePlaces752, HOk Try.prog x := hmemo_cons hTreePlaces751_ok hmTreePlaces751_ok
def hTreePlaces752 : HE := ⟨32, [(.agg [(eI 101),(eI 3),(.sl 0 0 0 1 none 3)]),(eI 1),(eI 2),(eI 0)], [btreePlaces10], [((.val eB0), [])]⟩
theorem hTreePlaces752_ok : HOk Try.prog hTreePlaces752 := hok_eq mmTreePlaces_ok hmTreePlaces752_ok folTreePlaces (lf := 100000) (k := 1000) (by kernel_rfl)
def hmTreePlaces753 : List HE := hTreePlaces752 :: hmTreePlaces752
theorem hmTreePlaces753_ok : ∀ x ∈ hmTreePlaces753, HOk Try.prog x := hmemo_cons hTreePlaces752_ok hmTreePlaces752_ok
def hTreePlaces753 : HE := ⟨32, [(.agg [(eI 1),(.lit (.int .i64 (Int.negSucc 0))),(.lit (.slice none 0 0))]),(eI 1),(eI 2),(.lit (.int .i64 (Int.negSucc 0)))], [], [((.val eB0), [])]⟩
theorem hTreePlaces753_ok : HOk Try.prog hTreePlaces753 := hok_eq mmTreePlaces_ok hmTreePlaces753_ok folTreePlaces (lf := 100000) (k := 1000) (by kernel_rfl)
def hmTreePlaces754 : List HE := hTreePlaces753 :: hmTreePlaces753
theorem hmTreePlaces754_ok : ∀ x ∈ hmTreePlaces754, HOk Try.prog x := hmemo_cons hTreePlaces753_ok hmTreePlaces753_ok
def hTreePlaces754 : HE := ⟨32, [(.agg [(eI 100),(.lit (.int .i64 (Int.negSucc 0))),(.lit (.slice none 0 0))]),(eI 1),(eI 2),(.lit (.int .i64 (Int.negSucc 1)))], [], [((.val eB0), [])]⟩
theorem hTreePlaces754_ok : HOk Try.prog hTreePlaces754 := hok_eq mmTreePlaces_ok hmTreePlaces754_ok folTreePlaces (lf := 100000) (k := 1000) (by kernel_rfl)
def hmTreePlaces755 : List HE := hTreePlaces754 :: hmTreePlaces754
theorem hmTreePlaces755_ok : ∀ x ∈ hmTreePlaces755, HOk Try.prog x := hmemo_cons hTreePlaces754_ok hmTreePlaces754_ok
def hTreePlaces755 : HE := ⟨32, [(.agg [(eI 100),(eI 0),(.sl 0 2 0 3 none 3)]),(eI 1),(eI 2),(eI 0)], [btreePlaces13, btreePlaces10], [((.val eB0), [])]⟩
theorem hTreePlaces755_ok : HOk Try.prog hTreePlaces755 := hok_eq mmTreePlaces_ok hmTreePlaces755_ok folTreePlaces (lf := 100000) (k := 1000) (by kernel_rfl)
def hmTreePlaces756 : List HE := hTreePlaces755 :: hmTreePlaces755
theorem hmTreePlaces756_ok : ∀ x ∈ hmTreePlaces756, HOk Try.prog x := hmemo_cons hTreePlaces755_ok hmTreePlaces755_ok
def hTreePlaces756 : HE := ⟨32, [(.agg [(eI 100),(eI 0),(.sl 0 2 0 3 none 3)]),(eI 1),(eI 2),(eI 1)], [btreePlaces15, btreePlaces16, btreePlaces10], [((.val eB0), [])]⟩
theorem hTreePlaces756_ok : HOk Try.prog hTreePlaces756 := hok_eq mmTreePlaces_ok hmTreePlaces756_ok folTreePlaces (lf := 100000) (k := 1000) (by kernel_rfl)
def hmTreePlaces757 : List HE := hTreePlaces756 :: hmTreePlaces756
theorem hmTreePlaces757_ok : ∀ x ∈ hmTreePlaces757, HOk Try.prog x := hmemo_cons hTreePlaces756_ok hmTreePlaces756_ok
def hTreePlaces757 : HE := ⟨32, [(.agg [(eI 101),(eI 2),(.lit (.slice none 0 0))]),(eI 1),(eI 2),(eI 0)], [], [((.val eB0), [])]⟩
theorem hTreePlaces757_ok : HOk Try.prog hTreePlaces757 := hok_eq mmTreePlaces_ok hmTreePlaces757_ok folTreePlaces (lf := 100000) (k := 1000) (by kernel_rfl)
def hmTreePlaces758 : List HE := hTreePlaces757 :: hmTreePlaces757
theorem hmTreePlaces758_ok : ∀ x ∈ hmTreePlaces758, HOk Try.prog x := hmemo_cons hTreePlaces757_ok hmTreePlaces757_ok
def hTreePlaces758 : HE := ⟨32, [(.agg [(eI 100),(eI 0),(.sl 0 2 0 3 none 3)]),(eI 1),(eI 2),(.lit (.int .i64 (Int.negSucc 0)))], [btreePlaces13, btreePlaces10], [((.val eB0), [])]⟩
theorem hTreePlaces758_ok : HOk Try.prog hTreePlaces758 := hok_eq mmTreePlaces_ok hmTreePlaces758_ok folTreePlaces (lf := 100000) (k := 1000) (by kernel_rfl)
def hmTreePlaces759 : List HE := hTreePlaces758 :: hmTreePlaces758
theorem hmTreePlaces759_ok : ∀ x ∈ hmTreePlaces759, HOk Try.prog x := hmemo_cons hTreePlaces758_ok hmTreePlaces758_ok
def hTreePlaces759 : HE := ⟨32, [(.agg [(eI 100),(eI 0),(.sl 0 2 0 3 none 3)]),(eI 1),(eI 2),(eI 0)], [btreePlaces15, btreePlaces16, btreePlaces10], [((.val eB0), [])]⟩
theorem hTreePlaces759_ok : HOk Try.prog hTreePlaces759 := hok_eq mmTreePlaces_ok hmTreePlaces759_ok folTreePlaces (lf := 100000) (k := 1000) (by kernel_rfl)
def hmTreePlaces760 : List HE := hTreePlaces759 :: hmTreePlaces759
theorem hmTreePlaces760_ok : ∀ x ∈ hmTreePlaces760, HOk Try.prog x := hmemo_cons hTreePlaces759_ok hmTreePlaces759_ok
def hTreePlaces760 : HE := ⟨32, [(.agg [(eI 100),(eI 0),(.sl 0 2 0 3 none 3)]),(eI 1),(eI 2),(.lit (.int .i64 (Int.negSucc 0)))], [btreePlaces15, btreePlaces16, btreePlaces10], [((.val eB0), [])]⟩
theorem hTreePlaces760_ok : HOk Try.prog hTreePlaces760 := hok_eq mmTreePlaces_ok hmTreePlaces760_ok folTreePlaces (lf := 100000) (k := 1000) (by kernel_rfl)
def hmTreePlaces761 : List HE := hTreePlaces760 :: hmTreePlaces760
theorem hmTreePlaces761_ok : ∀ x ∈ hmTreePlaces761, HOk Try.prog x := hmemo_cons hTreePlaces760_ok hmTreePlaces760_ok
def hTreePlaces761 : HE := ⟨32, [(.agg [(eI 101),(eI 2),(.lit (.slice none 0 0))]),(eI 1),(eI 1),(eI 4)], [], [((.val eB0), [])]⟩
theorem hTreePlaces761_ok : HOk Try.prog hTreePlaces761 := hok_eq mmTreePlaces_ok hmTreePlaces761_ok folTreePlaces (lf := 100000) (k := 1000) (by kernel_rfl)
def hmTreePlaces762 : List HE := hTreePlaces761 :: hmTreePlaces761
theorem hmTreePlaces762_ok : ∀ x ∈ hmTreePlaces762, HOk Try.prog x := hmemo_cons hTreePlaces761_ok hmTreePlaces761_ok
def hTreePlaces762 : HE := ⟨32, [(.agg [(eI 1),(.lit (.int .i64 (Int.negSucc 0))),(.lit (.slice none 0 0))]),(eI 1),(eI 1),(eI 4)], [], [((.val eB0), [])]⟩
theorem hTreePlaces762_ok : HOk Try.prog hTreePlaces762 := hok_eq mmTreePlaces_ok hmTreePlaces762_ok folTreePlaces (lf := 100000) (k := 1000) (by kernel_rfl)
def hmTreePlaces763 : List HE := hTreePlaces762 :: hmTreePlaces762
theorem hmTreePlaces763_ok : ∀ x ∈ hmTreePlaces763, HOk Try.prog x := hmemo_cons hTreePlaces762_ok hmTreePlaces762_ok
def hTreePlaces763 : HE := ⟨32, [(.agg [(eI 3),(.lit (.int .i64 (Int.negSucc 0))),(.lit (.slice none 0 0))]),(eI 1),(eI 1),(eI 3)], [], [((.val eB0), [])]⟩
theorem hTreePlaces763_ok : HOk Try.prog hTreePlaces763 := hok_eq mmTreePlaces_ok hmTreePlaces763_ok folTreePlaces (lf := 100000) (k := 1000) (by kernel_rfl)
def hmTreePlaces764 : List HE := hTreePlaces763 :: hmTreePlaces763
theorem hmTreePlaces764_ok : ∀ x ∈ hmTreePlaces764, HOk Try.prog x := hmemo_cons hTreePlaces763_ok hmTreePlaces763_ok
def hTreePlaces764 : HE := ⟨32, [(.agg [(eI 101),(eI 3),(.sl 0 0 0 1 none 3)]),(eI 1),(eI 1),(eI 3)], [btreePlaces10], [((.val eB0), [])]⟩
theorem hTreePlaces764_ok : HOk Try.prog hTreePlaces764 := hok_eq mmTreePlaces_ok hmTreePlaces764_ok folTreePlaces (lf := 100000) (k := 1000) (by kernel_rfl)
def hmTreePlaces765 : List HE := hTreePlaces764 :: hmTreePlaces764
theorem hmTreePlaces765_ok : ∀ x ∈ hmTreePlaces765, HOk Try.prog x := hmemo_cons hTreePlaces764_ok hmTreePlaces764_ok
def hTreePlaces765 : HE := ⟨32, [(.agg [(eI 1),(.lit (.int .i64 (Int.negSucc 0))),(.lit (.slice none 0 0))]),(eI 1),(eI 1),(eI 2)], [], [((.val eB0), [])]⟩
theorem hTreePlaces765_ok : HOk Try.prog hTreePlaces765 := hok_eq mmTreePlaces_ok hmTreePlaces765_ok folTreePlaces (lf := 100000) (k := 1000) (by kernel_rfl)
def hmTreePlaces766 : List HE := hTreePlaces765 :: hmTreePlaces765
theorem hmTreePlaces766_ok : ∀ x ∈ hmTreePlaces766, HOk Try.prog x := hmemo_cons hTreePlaces765_ok hmTreePlaces765_ok
def hTreePlaces766 : HE := ⟨32, [(.agg [(eI 100),(.lit (.int .i64 (Int.negSucc 0))),(.lit (.slice none 0 0))]),(eI 1),(eI 1),(eI 1)], [], [((.val eB0), [])]⟩
theorem hTreePlaces766_ok : HOk Try.prog hTreePlaces766 := hok_eq mmTreePlaces_ok hmTreePlaces766_ok folTreePlaces (lf := 100000) (k := 1000) (by kernel_rfl)
def hmTreePlaces767 : List HE := hTreePlaces766 :: hmTreePlaces766
theorem hmTreePlaces767_ok : ∀ x ∈ hmTreePlaces767, HOk Try.prog x := hmemo_cons hTreePlaces766_ok hmTreePlaces766_ok
def hTreePlaces767 : HE := ⟨32, [(.agg [(eI 100),(eI 0),(.sl 0 2 0 3 none 3)]),(eI 1),(eI 1),(eI 3)], [btreePlaces13, btreePlaces10], [((.val eB0), [])]⟩
theorem hTreePlaces767_ok : HOk Try.prog hTreePlaces767 := hok_eq mmTreePlaces_ok hmTreePlaces767_ok folTreePlaces (lf := 100000) (k := 1000) (by kernel_rfl)
def hmTreePlaces768 : List HE := hTreePlaces767 :: hmTreePlaces767
theorem hmTreePlaces768_ok : ∀ x ∈ hmTreePlaces768, HOk Try.prog x := hmemo_cons hTreePlaces767_ok hmTreePlaces767_ok
def hTreePlaces768 : HE := ⟨32, [(.agg [(eI 100),(eI 0),(.sl 0 2 0 3 none 3)]),(eI 1),(eI 1),(eI 4)], [btreePlaces15, btreePlaces16, btreePlaces10], [((.val eB0), [])]⟩
theorem hTreePlaces768_ok : HOk Try.prog hTreePlaces768 := hok_eq mmTreePlaces_ok hmTreePlaces768_ok folTreePlaces (lf := 100000) (k := 1000) (by kernel_rfl)
def hmTreePlaces769 : List HE := hTreePlaces768 :: hmTreePlaces768
theorem hmTreePlaces769_ok : ∀ x ∈ hmTreePlaces769, HOk Try.prog x := hmemo_cons hTreePlaces768_ok hmTreePlaces768_ok
def hTreePlaces769 : HE := ⟨32, [(.agg [(eI 101),(eI 2),(.lit (.slice none 0 0))]),(eI 1),(eI 1),(eI 3)], [], [((.val eB0), [])]⟩
theorem hTreePlaces769_ok : HOk Try.prog hTreePlaces769 := hok_eq mmTreePlaces_ok hmTreePlaces769_ok folTreePlaces (lf := 100000) (k := 1000) (by kernel_rfl)
def hmTreePlaces770 : List HE := hTreePlaces769 :: hmTreePlaces769
theorem hmTreePlaces770_ok : ∀ x ∈ hmTreePlaces770, HOk Try.prog x := hmemo_cons hTreePlaces769_ok hmTreePlaces769_ok
def hTreePlaces770 : HE := ⟨32, [(.agg [(eI 1),(.lit (.int .i64 (Int.negSucc 0))),(.lit (.slice none 0 0))]),(eI 1),(eI 1),(eI 3)], [], [((.val eB0), [])]⟩
theorem hTreePlaces770_ok : HOk Try.prog hTreePlaces770 := hok_eq mmTreePlaces_ok hmTreePlaces770_ok folTreePlaces (lf := 100000) (k := 1000) (by kernel_rfl)
def hmTreePlaces771 : List HE := hTreePlaces770 :: hmTreePlaces770
theorem hmTreePlaces771_ok : ∀ x ∈ hmTreePlaces771, HOk Try.prog x := hmemo_cons hTreePlaces770_ok hmTreePlaces770_ok
def hTreePlaces771 : HE := ⟨32, [(.agg [(eI 3),(.lit (.int .i64 (Int.negSucc 0))),(.lit (.slice none 0 0))]),(eI 1),(eI 1),(eI 2)], [], [((.val eB0), [])]⟩
theorem hTreePlaces771_ok : HOk Try.prog hTreePlaces771 := hok_eq mmTreePlaces_ok hmTreePlaces771_ok folTreePlaces (lf := 100000) (k := 1000) (by kernel_rfl)
def hmTreePlaces772 : List HE := hTreePlaces771 :: hmTreePlaces771
theorem hmTreePlaces772_ok : ∀ x ∈ hmTreePlaces772, HOk Try.prog x := hmemo_cons hTreePlaces771_ok hmTreePlaces771_ok
def hTreePlaces772 : HE := ⟨32, [(.agg [(eI 101),(eI 3),(.sl 0 0 0 1 none 3)]),(eI 1),(eI 1),(eI 2)], [btreePlaces10], [((.val eB0), [])]⟩
theorem hTreePlaces772_ok : HOk Try.prog hTreePlaces772 := hok_eq mmTreePlaces_ok hmTreePlaces772_ok folTreePlaces (lf := 100000) (k := 1000) (by kernel_rfl)
def hmTreePlaces773 : List HE := hTreePlaces772 :: hmTreePlaces772
theorem hmTreePlaces773_ok : ∀ x ∈ hmTreePlaces773, HOk Try.prog x := hmemo_cons hTreePlaces772_ok hmTreePlaces772_ok
def hTreePlaces773 : HE := ⟨32, [(.agg [(eI 1),(.lit (.int .i64 (Int.negSucc 0))),(.lit (.slice none 0 0))]),(eI 1),(eI 1),(eI 1)], [], [((.val eB0), [])]⟩
theorem hTreePlaces773_ok : HOk Try.prog hTreePlaces773 := hok_eq mmTreePlaces_ok hmTreePlaces773_ok folTreePlaces (lf := 100000) (k := 1000) (by kernel_rfl)
def hmTreePlaces774 : List HE := hTreePlaces773 :: hmTreePlaces773
theorem hmTreePlaces774_ok : ∀ x ∈ hmTreePlaces774, HOk Try.prog x := hmemo_cons hTreePlaces773_ok hmTreePlaces773_ok
def hTreePlaces774 : HE := ⟨32, [(.agg [(eI 100),(.lit (.int .i64 (Int.negSucc 0))),(.lit (.slice none 0 0))]),(eI 1),(eI 1),(eI 0)], [], [((.val eB0), [])]⟩
theorem hTreePlaces774_ok : HOk Try.prog hTreePlaces774 := hok_eq mmTreePlaces_ok hmTreePlaces774_ok folTreePlaces (lf := 100000) (k := 1000) (by kernel_rfl)
def hmTreePlaces775 : List HE := hTreePlaces774 :: hmTreePlaces774
theorem hmTreePlaces775_ok : ∀ x ∈ hmTreePlaces775, HOk Try.prog x := hmemo_cons hTreePlaces774_ok hmTreePlaces774_ok
def hTreePlaces775 : HE := ⟨32, [(.agg [(eI 100),(eI 0),(.sl 0 2 0 3 none 3)]),(eI 1),(eI 1),(eI 2)], [btreePlaces13, btreePlaces10], [((.val eB0), [])]⟩
theorem hTreePlaces775_ok : HOk Try.prog hTreePlaces775 := hok_eq mmTreePlaces_ok hmTreePlaces775_ok folTreePlaces (lf := 100000) (k := 1000) (by kernel_rfl)
def hmTreePlaces776 : List HE := hTreePlaces775 :: hmTreePlaces775
theorem hmTreePlaces776_ok : ∀ x ∈ hmTreePlaces776, HOk Try.prog x := hmemo_cons hTreePlaces775_ok hmTreePlaces775_ok
def hTreePlaces776 : HE := ⟨32, [(.agg [(eI 100),(eI 0),(.sl 0 2 0 3 none 3)]),(eI 1),(eI 1),(eI 3)], [btreePlaces15, btreePlaces16, btreePlaces10], [((.val eB0), [])]⟩
theorem hTreePlaces776_ok : HOk Try.prog hTreePlaces776 := hok_eq mmTreePlaces_ok hmTreePlaces776_ok folTreePlaces (lf := 100000) (k := 1000) (by kernel_rfl)
def hmTreePlaces777 : List HE := hTreePlaces776 :: hmTreePlaces776
theorem hmTreePlaces777_ok : ∀ x ∈ hmTreePlaces777, HOk Try.prog x := hmemo_cons hTreePlaces776_ok hmTreePlaces776_ok
def hTreePlaces777 : HE := ⟨32, [(.agg [(eI 101),(eI 2),(.lit (.slice none 0 0))]),(eI 1),(eI 1),(eI 2)], [], [((.val eB0), [])]⟩
theorem hTreePlaces777_ok : HOk Try.prog hTreePlaces777 := hok_eq mmTreePlaces_ok hmTreePlaces777_ok folTreePlaces (lf := 100000) (k := 1000) (by kernel_rfl)
def hmTreePlaces778 : List HE := hTreePlaces777 :: hmTreePlaces777
theorem hmTreePlaces778_ok : ∀ x ∈ hmTreePlaces778, HOk Try.prog x := hmemo_cons hTreePlaces777_ok hmTreePlaces777_ok
def hTreePlaces778 : HE := ⟨32, [(.agg [(eI 3),(.lit (.int .i64 (Int.negSucc 0))),(.lit (.slice none 0 0))]),(eI 1),(eI 1),(eI 1)], [], [((.val eB0), [])]⟩
theorem hTreePlaces778_ok : HOk Try.prog hTreePlaces778 := hok_eq mmTreePlaces_ok hmTreePlaces778_ok folTreePlaces (lf := 100000) (k := 1000) (by kernel_rfl)
def hmTreePlaces779 : List HE := hTreePlaces778 :: hmTreePlaces778
theorem hmTreePlaces779_ok : ∀ x ∈ hmTreePlaces779, HOk Try.prog x := hmemo_cons hTreePlaces778_ok hmTreePlaces778_ok
def hTreePlaces779 : HE := ⟨32, [(.agg [(eI 101),(eI 3),(.sl 0 0 0 1 none 3)]),(eI 1),(eI 1),(eI 1)], [btreePlaces10], [((.val eB0), [])]⟩
theorem hTreePlaces779_ok : HOk Try.prog hTreePlaces779 := hok_eq mmTreePlaces_ok hmTreePlaces779_ok folTreePlaces (lf := 100000) (k := 1000) (by kernel_rfl)
def hmTreePlaces780 : List HE := hTreePlaces779 :: hmTreePlaces779
theorem hmTreePlaces780_ok : ∀ x ∈ hmTreePlaces780, HOk Try.prog x := hmemo_cons hTreePlaces779_ok hmTreePlaces779_ok
def hTreePlaces780 : HE := ⟨32, [(.agg [(eI 1),(.lit (.int .i64 (Int.negSucc 0))),(.lit (.slice none 0 0))]),(eI 1),(eI 1),(eI 0)], [], [((.val eB0), [])]⟩
theorem hTreePlaces780_ok : HOk Try.prog hTreePlaces780 := hok_eq mmTreePlaces_ok hmTreePlaces780_ok folTreePlaces (lf := 100000) (k := 1000) (by kernel_rfl)
def hmTreePlaces781 : List HE := hTreePlaces780 :: hmTreePlaces780
theorem hmTreePlaces781_ok : ∀ x ∈ hmTreePlaces781, HOk Try.prog x := hmemo_cons hTreePlaces780_ok hmTreePlaces780_ok
def hTreePlaces781 : HE := ⟨32, [(.agg [(eI 100),(.lit (.int .i64 (Int.negSucc 0))),(.lit (.slice none 0 0))]),(eI 1),(eI 1),(.lit (.int .i64 (Int.negSucc 0)))], [], [((.val eB0), [])]⟩
theorem hTreePlaces781_ok : HOk Try.prog hTreePlaces781 := hok_eq mmTreePlaces_ok hmTreePlaces781_ok folTreePlaces (lf := 100000) (k := 1000) (by kernel_rfl)
def hmTreePlaces782 : List HE := hTreePlaces781 :: hmTreePlaces781
theorem hmTreePlaces782_ok : ∀ x ∈ hmTreePlaces782, HOk Try.prog x := hmemo_cons hTreePlaces781_ok hmTreePlaces781_ok
def hTreePlaces782 : HE := ⟨32, [(.agg [(eI 100),(eI 0),(.sl 0 2 0 3 none 3)]),(eI 1),(eI 1),(eI 1)], [btreePlaces13, btreePlaces10], [((.val eB0), [])]⟩
theorem hTreePlaces782_ok : HOk Try.prog hTreePlaces782 := hok_eq mmTreePlaces_ok hmTreePlaces782_ok folTreePlaces (lf := 100000) (k := 1000) (by kernel_rfl)
def hmTreePlaces783 : List HE := hTreePlaces782 :: hmTreePlaces782
theorem hmTreePlaces783_ok : ∀ x ∈ hmTreePlaces783, HOk Try.prog x := hmemo_cons hTreePlaces782_ok hmTreePlaces782_ok
def hTreePlaces783 : HE := ⟨32, [(.agg [(eI 100),(eI 0),(.sl 0 2 0 3 none 3)]),(eI 1),(eI 1),(eI 2)], [btreePlaces15, btreePlaces16, btreePlaces10], [((.val eB0), [])]⟩
theorem hTreePlaces783_ok : HOk Try.prog hTreePlaces783 := hok_eq mmTreePlaces_ok hmTreePlaces783_ok folTreePlaces (lf := 100000) (k := 1000) (by kernel_rfl)
def hmTreePlaces784 : List HE := hTreePlaces783 :: hmTreePlaces783
theorem hmTreePlaces784_ok : ∀ x ∈ hmTreePlaces784, HOk Try.prog x := hmemo_cons hTreePlaces783_ok hmTreePlaces783_ok
def hTreePlaces784 : HE := ⟨32, [(.agg [(eI 101),(eI 2),(.lit (.slice none 0 0))]),(eI 1),(eI 1),(eI 1)], [], [((.val eB0), [])]⟩
theorem hTreePlaces784_ok : HOk Try.prog hTreePlaces784 := hok_eq mmTreePlaces_ok hmTreePlaces784_ok folTreePlaces (lf := 100000) (k := 1000) (by kernel_rfl)
def hmTreePlaces785 : List HE := hTreePlaces784 :: hmTreePlaces784
theorem hmTreePlaces785_ok : ∀ x ∈ hmTreePlaces785, HOk Try.prog x := hmemo_cons hTreePlaces784_ok hmTreePlaces784_ok
def hTreePlaces785 : HE := ⟨32, [(.agg [(eI 3),(.lit (.int .i64 (Int.negSucc 0))),(.lit (.slice none 0 0))]),(eI 1),(eI 1),(eI 0)], [], [((.val eB0), [])]⟩
theorem hTreePlaces785_ok : HOk Try.prog hTreePlaces785 := hok_eq mmTreePlaces_ok hmTreePlaces785_ok folTreePlaces (lf := 100000) (k := 1000) (by kernel_rfl)
def hmTreePlaces786 : List HE := hTreePlaces785 :: hmTreePlaces785
theorem hmTreePlaces786_ok : ∀ x ∈ hmTreePlaces786, HOk Try.prog x := hmemo_cons hTreePlaces785_ok hmTreePlaces785_ok
def hTreePlaces786 : HE := ⟨32, [(.agg [(eI 101),(eI 3),(.sl 0 0 0 1 none 3)]),(eI 1),(eI 1),(eI 0)], [btreePlaces10], [((.val eB0), [])]⟩
theorem hTreePlaces786_ok : HOk Try.prog hTreePlaces786 := hok_eq mmTreePlaces_ok hmTreePlaces786_ok folTreePlaces (lf := 100000) (k := 1000) (by kernel_rfl)
def hmTreePlaces787 : List HE := hTreePlaces786 :: hmTreePlaces786
theorem hmTreePlaces787_ok : ∀ x ∈ hmTreePlaces787, HOk Try.prog x := hmemo_cons hTreePlaces786_ok hmTreePlaces786_ok
def hTreePlaces787 : HE := ⟨32, [(.agg [(eI 1),(.lit (.int .i64 (Int.negSucc 0))),(.lit (.slice none 0 0))]),(eI 1),(eI 1),(.lit (.int .i64 (Int.negSucc 0)))], [], [((.val eB0), [])]⟩
theorem hTreePlaces787_ok : HOk Try.prog hTreePlaces787 := hok_eq mmTreePlaces_ok hmTreePlaces787_ok folTreePlaces (lf := 100000) (k := 1000) (by kernel_rfl)
def hmTreePlaces788 : List HE := hTreePlaces787 :: hmTreePlaces787
theorem hmTreePlaces788_ok : ∀ x ∈ hmTreePlaces788, HOk Try.prog x := hmemo_cons hTreePlaces787_ok hmTreePlaces787_ok
def hTreePlaces788 : HE := ⟨32, [(.agg [(eI 100),(.lit (.int .i64 (Int.negSucc 0))),(.lit (.slice none 0 0))]),(eI 1),(eI 1),(.lit (.int .i64 (Int.negSucc 1)))], [], [((.val eB0), [])]⟩
theorem hTreePlaces788_ok : HOk Try.prog hTreePlaces788 := hok_eq mmTreePlaces_ok hmTreePlaces788_ok folTreePlaces (lf := 100000) (k := 1000) (by kernel_rfl)
def hmTreePlaces789 : List HE := hTreePlaces788 :: hmTreePlaces788
theorem hmTreePlaces789_ok : ∀ x ∈ hmTreePlaces789, HOk Try.prog x := hmemo_cons hTreePlaces788_ok hmTreePlaces788_ok
def hTreePlaces789 : HE := ⟨32, [(.agg [(eI 100),(eI 0),(.sl 0 2 0 3 none 3)]),(eI 1),(eI 1),(eI 0)], [btreePlaces13, btreePlaces10], [((.val eB0), [])]⟩
theorem hTreePlaces789_ok : HOk Try.prog hTreePlaces789 := hok_eq mmTreePlaces_ok hmTreePlaces789_ok folTreePlaces (lf := 100000) (k := 1000) (by kernel_rfl)
def hmTreePlaces790 : List HE := hTreePlaces789 :: hmTreePlaces789
theorem hmTreePlaces790_ok : ∀ x ∈ hmTreePlaces790, HOk Try.prog x := hmemo_cons hTreePlaces789_ok hmTreePlaces789_ok
def hTreePlaces790 : HE := ⟨32, [(.agg [(eI 100),(eI 0),(.sl 0 2 0 3 none 3)]),(eI 1),(eI 1),(eI 1)], [btreePlaces15, btreePlaces16, btreePlaces10], [((.val eB0), [])]⟩
theorem hTreePlaces790_ok : HOk Try.prog hTreePlaces790 := hok_eq mmTreePlaces_ok hmTreePlaces790_ok folTreePlaces (lf := 100000) (k := 1000) (by kernel_rfl)
def hmTreePlaces791 : List HE := hTreePlaces790 :: hmTreePlaces790
theorem hmTreePlaces791_ok : ∀ x ∈ hmTreePlaces791, HOk Try.prog x := hmemo_cons hTreePlaces790_ok hmTreePlaces790_ok
def hTreePlaces791 : HE := ⟨32, [(.agg [(eI 101),(eI 2),(.lit (.slice none 0 0))]),(eI 1),(eI 1),(eI 0)], [], [((.val eB0), [])]⟩
theorem hTreePlaces791_ok : HOk Try.prog hTreePlaces791 := hok_eq mmTreePlaces_ok hmTreePlaces791_ok folTreePlaces (lf := 100000) (k := 1000) (by kernel_rfl)
def hmTreePlaces792 : List HE := hTreePlaces791 :: hmTreePlaces791
theorem hmTreePlaces792_ok : ∀ x ∈ hmTreePlaces792, HOk Try.prog x := hmemo_cons hTreePlaces791_ok hmTreePlaces791_ok
def hTreePlaces792 : HE := ⟨32, [(.agg [(eI 100),(eI 0),(.sl 0 2 0 3 none 3)]),(eI 1),(eI 1),(.lit (.int .i64 (Int.negSucc 0)))], [btreePlaces13, btreePlaces10], [((.val eB0), [])]⟩
theorem hTreePlaces792_ok : HOk Try.prog hTreePlaces792 := hok_eq mmTreePlaces_ok hmTreePlaces792_ok folTreePlaces (lf := 100000) (k := 1000) (by kernel_rfl)
def hmTreePlaces793 : List HE := hTreePlaces792 :: hmTreePlaces792
theorem hmTreePlaces793_ok : ∀ x ∈ hmTreePlaces793, HOk Try.prog x := hmemo_cons hTreePlaces792_ok hmTreePlaces792_ok
def hTreePlaces793 : HE := ⟨32, [(.agg [(eI 100),(eI 0),(.sl 0 2 0 3 none 3)]),(eI 1),(eI 1),(eI 0)], [btreePlaces15, btreePlaces16, btreePlaces10], [((.val eB0), [])]⟩
theorem hTreePlaces793_ok : HOk Try.prog hTreePlaces793 := hok_eq mmTreePlaces_ok hmTreePlaces793_ok folTreePlaces (lf := 100000) (k := 1000) (by kernel_rfl)
def hmTreePlaces794 : List HE := hTreePlaces793 :: hmTreePlaces793
theorem hmTreePlaces794_ok : ∀ x ∈ hmTreePlaces794, HOk Try.prog x := hmemo_cons hTreePlaces793_ok hmTreePlaces793_ok
def hTreePlaces794 : HE := ⟨32, [(.agg [(eI 100),(eI 0),(.sl 0 2 0 3 none 3)]),(eI 1),(eI 1),(.lit (.int .i64 (Int.negSucc 0)))], [btreePlaces15, btreePlaces16, btreePlaces10], [((.val eB0), [])]⟩
theorem hTreePlaces794_ok : HOk Try.prog hTreePlaces794 := hok_eq mmTreePlaces_ok hmTreePlaces794_ok folTreePlaces (lf := 100000) (k := 1000) (by kernel_rfl)
def hmTreePlaces795 : List HE := hTreePlaces794 :: hmTreePlaces794
theorem hmTreePlaces795_ok : ∀ x ∈ hmTreePlaces795, HOk Try.prog x := hmemo_cons hTreePlaces794_ok hmTreePlaces794_ok
def hTreePlaces795 : HE := ⟨32, [(.agg [(eI 101),(eI 2),(.lit (.slice none 0 0))]),(eI 1),(eI 0),(eI 4)], [], [((.val eB0), [])]⟩
theorem hTreePlaces795_ok : HOk Try.prog hTreePlaces795 := hok_eq mmTreePlaces_ok hmTreePlaces795_ok folTreePlaces (lf := 100000) (k := 1000) (by kernel_rfl)
def hmTreePlaces796 : List HE := hTreePlaces795 :: hmTreePlaces795
theorem hmTreePlaces796_ok : ∀ x ∈ hmTreePlaces796, HOk Try.prog x := hmemo_cons hTreePlaces795_ok hmTreePlaces795_ok
def hTreePlaces796 : HE := ⟨32, [(.agg [(eI 1),(.lit (.int .i64 (Int.negSucc 0))),(.lit (.slice none 0 0))]),(eI 1),(eI 0),(eI 4)], [], [((.val eB0), [])]⟩
theorem hTreePlaces796_ok : HOk Try.prog hTreePlaces796 := hok_eq mmTreePlaces_ok hmTreePlaces796_ok folTreePlaces (lf := 100000) (k := 1000) (by kernel_rfl)
def hmTreePlaces797 : List HE := hTreePlaces796 :: hmTreePlaces796
theorem hmTreePlaces797_ok : ∀ x ∈ hmTreePlaces797, HOk Try.prog x := hmemo_cons hTreePlaces796_ok hmTreePlaces796_ok
def hTreePlaces797 : HE := ⟨32, [(.agg [(eI 3),(.lit (.int .i64 (Int.negSucc 0))),(.lit (.slice none 0 0))]),(eI 1),(eI 0),(eI 3)], [], [((.val eB0), [])]⟩
theorem hTreePlaces797_ok : HOk Try.prog hTreePlaces797 := hok_eq mmTreePlaces_ok hmTreePlaces797_ok folTreePlaces (lf := 100000) (k := 1000) (by kernel_rfl)
def hmTreePlaces798 : List HE := hTreePlaces797 :: hmTreePlaces797
theorem hmTreePlaces798_ok : ∀ x ∈ hmTreePlaces798, HOk Try.prog x := hmemo_cons hTreePlaces797_ok hmTreePlaces797_ok
def hTreePlaces798 : HE := ⟨32, [(.agg [(eI 101),(eI 3),(.sl 0 0 0 1 none 3)]),(eI 1),(eI 0),(eI 3)], [btreePlaces10], [((.val eB0), [])]⟩
theorem hTreePlaces798_ok : HOk Try.prog hTreePlaces798 := hok_eq mmTreePlaces_ok hmTreePlaces798_ok folTreePlaces (lf := 100000) (k := 1000) (by kernel_rfl)
def hmTreePlaces799 : List HE := hTreePlaces798 :: hmTreePlaces798
theorem hmTreePlaces799_ok : ∀ x ∈ hmTreePlaces799, HOk Try.prog x := hmemo_cons hTreePlaces798_ok hmTreePlaces798_ok
def hTreePlaces799 : HE := ⟨32, [(.agg [(eI 1),(.lit (.int .i64 (Int.negSucc 0))),(.lit (.slice none 0 0))]),(eI 1),(eI 0),(eI 2)], [], [((.val eB0), [])]⟩
theorem hTreePlaces799_ok : HOk Try.prog hTreePlaces799 := hok_eq mmTreePlaces_ok hmTreePlaces799_ok folTreePlaces (lf := 100000) (k := 1000) (by kernel_rfl)
def hmTreePlaces800 : List HE := hTreePlaces799 :: hmTreePlaces799
theorem hmTreePlaces800_ok : ∀ x ∈ hmTreePlaces800, HOk Try.prog x := hmemo_cons hTreePlaces799_ok hmTreePlaces799_ok
def hTreePlaces800 : HE := ⟨32, [(.agg [(eI 100),(.lit (.int .i64 (Int.negSucc 0))),(.lit (.slice none 0 0))]),(eI 1),(eI 0),(eI 1)], [], [((.val eB0), [])]⟩
theorem hTreePlaces800_ok : HOk Try.prog hTreePlaces800 := hok_eq mmTreePlaces_ok hmTreePlaces800_ok folTreePlaces (lf := 100000) (k := 1000) (by kernel_rfl)
def hmTreePlaces801 : List HE := hTreePlaces800 :: hmTreePlaces800
theorem hmTreePlaces801_ok : ∀ x ∈ hmTreePlaces801, HOk Try.prog x := hmemo_cons hTreePlaces800_ok hmTreePlaces800_ok
def hTreePlaces801 : HE := ⟨32, [(.agg [(eI 100),(eI 0),(.sl 0 2 0 3 none 3)]),(eI 1),(eI 0),(eI 3)], [btreePlaces13, btreePlaces10], [((.val eB0), [])]⟩
theorem hTreePlaces801_ok : HOk Try.prog hTreePlaces801 := hok_eq mmTreePlaces_ok hmTreePlaces801_ok folTreePlaces (lf := 100000) (k := 1000) (by kernel_rfl)
def hmTreePlaces802 : List HE := hTreePlaces801 :: hmTreePlaces801
theorem hmTreePlaces802_ok : ∀ x ∈ hmTreePlaces802, HOk Try.prog x := hmemo_cons hTreePlaces801_ok hmTreePlaces801_ok
def hTreePlaces802 : HE := ⟨32, [(.agg [(eI 100),(eI 0),(.sl 0 2 0 3 none 3)]),(eI 1),(eI 0),(eI 4)], [btreePlaces15, btreePlaces16, btreePlaces10], [((.val eB0), [])]⟩
theorem hTreePlaces802_ok : HOk Try.prog hTreePlaces802 := hok_eq mmTreePlaces_ok hmTreePlaces802_ok folTreePlaces (lf := 100000) (k := 1000) (by kernel_rfl)
def hmTreePlaces803 : List HE := hTreePlaces802 :: hmTreePlaces802
theorem hmTreePlaces803_ok : ∀ x ∈ hmTreePlaces803, HOk Try.prog x := hmemo_cons hTreePlaces802_ok hmTreePlaces802_ok
def hTreePlaces803 : HE := ⟨32, [(.agg [(eI 101),(eI 2),(.lit (.slice none 0 0))]),(eI 1),(eI 0),(eI 3)], [], [((.val eB0), [])]⟩
theorem hTreePlaces803_ok : HOk Try.prog hTreePlaces803 := hok_eq mmTreePlaces_ok hmTreePlaces803_ok folTreePlaces (lf := 100000) (k := 1000) (by kernel_rfl)
def hmTreePlaces804 : List HE := hTreePlaces803 :: hmTreePlaces803
theorem hmTreePlaces804_ok : ∀ x ∈ hmTreePlaces804, HOk Try.prog x := hmemo_cons hTreePlaces803_ok hmTreePlaces803_ok
def hTreePlaces804 : HE := ⟨32, [(.agg [(eI 1),(.lit (.int .i64 (Int.negSucc 0))),(.lit (.slice none 0 0))]),(eI 1),(eI 0),(eI 3)], [], [((.val eB0), [])]⟩
theorem hTreePlaces804_ok : HOk Try.prog hTreePlaces804 := hok_eq mmTreePlaces_ok hmTreePlaces804_ok folTreePlaces (lf := 100000) (k := 1000) (by kernel_rfl)
def hmTreePlaces805 : List HE := hTreePlaces804 :: hmTreePlaces804
theorem hmTreePlaces805_ok : ∀ x ∈ hmTreePlaces805, HOk Try.prog x := hmemo_cons hTreePlaces804_ok hmTreePlaces804_ok
def hTreePlaces805 : HE := ⟨32, [(.agg [(eI 3),(.lit (.int .i64 (Int.negSucc 0))),(.lit (.slice none 0 0))]),(eI 1),(eI 0),(eI 2)], [], [((.val eB0), [])]⟩
theorem hTreePlaces805_ok : HOk Try.prog hTreePlaces805 := hok_eq mmTreePlaces_ok hmTreePlaces805_ok folTreePlaces (lf := 100000) (k := 1000) (by kernel_rfl)
def hmTreePlaces806 : List HE := hTreePlaces805 :: hmTreePlaces805
theorem hmTreePlaces806_ok : ∀ x ∈ hmTreePlaces806, HOk Try.prog x := hmemo_cons hTreePlaces805_ok hmTreePlaces805_ok
def hTreePlaces806 : HE := ⟨32, [(.agg [(eI 101),(eI 3),(.sl 0 0 0 1 none 3)]),(eI 1),(eI 0),(eI 2)], [btreePlaces10], [((.val eB0), [])]⟩
theorem hTreePlaces806_ok : HOk Try.prog hTreePlaces806 := hok_eq mmTreePlaces_ok hmTreePlaces806_ok folTreePlaces (lf := 100000) (k := 1000) (by kernel_rfl)
def hmTreePlaces807 : List HE := hTreePlaces806 :: hmTreePlaces806
theorem hmTreePlaces807_ok : ∀ x ∈ hmTreePlaces807, HOk Try.prog x := hmemo_cons hTreePlaces806_ok hmTreePlaces806_ok
def hTreePlaces807 : HE := ⟨32, [(.agg [(eI 1),(.lit (.int .i64 (Int.negSucc 0))),(.lit (.slice none 0 0))]),(eI 1),(eI 0),(eI 1)], [], [((.val eB0), [])]⟩
theorem hTreePlaces807_ok : HOk Try.prog hTreePlaces807 := hok_eq mmTreePlaces_ok hmTreePlaces807_ok folTreePlaces (lf := 100000) (k := 1000) (by kernel_rfl)
def hmTreePlaces808 : List HE := hTreePlaces807 :: hmTreePlaces807
theorem hmTreePlaces808_ok : ∀ x ∈ hmTreePlaces808, HOk Try.prog x := hmemo_cons hTreePlaces807_ok hmTreePlaces807_ok
def hTreePlaces808 : HE := ⟨32, [(.agg [(eI 100),(.lit (.int .i64 (Int.negSucc 0))),(.lit (.slice none 0 0))]),(eI 1),(eI 0),(eI 0)], [], [((.val eB0), [])]⟩
theorem hTreePlaces808_ok : HOk Try.prog hTreePlaces808 := hok_eq mmTreePlaces_ok hmTreePlaces808_ok folTreePlaces (lf := 100000) (k := 1000) (by kernel_rfl)
def hmTreePlaces809 : List HE := hTreePlaces808 :: hmTreePlaces808
theorem hmTreePlaces809_ok : ∀ x ∈ hmTreePlaces809, HOk Try.prog x := hmemo_cons hTreePlaces808_ok hmTreePlaces808_ok
def hTreePlaces809 : HE := ⟨32, [(.agg [(eI 100),(eI 0),(.sl 0 2 0 3 none 3)]),(eI 1),(eI 0),(eI 2)], [btreePlaces13, btreePlaces10], [((.val eB0), [])]⟩
theorem hTreePlaces809_ok : HOk Try.prog hTreePlaces809 := hok_eq mmTreePlaces_ok hmTreePlaces809_ok folTreePlaces (lf := 100000) (k := 1000) (by kernel_rfl)
def hmTreePlaces810 : List HE := hTreePlaces809 :: hmTreePlaces809
theorem hmTreePlaces810_ok : ∀ x ∈ hmTreePlaces810, HOk Try.prog x := hmemo_cons hTreePlaces809_ok hmTreePlaces809_ok
def hTreePlaces810 : HE := ⟨32, [(.agg [(eI 100),(eI 0),(.sl 0 2 0 3 none 3)]),(eI 1),(eI 0),(eI 3)], [btreePlaces15, btreePlaces16, btreePlaces10], [((.val eB0), [])]⟩
theorem hTreePlaces810_ok : HOk Try.prog hTreePlaces810 := hok_eq mmTreePlaces_ok hmTreePlaces810_ok folTreePlaces (lf := 100000) (k := 1000) (by kernel_rfl)
def hmTreePlaces811 : List HE := hTreePlaces810 :: hmTreePlaces810
theorem hmTreePlaces811_ok : ∀ x ∈ hmTreePlaces811, HOk Try.prog x := hmemo_cons hTreePlaces810_ok hmTreePlaces810_ok
def hTreePlaces811 : HE := ⟨32, [(.agg [(eI 101),(eI 2),(.lit (.slice none 0 0))]),(eI 1),(eI 0),(eI 2)], [], [((.val eB0), [])]⟩
theorem hTreePlaces811_ok : HOk Try.prog hTreePlaces811 := hok_eq mmTreePlaces_ok hmTreePlaces811_ok folTreePlaces (lf := 100000) (k := 1000) (by kernel_rfl)
def hmTreePlaces812 : List HE := hTreePlaces811 :: hmTreePlaces811
theorem hmTreePlaces812_ok : ∀ x ∈ hmTreePlaces812, HOk Try.prog x := hmemo_cons hTreePlaces811_ok hmTreePlaces811_ok
def hTreePlaces812 : HE := ⟨32, [(.agg [(eI 3),(.lit (.int .i64 (Int.negSucc 0))),(.lit (.slice none 0 0))]),(eI 1),(eI 0),(eI 1)], [], [((.val eB0), [])]⟩
theorem hTreePlaces812_ok : HOk Try.prog hTreePlaces812 := hok_eq mmTreePlaces_ok hmTreePlaces812_ok folTreePlaces (lf := 100000) (k := 1000) (by kernel_rfl)
def hmTreePlaces813 : List HE := hTreePlaces812 :: hmTreePlaces812
theorem hmTreePlaces813_ok : ∀ x ∈ hmTreePlaces813, HOk Try.prog x := hmemo_cons hTreePlaces812_ok hmTreePlaces812_ok
def hTreePlaces813 : HE := ⟨32, [(.agg [(eI 101),(eI 3),(.sl 0 0 0 1 none 3)]),(eI 1),(eI 0),(eI 1)], [btreePlaces10], [((.val eB0), [])]⟩
theorem hTreePlaces813_ok : HOk Try.prog hTreePlaces813 := hok_eq mmTreePlaces_ok hmTreePlaces813_ok folTreePlaces (lf := 100000) (k := 1000) (by kernel_rfl)
def hmTreePlaces814 : List HE := hTreePlaces813 :: hmTreePlaces813
theorem hmTreePlaces814_ok : ∀ x ∈ hmTreePlaces814, HOk Try.prog x := hmemo_cons hTreePlaces813_ok hmTreePlaces813_ok
def hTreePlaces814 : HE := ⟨32, [(.agg [(eI 1),(.lit (.int .i64 (Int.negSucc 0))),(.lit (.slice none 0 0))]),(eI 1),(eI 0),(eI 0)], [], [((.val eB0), [])]⟩
theorem hTreePlaces814_ok : HOk Try.prog hTreePlaces814 := hok_eq mmTreePlaces_ok hmTreePlaces814_ok folTreePlaces (lf := 100000) (k := 1000) (by kernel_rfl)
def hmTreePlaces815 : List HE := hTreePlaces814 :: hmTreePlaces814
theorem hmTreePlaces815_ok : ∀ x ∈ hmTreePlaces815, HOk Try.prog x := hmemo_cons hTreePlaces814_ok hmTreePlaces814_ok
def hTreePlaces815 : HE := ⟨32, [(.agg [(eI 100),(.lit (.int .i64 (Int.negSucc 0))),(.lit (.slice none 0 0))]),(eI 1),(eI 0),(.lit (.int .i64 (Int.negSucc 0)))], [], [((.val eB0), [])]⟩
theorem hTreePlaces815_ok : HOk Try.prog hTreePlaces815 := hok_eq mmTreePlaces_ok hmTreePlaces815_ok folTreePlaces (lf := 100000) (k := 1000) (by kernel_rfl)
def hmTreePlaces816 : List HE := hTreePlaces815 :: hmTreePlaces815
theorem hmTreePlaces816_ok : ∀ x ∈ hmTreePlaces816, HOk Try.prog x := hmemo_cons hTreePlaces815_ok hmTreePlaces815_ok
def hTreePlaces816 : HE := ⟨32, [(.agg [(eI 100),(eI 0),(.sl 0 2 0 3 none 3)]),(eI 1),(eI 0),(eI 1)], [btreePlaces13, btreePlaces10], [((.val eB0), [])]⟩
theorem hTreePlaces816_ok : HOk Try.prog hTreePlaces816 := hok_eq mmTreePlaces_ok hmTreePlaces816_ok folTreePlaces (lf := 100000) (k := 1000) (by kernel_rfl)
def hmTreePlaces817 : List HE := hTreePlaces816 :: hmTreePlaces816
theorem hmTreePlaces817_ok : ∀ x ∈ hmTreePlaces817, HOk Try.prog x := hmemo_cons hTreePlaces816_ok hmTreePlaces816_ok
def hTreePlaces817 : HE := ⟨32, [(.agg [(eI 100),(eI 0),(.sl 0 2 0 3 none 3)]),(eI 1),(eI 0),(eI 2)], [btreePlaces15, btreePlaces16, btreePlaces10], [((.val eB0), [])]⟩
theorem hTreePlaces817_ok : HOk Try.prog hTreePlaces817 := hok_eq mmTreePlaces_ok hmTreePlaces817_ok folTreePlaces (lf := 100000) (k := 1000) (by kernel_rfl)
def hmTreePlaces818 : List HE := hTreePlaces817 :: hmTreePlaces817
theorem hmTreePlaces818_ok : ∀ x ∈ hmTreePlaces818, HOk Try.prog x := hmemo_cons hTreePlaces817_ok hmTreePlaces817_ok
def hTreePlaces818 : HE := ⟨32, [(.agg [(eI 101),(eI 2),(.lit (.slice none 0 0))]),(eI 1),(eI 0),(eI 1)], [], [((.val eB0), [])]⟩
theorem hTreePlaces818_ok : HOk Try.prog hTreePlaces818 := hok_eq mmTreePlaces_ok hmTreePlaces818_ok folTreePlaces (lf := 100000) (k := 1000) (by kernel_rfl)
def hmTreePlaces819 : List HE := hTreePlaces818 :: hmTreePlaces818
theorem hmTreePlaces819_ok : ∀ x ∈ hmTreePlaces819, HOk Try.prog x := hmemo_cons hTreePlaces818_ok hmTreePlaces818_ok
def hTreePlaces819 : HE := ⟨32, [(.agg [(eI 3),(.lit (.int .i64 (Int.negSucc 0))),(.lit (.slice none 0 0))]),(eI 1),(eI 0),(eI 0)], [], [((.val eB0), [])]⟩
theorem hTreePlaces819_ok : HOk Try.prog hTreePlaces819 := hok_eq mmTreePlaces_ok hmTreePlaces819_ok folTreePlaces (lf := 100000) (k := 1000) (by kernel_rfl)
def hmTreePlaces820 : List HE := hTreePlaces819 :: hmTreePlaces819
theorem hmTreePlaces820_ok : ∀ x ∈ hmTreePlaces820, HOk Try.prog x := hmemo_cons hTreePlaces819_ok hmTreePlaces819_ok
def hTreePlaces820 : HE := ⟨32, [(.agg [(eI 101),(eI 3),(.sl 0 0 0 1 none 3)]),(eI 1),(eI 0),(eI 0)], [btreePlaces10], [((.val eB0), [])]⟩
theorem hTreePlaces820_ok : HOk Try.prog hTreePlaces820 := hok_eq mmTreePlaces_ok hmTreePlaces820_ok folTreePlaces (lf := 100000) (k := 1000) (by kernel_rfl)
def hmTreePlaces821 : List HE := hTreePlaces820 :: hmTreePlaces820
theorem hmTreePlaces821_ok : ∀ x ∈ hmTreePlaces821, HOk Try.prog x := hmemo_cons hTreePlaces820_ok hmTreePlaces820_ok
def hTreePlaces821 : HE := ⟨32, [(.agg [(eI 1),(.lit (.int .i64 (Int.negSucc 0))),(.lit (.slice none 0 0))]),(eI 1),(eI 0),(.lit (.int .i64 (Int.negSucc 0)))], [], [((.val eB0), [])]⟩
theorem hTreePlaces821_ok : HOk Try.prog hTreePlaces821 := hok_eq mmTreePlaces_ok hmTreePlaces821_ok folTreePlaces (lf := 100000) (k := 1000) (by kernel_rfl)
def hmTreePlaces822 : List HE := hTreePlaces821 :: hmTreePlaces821
theorem hmTreePlaces822_ok : ∀ x ∈ hmTreePlaces822, HOk Try.prog x := hmemo_cons hTreePlaces821_ok hmTreePlaces821_ok
def hTreePlaces822 : HE := ⟨32, [(.agg [(eI 100),(.lit (.int .i64 (Int.negSucc 0))),(.lit (.slice none 0 0))]),(eI 1),(eI 0),(.lit (.int .i64 (Int.negSucc 1)))], [], [((.val eB0), [])]⟩
theorem hTreePlaces822_ok : HOk Try.prog hTreePlaces822 := hok_eq mmTreePlaces_ok hmTreePlaces822_ok folTreePlaces (lf := 100000) (k := 1000) (by kernel_rfl)
def hmTreePlaces823 : List HE := hTreePlaces822 :: hmTreePlaces822
theorem hmTreePlaces823_ok : ∀ x ∈ hmTreePlaces823, HOk Try.prog x := hmemo_cons hTreePlaces822_ok hmTreePlaces822_ok
def hTreePlaces823 : HE := ⟨32, [(.agg [(eI 100),(eI 0),(.sl 0 2 0 3 none 3)]),(eI 1),(eI 0),(eI 0)], [btreePlaces13, btreePlaces10], [((.val eB0), [])]⟩
theorem hTreePlaces823_ok : HOk Try.prog hTreePlaces823 := hok_eq mmTreePlaces_ok hmTreePlaces823_ok folTreePlaces (lf := 100000) (k := 1000) (by kernel_rfl)
def hmTreePlaces824 : List HE := hTreePlaces823 :: hmTreePlaces823
theorem hmTreePlaces824_ok : ∀ x ∈ hmTreePlaces824, HOk Try.prog x := hmemo_cons hTreePlaces823_ok hmTreePlaces823_ok
def hTreePlaces824 : HE := ⟨32, [(.agg [(eI 100),(eI 0),(.sl 0 2 0 3 none 3)]),(eI 1),(eI 0),(eI 1)], [btreePlaces15, btreePlaces16, btreePlaces10], [((.val eB0), [])]⟩
theorem hTreePlaces824_ok : HOk Try.prog hTreePlaces824 := hok_eq mmTreePlaces_ok hmTreePlaces824_ok folTreePlaces (lf := 100000) (k := 1000) (by kernel_rfl)
def hmTreePlaces825 : List HE := hTreePlaces824 :: hmTreePlaces824
theorem hmTreePlaces825_ok : ∀ x ∈ hmTreePlaces825, HOk Try.prog x := hmemo_cons hTreePlaces824_ok hmTreePlaces824_ok
def hTreePlaces825 : HE := ⟨32, [(.agg [(eI 101),(eI 2),(.lit (.slice none 0 0))]),(eI 1),(eI 0),(eI 0)], [], [((.val eB0), [])]⟩
theorem hTreePlaces825_ok : HOk Try.prog hTreePlaces825 := hok_eq mmTreePlaces_ok hmTreePlaces825_ok folTreePlaces (lf := 100000) (k := 1000) (by kernel_rfl)
def hmTreePlaces826 : List HE := hTreePlaces825 :: hmTreePlaces825
theorem hmTreePlaces826_ok : ∀ x ∈ hmTreePlaces826, HOk Try.prog x := hmemo_cons hTreePlaces825_ok hmTreePlaces825_ok
def hTreePlaces826 : HE := ⟨32, [(.agg [(eI 100),(eI 0),(.sl 0 2 0 3 none 3)]),(eI 1),(eI 0),(.lit (.int .i64 (Int.negSucc 0)))], [btreePlaces13, btreePlaces10], [((.val eB0), [])]⟩
theorem hTreePlaces826_ok : HOk Try.prog hTreePlaces826 := hok_eq mmTreePlaces_ok hmTreePlaces826_ok folTreePlaces (lf := 100000) (k := 1000) (by kernel_rfl)
def hmTreePlaces827 : List HE := hTreePlaces826 :: hmTreePlaces826
theorem hmTreePlaces827_ok : ∀ x ∈ hmTreePlaces827, HOk Try.prog x := hmemo_cons hTreePlaces826_ok hmTreePlaces826_ok
def hTreePlaces827 : HE := ⟨32, [(.agg [(eI 100),(eI 0),(.sl 0 2 0 3 none 3)]),(eI 1),(eI 0),(eI 0)], [btreePlaces15, btreePlaces16, btreePlaces10], [((.val eB0), [])]⟩
theorem hTreePlaces827_ok : HOk Try.prog hTreePlaces827 := hok_eq mmTreePlaces_ok hmTreePlaces827_ok folTreePlaces (lf := 100000) (k := 1000) (by kernel_rfl)
def hmTreePlaces828 : List HE := hTreePlaces827 :: hmTreePlaces827
theorem hmTreePlaces828_ok : ∀ x ∈ hmTreePlaces828, HOk Try.prog x := hmemo_cons hTreePlaces827_ok hmTreePlaces827_ok
def hTreePlaces828 : HE := ⟨32, [(.agg [(eI 100),(eI 0),(.sl 0 2 0 3 none 3)]),(eI 1),(eI 0),(.lit (.int .i64 (Int.negSucc 0)))], [btreePlaces15, btreePlaces16, btreePlaces10], [((.val eB0), [])]⟩
theorem hTreePlaces828_ok : HOk Try.prog hTreePlaces828 := hok_eq mmTreePlaces_ok hmTreePlaces828_ok folTreePlaces (lf := 100000) (k := 1000) (by kernel_rfl)
def hmTreePlaces829 : List HE := hTreePlaces828 :: hmTreePlaces828
theorem hmTreePlaces829_ok : ∀ x ∈ hmTreePlaces829, HOk Try.prog x := hmemo_cons hTreePlaces828_ok hmTreePlaces828_ok
def hTreePlaces829 : HE := ⟨32, [(.agg [(eI 101),(eI 2),(.lit (.slice none 0 0))]),(eI 1),(.lit (.int .i64 (Int.negSucc 0))),(eI 4)], [], [((.val eB0), [])]⟩
theorem hTreePlaces829_ok : HOk Try.prog hTreePlaces829 := hok_eq mmTreePlaces_ok hmTreePlaces829_ok folTreePlaces (lf := 100000) (k := 1000) (by kernel_rfl)
def hmTreePlaces830 : List HE := hTreePlaces829 :: hmTreePlaces829
theorem hmTreePlaces830_ok : ∀ x ∈ hmTreePlaces830, HOk Try.prog x := hmemo_cons hTreePlaces829_ok hmTreePlaces829_ok
def hTreePlaces830 : HE := ⟨32, [(.agg [(eI 1),(.lit (.int .i64 (Int.negSucc 0))),(.lit (.slice none 0 0))]),(eI 1),(.lit (.int .i64 (Int.negSucc 0))),(eI 4)], [], [((.val eB0), [])]⟩
theorem hTreePlaces830_ok : HOk Try.prog hTreePlaces830 := hok_eq mmTreePlaces_ok hmTreePlaces830_ok folTreePlaces (lf := 100000) (k := 1000) (by kernel_rfl)
def hmTreePlaces831 : List HE := hTreePlaces830 :: hmTreePlaces830
theorem hmTreePlaces831_ok : ∀ x ∈ hmTreePlaces831, HOk Try.prog x := hmemo_cons hTreePlaces830_ok hmTreePlaces830_ok
def hTreePlaces831 : HE := ⟨32, [(.agg [(eI 3),(.lit (.int .i64 (Int.negSucc 0))),(.lit (.slice none 0 0))]),(eI 1),(.lit (.int .i64 (Int.negSucc 0))),(eI 3)], [], [((.val eB0), [])]⟩
theorem hTreePlaces831_ok : HOk Try.prog hTreePlaces831 := hok_eq mmTreePlaces_ok hmTreePlaces831_ok folTreePlaces (lf := 100000) (k := 1000) (by kernel_rfl)
def hmTreePlaces832 : List HE := hTreePlaces831 :: hmTreePlaces831
theorem hmTreePlaces832_ok : ∀ x ∈ hmTreePlaces832, HOk Try.prog x := hmemo_cons hTreePlaces831_ok hmTreePlaces831_ok
def hTreePlaces832 : HE := ⟨32, [(.agg [(eI 101),(eI 3),(.sl 0 0 0 1 none 3)]),(eI 1),(.lit (.int .i64 (Int.negSucc 0))),(eI 3)], [btreePlaces10], [((.val eB0), [])]⟩
theorem hTreePlaces832_ok : HOk Try.prog hTreePlaces832 := hok_eq mmTreePlaces_ok hmTreePlaces832_ok folTreePlaces (lf := 100000) (k := 1000) (by kernel_rfl)
def hmTreePlaces833 : List HE := hTreePlaces832 :: hmTreePlaces832
theorem hmTreePlaces833_ok : ∀ x ∈ hmTreePlaces833, HOk Try.prog x := hmemo_cons hTreePlaces832_ok hmTreePlaces832_ok
def hTreePlaces833 : HE := ⟨32, [(.agg [(eI 1),(.lit (.int .i64 (Int.negSucc 0))),(.lit (.slice none 0 0))]),(eI 1),(.lit (.int .i64 (Int.negSucc 0))),(eI 2)], [], [((.val eB0), [])]⟩
theorem hTreePlaces833_ok : HOk Try.prog hTreePlaces833 := hok_eq mmTreePlaces_ok hmTreePlaces833_ok folTreePlaces (lf := 100000) (k := 1000) (by kernel_rfl)
def hmTreePlaces834 : List HE := hTreePlaces833 :: hmTreePlaces833
theorem hmTreePlaces834_ok : ∀ x ∈ hmTreePlaces834, HOk Try.prog x := hmemo_cons hTreePlaces833_ok hmTreePlaces833_ok
def hTreePlaces834 : HE := ⟨32, [(.agg [(eI 100),(.lit (.int .i64 (Int.negSucc 0))),(.lit (.slice none 0 0))]),(eI 1),(.lit (.int .i64 (Int.negSucc 0))),(eI 1)], [], [((.val eB0), [])]⟩
theorem hTreePlaces834_ok : HOk Try.prog hTreePlaces834 := hok_eq mmTreePlaces_ok hmTreePlaces834_ok folTreePlaces (lf := 100000) (k := 1000) (by kernel_rfl)
def hmTreePlaces835 : List HE := hTreePlaces834 :: hmTreePlaces834
theorem hmTreePlaces835_ok : ∀ x ∈ hmTreePlaces835, HOk Try.prog x := hmemo_cons hTreePlaces834_ok hmTreePlaces834_ok
def hTreePlaces835 : HE := ⟨32, [(.agg [(eI 100),(eI 0),(.sl 0 2 0 3 none 3)]),(eI 1),(.lit (.int .i64 (Int.negSucc 0))),(eI 3)], [btreePlaces13, btreePlaces10], [((.val eB0), [])]⟩
theorem hTreePlaces835_ok : HOk Try.prog hTreePlaces835 := hok_eq mmTreePlaces_ok hmTreePlaces835_ok folTreePlaces (lf := 100000) (k := 1000) (by kernel_rfl)
def hmTreePlaces836 : List HE := hTreePlaces835 :: hmTreePlaces835
theorem hmTreePlaces836_ok : ∀ x ∈ hmTreePlaces836, HOk Try.prog x := hmemo_cons hTreePlaces835_ok hmTreePlaces835_ok
def hTreePlaces836 : HE := ⟨32, [(.agg [(eI 100),(eI 0),(.sl 0 2 0 3 none 3)]),(eI 1),(.lit (.int .i64 (Int.negSucc 0))),(eI 4)], [btreePlaces15, btreePlaces16, btreePlaces10], [((.val eB0), [])]⟩
theorem hTreePlaces836_ok : HOk Try.prog hTreePlaces836 := hok_eq mmTreePlaces_ok hmTreePlaces836_ok folTreePlaces (lf := 100000) (k := 1000) (by kernel_rfl)
def hmTreePlaces837 : List HE := hTreePlaces836 :: hmTreePlaces836
theorem hmTreePlaces837_ok : ∀ x ∈ hmTreePlaces837, HOk Try.prog x := hmemo_cons hTreePlaces836_ok hmTreePlaces836_ok
def hTreePlaces837 : HE := ⟨32, [(.agg [(eI 101),(eI 2),(.lit (.slice none 0 0))]),(eI 1),(.lit (.int .i64 (Int.negSucc 0))),(eI 3)], [], [((.val eB0), [])]⟩
theorem hTreePlaces837_ok : HOk Try.prog hTreePlaces837 := hok_eq mmTreePlaces_ok hmTreePlaces837_ok folTreePlaces (lf := 100000) (k := 1000) (by kernel_rfl)
def hmTreePlaces838 : List HE := hTreePlaces837 :: hmTreePlaces837
theorem hmTreePlaces838_ok : ∀ x ∈ hmTreePlaces838, HOk Try.prog x := hmemo_cons hTreePlaces837_ok hmTreePlaces837_ok
def hTreePlaces838 : HE := ⟨32, [(.agg [(eI 1),(.lit (.int .i64 (Int.negSucc 0))),(.lit (.slice none 0 0))]),(eI 1),(.lit (.int .i64 (Int.negSucc 0))),(eI 3)], [], [((.val eB0), [])]⟩
theorem hTreePlaces838_ok : HOk Try.prog hTreePlaces838 := hok_eq mmTreePlaces_ok hmTreePlaces838_ok folTreePlaces (lf := 100000) (k := 1000) (by kernel_rfl)
def hmTreePlaces839 : List HE := hTreePlaces838 :: hmTreePlaces838
theorem hmTreePlaces839_ok : ∀ x ∈ hmTreePlaces839, HOk Try.prog x := hmemo_cons hTreePlaces838_ok hmTreePlaces838_ok
def hTreePlaces839 : HE := ⟨32, [(.agg [(eI 3),(.lit (.int .i64 (Int.negSucc 0))),(.lit (.slice none 0 0))]),(eI 1),(.lit (.int .i64 (Int.negSucc 0))),(eI 2)], [], [((.val eB0), [])]⟩
theorem hTreePlaces839_ok : HOk Try.prog hTreePlaces839 := hok_eq mmTreePlaces_ok hmTreePlaces839_ok folTreePlaces (lf := 100000) (k := 1000) (by kernel_rfl)
def hmTreePlaces840 : List HE := hTreePlaces839 :: hmTreePlaces839
theorem hmTreePlaces840_ok : ∀ x ∈ hmTreePlaces840, HOk Try.prog x := hmemo_cons hTreePlaces839_ok hmTreePlaces839_ok
def hTreePlaces840 : HE := ⟨32, [(.agg [(eI 101),(eI 3),(.sl 0 0 0 1 none 3)]),(eI 1),(.lit (.int .i64 (Int.negSucc 0))),(eI 2)], [btreePlaces10], [((.val eB0), [])]⟩
theorem hTreePlaces840_ok : HOk Try.prog hTreePlaces840 := hok_eq mmTreePlaces_ok hmTreePlaces840_ok folTreePlaces (lf := 100000) (k := 1000) (by kernel_rfl)
def hmTreePlaces841 : List HE := hTreePlaces840 :: hmTreePlaces840
theorem hmTreePlaces841_ok : ∀ x ∈ hmTreePlaces841, HOk Try.prog x := hmemo_cons hTreePlaces840_ok hmTreePlaces840_ok
def hTreePlaces841 : HE := ⟨32, [(.agg [(eI 1),(.lit (.int .i64 (Int.negSucc 0))),(.lit (.slice none 0 0))]),(eI 1),(.lit (.int .i64 (Int.negSucc 0))),(eI 1)], [], [((.val eB0), [])]⟩
theorem hTreePlaces841_ok : HOk Try.prog hTreePlaces841 := hok_eq mmTreePlaces_ok hmTreePlaces841_ok folTreePlaces (lf := 100000) (k := 1000) (by kernel_rfl)
def hmTreePlaces842 : List HE := hTreePlaces841 :: hmTreePlaces841
theorem hmTreePlaces842_ok : ∀ x ∈ hmTreePlaces842, HOk Try.prog x := hmemo_cons hTreePlaces841_ok hmTreePlaces841_ok
def hTreePlaces842 : HE := ⟨32, [(.agg [(eI 100),(.lit (.int .i64 (Int.negSucc 0))),(.lit (.slice none 0 0))]),(eI 1),(.lit (.int .i64 (Int.negSucc 0))),(eI 0)], [], [((.val eB0), [])]⟩
theorem hTreePlaces842_ok : HOk Try.prog hTreePlaces842 := hok_eq mmTreePlaces_ok hmTreePlaces842_ok folTreePlaces (lf := 100000) (k := 1000) (by kernel_rfl)
def hmTreePlaces843 : List HE := hTreePlaces842 :: hmTreePlaces842
theorem hmTreePlaces843_ok : ∀ x ∈ hmTreePlaces843, HOk Try.prog x := hmemo_cons hTreePlaces842_ok hmTreePlaces842_ok
def hTreePlaces843 : HE := ⟨32, [(.agg [(eI 100),(eI 0),(.sl 0 2 0 3 none 3)]),(eI 1),(.lit (.int .i64 (Int.negSucc 0))),(eI 2)], [btreePlaces13, btreePlaces10], [((.val eB0), [])]⟩
theorem hTreePlaces843_ok : HOk Try.prog hTreePlaces843 := hok_eq mmTreePlaces_ok hmTreePlaces843_ok folTreePlaces (lf := 100000) (k := 1000) (by kernel_rfl)
def hmTreePlaces844 : List HE := hTreePlaces843 :: hmTreePlaces843
theorem hmTreePlaces844_ok : ∀ x ∈ hmTreePlaces844, HOk Try.prog x := hmemo_cons hTreePlaces843_ok hmTreePlaces843_ok
def hTreePlaces844 : HE := ⟨32, [(.agg [(eI 100),(eI 0),(.sl 0 2 0 3 none 3)]),(eI 1),(.lit (.int .i64 (Int.negSucc 0))),(eI 3)], [btreePlaces15, btreePlaces16, btreePlaces10], [((.val eB0), [])]⟩
theorem hTreePlaces844_ok : HOk Try.prog hTreePlaces844 := hok_eq mmTreePlaces_ok hmTreePlaces844_ok folTreePlaces (lf := 100000) (k := 1000) (by kernel_rfl)
def hmTreePlaces845 : List HE := hTreePlaces844 :: hmTreePlaces844
theorem hmTreePlaces845_ok : ∀ x ∈ hmTreePlaces845, HOk Try.prog x := hmemo_cons hTreePlaces844_ok hmTreePlaces844_ok
def hTreePlaces845 : HE := ⟨32, [(.agg [(eI 101),(eI 2),(.lit (.slice none 0 0))]),(eI 1),(.lit (.int .i64 (Int.negSucc 0))),(eI 2)], [], [((.val eB0), [])]⟩
theorem hTreePlaces845_ok : HOk Try.prog hTreePlaces845 := hok_eq mmTreePlaces_ok hmTreePlaces845_ok folTreePlaces (lf := 100000) (k := 1000) (by kernel_rfl)
def hmTreePlaces846 : List HE := hTreePlaces845 :: hmTreePlaces845
theorem hmTreePlaces846_ok : ∀ x ∈ hmTreePlaces846, HOk Try.prog x := hmemo_cons hTreePlaces845_ok hmTreePlaces845_ok
def hTreePlaces846 : HE := ⟨32, [(.agg [(eI 3),(.lit (.int .i64 (Int.negSucc 0))),(.lit (.slice none 0 0))]),(eI 1),(.lit (.int .i64 (Int.negSucc 0))),(eI 1)], [], [((.val eB0), [])]⟩
theorem hTreePlaces846_ok : HOk Try.prog hTreePlaces846 := hok_eq mmTreePlaces_ok hmTreePlaces846_ok folTreePlaces (lf := 100000) (k := 1000) (by kernel_rfl)
def hmTreePlaces847 : List HE := hTreePlaces846 :: hmTreePlaces846
theorem hmTreePlaces847_ok : ∀ x ∈ hmTreePlaces847, HOk Try.prog x := hmemo_cons hTreePlaces846_ok hmTreePlaces846_ok
def hTreePlaces847 : HE := ⟨32, [(.agg [(eI 101),(eI 3),(.sl 0 0 0 1 none 3)]),(eI 1),(.lit (.int .i64 (Int.negSucc 0))),(eI 1)], [btreePlaces10], [((.val eB0), [])]⟩
theorem hTreePlaces847_ok : HOk Try.prog hTreePlaces847 := hok_eq mmTreePlaces_ok hmTreePlaces847_ok folTreePlaces (lf := 100000) (k := 1000) (by kernel_rfl)
def hmTreePlaces848 : List HE := hTreePlaces847 :: hmTreePlaces847
theorem hmTreePlaces848_ok : ∀ x ∈ hmTreePlaces848, HOk Try.prog x := hmemo_cons hTreePlaces847_ok hmTreePlaces847_ok
def hTreePlaces848 : HE := ⟨32, [(.agg [(eI 1),(.lit (.int .i64 (Int.negSucc 0))),(.lit (.slice none 0 0))]),(eI 1),(.lit (.int .i64 (Int.negSucc 0))),(eI 0)], [], [((.val eB0), [])]⟩
theorem hTreePlaces848_ok : HOk Try.prog hTreePlaces848 := hok_eq mmTreePlaces_ok hmTreePlaces848_ok folTreePlaces (lf := 100000) (k := 1000) (by kernel_rfl)
def hmTreePlaces849 : List HE := hTreePlaces848 :: hmTreePlaces848
theorem hmTreePlaces849_ok : ∀ x ∈ hmTreePlaces849, HOk Try.prog x := hmemo_cons hTreePlaces848_ok hmTreePlaces848_ok
def hTreePlaces849 : HE := ⟨32, [(.agg [(eI 100),(.lit (.int .i64 (Int.negSucc 0))),(.lit (.slice none 0 0))]),(eI 1),(.lit (.int .i64 (Int.negSucc 0))),(.lit (.int .i64 (Int.negSucc 0)))], [], [((.val eB0), [])]⟩
theorem hTreePlaces849_ok : HOk Try.prog hTreePlaces849 := hok_eq mmTreePlaces_ok hmTreePlaces849_ok folTreePlaces (lf := 100000) (k := 1000) (by kernel_rfl)
def hmTreePlaces850 : List HE := hTreePlaces849 :: hmTreePlaces849
theorem hmTreePlaces850_ok : ∀ x ∈ hmTreePlaces850, HOk Try.prog x := hmemo_cons hTreePlaces849_ok hmTreePlaces849_ok
def hTreePlaces850 : HE := ⟨32, [(.agg [(eI 100),(eI 0),(.sl 0 2 0 3 none 3)]),(eI 1),(.lit (.int .i64 (Int.negSucc 0))),(eI 1)], [btreePlaces13, btreePlaces10], [((.val eB0), [])]⟩
theorem hTreePlaces850_ok : HOk Try.prog hTreePlaces850 := hok_eq mmTreePlaces_ok hmTreePlaces850_ok folTreePlaces (lf := 100000) (k := 1000) (by kernel_rfl)
def hmTreePlaces851 : List HE := hTreePlaces850 :: hmTreePlaces850
theorem hmTreePlaces851_ok : ∀ x ∈ hmTreePlaces851, HOk Try.prog x := hmemo_cons hTreePlaces850_ok hmTreePlaces850_ok
def hTreePlaces851 : HE := ⟨32, [(.agg [(eI 100),(eI 0),(.sl 0 2 0 3 none 3)]),(eI 1),(.lit (.int .i64 (Int.negSucc 0))),(eI 2)], [btreePlaces15, btreePlaces16, btreePlaces10], [((.val eB0), [])]⟩
theorem hTreePlaces851_ok : HOk Try.prog hTreePlaces851 := hok_eq mmTreePlaces_ok hmTreePlaces851_ok folTreePlaces (lf := 100000) (k := 1000) (by kernel_rfl)
def hmTreePlaces852 : List HE := hTreePlaces851 :: hmTreePlaces851
theorem hmTreePlaces852_ok : ∀ x ∈ hmTreePlaces852, HOk Try.prog x := hmemo_cons hTreePlaces851_ok hmTreePlaces851_ok
def hTreePlaces852 : HE := ⟨32, [(.agg [(eI 101),(eI 2),(.lit (.slice none 0 0))]),(eI 1),(.lit (.int .i64 (Int.negSucc 0))),(eI 1)], [], [((.val eB0), [])]⟩
theorem hTreePlaces852_ok : HOk Try.prog hTreePlaces852 := hok_eq mmTreePlaces_ok hmTreePlaces852_ok folTreePlaces (lf := 100000) (k := 1000) (by kernel_rfl)
def hmTreePlaces853 : List HE := hTreePlaces852 :: hmTreePlaces852
theorem hmTreePlaces853_ok : ∀ x ∈ hmTreePlaces853, HOk Try.prog x := hmemo_cons hTreePlaces852_ok hmTreePlaces852_ok
def hTreePlaces853 : HE := ⟨32, [(.agg [(eI 3),(.lit (.int .i64 (Int.negSucc 0))),(.lit (.slice none 0 0))]),(eI 1),(.lit (.int .i64 (Int.negSucc 0))),(eI 0)], [], [((.val eB0), [])]⟩
theorem hTreePlaces853_ok : HOk Try.prog hTreePlaces853 := hok_eq mmTreePlaces_ok hmTreePlaces853_ok folTreePlaces (lf := 100000) (k := 1000) (by kernel_rfl)
def hmTreePlaces854 : List HE := hTreePlaces853 :: hmTreePlaces853
theorem hmTreePlaces854_ok : ∀ x ∈ hmTreePlaces854, HOk Try.prog x := hmemo_cons hTreePlaces853_ok hmTreePlaces853_ok
def hTreePlaces854 : HE := ⟨32, [(.agg [(eI 101),(eI 3),(.sl 0 0 0 1 none 3)]),(eI 1),(.lit (.int .i64 (Int.negSucc 0))),(eI 0)], [btreePlaces10], [((.val eB0), [])]⟩
theorem hTreePlaces854_ok : HOk Try.prog hTreePlaces854 := hok_eq mmTreePlaces_ok hmTreePlaces854_ok folTreePlaces (lf := 100000) (k := 1000) (by kernel_rfl)
def hmTreePlaces855 : List HE := hTreePlaces854 :: hmTreePlaces854
theorem hmTreePlaces855_ok : ∀ x ∈ hmTreePlaces855, HOk Try.prog x := hmemo_cons hTreePlaces854_ok hmTreePlaces854_ok
def hTreePlaces855 : HE := ⟨32, [(.agg [(eI 1),(.lit (.int .i64 (Int.negSucc 0))),(.lit (.slice none 0 0))]),(eI 1),(.lit (.int .i64 (Int.negSucc 0))),(.lit (.int .i64 (Int.negSucc 0)))], [], [((.val eB0), [])]⟩
theorem hTreePlaces855_ok : HOk Try.prog hTreePlaces855 := hok_eq mmTreePlaces_ok hmTreePlaces855_ok folTreePlaces (lf := 100000) (k := 1000) (by kernel_rfl)
def hmTreePlaces856 : List HE := hTreePlaces855 :: hmTreePlaces855
theorem hmTreePlaces856_ok : ∀ x ∈ hmTreePlaces856, HOk Try.prog x := hmemo_cons hTreePlaces855_ok hmTreePlaces855_ok
def hTreePlaces856 : HE := ⟨32, [(.agg [(eI 100),(.lit (.int .i64 (Int.negSucc 0))),(.lit (.slice none 0 0))]),(eI 1),(.lit (.int .i64 (Int.negSucc 0))),(.lit (.int .i64 (Int.negSucc 1)))], [], [((.val eB0), [])]⟩
theorem hTreePlaces856_ok : HOk Try.prog hTreePlaces856 := hok_eq mmTreePlaces_ok hmTreePlaces856_ok folTreePlaces (lf := 100000) (k := 1000) (by kernel_rfl)
def hmTreePlaces857 : List HE := hTreePlaces856 :: hmTreePlaces856
theorem hmTreePlaces857_ok : ∀ x ∈ hmTreePlaces857, HOk Try.prog x := hmemo_cons hTreePlaces856_ok hmTreePlaces856_ok
def hTreePlaces857 : HE := ⟨32, [(.agg [(eI 100),(eI 0),(.sl 0 2 0 3 none 3)]),(eI 1),(.lit (.int .i64 (Int.negSucc 0))),(eI 0)], [btreePlaces13, btreePlaces10], [((.val eB0), [])]⟩
theorem hTreePlaces857_ok : HOk Try.prog hTreePlaces857 := hok_eq mmTreePlaces_ok hmTreePlaces857_ok folTreePlaces (lf := 100000) (k := 1000) (by kernel_rfl)
def hmTreePlaces858 : List HE := hTreePlaces857 :: hmTreePlaces857
theorem hmTreePlaces858_ok : ∀ x ∈ hmTreePlaces858, HOk Try.prog x := hmemo_cons hTreePlaces857_ok hmTreePlaces857_ok
def hTreePlaces858 : HE := ⟨32, [(.agg [(eI 100),(eI 0),(.sl 0 2 0 3 none 3)]),(eI 1),(.lit (.int .i64 (Int.negSucc 0))),(eI 1)], [btreePlaces15, btreePlaces16, btreePlaces10], [((.val eB0), [])]⟩
theorem hTreePlaces858_ok : HOk Try.prog hTreePlaces858 := hok_eq mmTreePlaces_ok hmTreePlaces858_ok folTreePlaces (lf := 100000) (k := 1000) (by kernel_rfl)
def hmTreePlaces859 : List HE := hTreePlaces858 :: hmTreePlaces858
theorem hmTreePlaces859_ok : ∀ x ∈ hmTreePlaces859, HOk Try.prog x := hmemo_cons hTreePlaces858_ok hmTreePlaces858_ok
def hTreePlaces859 : HE := ⟨32, [(.agg [(eI 101),(eI 2),(.lit (.slice none 0 0))]),(eI 1),(.lit (.int .i64 (Int.negSucc 0))),(eI 0)], [], [((.val eB0), [])]⟩
theorem hTreePlaces859_ok : HOk Try.prog hTreePlaces859 := hok_eq mmTreePlaces_ok hmTreePlaces859_ok folTreePlaces (lf := 100000) (k := 1000) (by kernel_rfl)
def hmTreePlaces860 : List HE := hTreePlaces859 :: hmTreePlaces859
theorem hmTreePlaces860_ok : ∀ x ∈ hmTreePlaces860, HOk Try.prog x := hmemo_cons hTreePlaces859_ok hmTreePlaces859_ok
def hTreePlaces860 : HE := ⟨32, [(.agg [(eI 100),(eI 0),(.sl 0 2 0 3 none 3)]),(eI 1),(.lit (.int .i64 (Int.negSucc 0))),(.lit (.int .i64 (Int.negSucc 0)))], [btreePlaces13, btreePlaces10], [((.val eB0), [])]⟩
theorem hTreePlaces860_ok : HOk Try.prog hTreePlaces860 := hok_eq mmTreePlaces_ok hmTreePlaces860_ok folTreePlaces (lf := 100000) (k := 1000) (by kernel_rfl)
def hmTreePlaces861 : List HE := hTreePlaces860 :: hmTreePlaces860
theorem hmTreePlaces861_ok : ∀ x ∈ hmTreePlaces861, HOk Try.prog x := hmemo_cons hTreePlaces860_ok hmTreePlaces860_ok
def hTreePlaces861 : HE := ⟨32, [(.agg [(eI 100),(eI 0),(.sl 0 2 0 3 none 3)]),(eI 1),(.lit (.int .i64 (Int.negSucc 0))),(eI 0)], [btreePlaces15, btreePlaces16, btreePlaces10], [((.val eB0), [])]⟩
theorem hTreePlaces861_ok : HOk Try.prog hTreePlaces861 := hok_eq mmTreePlaces_ok hmTreePlaces861_ok folTreePlaces (lf := 100000) (k := 1000) (by kernel_rfl)
def hmTreePlaces862 : List HE := hTreePlaces861 :: hmTreePlaces861
theorem hmTreePlaces862_ok : ∀ x ∈ hmTreePlaces862, HOk Try.prog x := hmemo_cons hTreePlaces861_ok hmTreePlaces861_ok
def hTreePlaces862 : HE := ⟨32, [(.agg [(eI 100),(eI 0),(.sl 0 2 0 3 none 3)]),(eI 1),(.lit (.int .i64 (Int.negSucc 0))),(.lit (.int .i64 (Int.negSucc 0)))], [btreePlaces15, btreePlaces16, btreePlaces10], [((.val eB0), [])]⟩
theorem hTreePlaces862_ok : HOk Try.prog hTreePlaces862 := hok_eq mmTreePlaces_ok hmTreePlaces862_ok folTreePlaces (lf := 100000) (k := 1000) (by kernel_rfl)
def hmTreePlaces863 : List HE := hTreePlaces862 :: hmTreePlaces862
theorem hmTreePlaces863_ok : ∀ x ∈ hmTreePlaces863, HOk Try.prog x := hmemo_cons hTreePlaces862_ok hmTreePlaces862_ok
def hTreePlaces863 : HE := ⟨32, [(.agg [(eI 101),(eI 2),(.lit (.slice none 0 0))]),(eI 0),(eI 4),(eI 4)], [], [((.val eB0), [])]⟩
theorem hTreePlaces863_ok : HOk Try.prog hTreePlaces863 := hok_eq mmTreePlaces_ok hmTreePlaces863_ok folTreePlaces (lf := 100000) (k := 1000) (by kernel_rfl)
def hmTreePlaces864 : List HE := hTreePlaces863 :: hmTreePlaces863
theorem hmTreePlaces864_ok : ∀ x ∈ hmTreePlaces864, HOk Try.prog x := hmemo_cons hTreePlaces863_ok hmTreePlaces863_ok
def hTreePlaces864 : HE := ⟨32, [(.agg [(eI 1),(.lit (.int .i64 (Int.negSucc 0))),(.lit (.slice none 0 0))]),(eI 0),(eI 4),(eI 4)], [], [((.val eB0), [])]⟩
theorem hTreePlaces864_ok : HOk Try.prog hTreePlaces864 := hok_eq mmTreePlaces_ok hmTreePlaces864_ok folTreePlaces (lf := 100000) (k := 1000) (by kernel_rfl)
def hmTreePlaces865 : List HE := hTreePlaces864 :: hmTreePlaces864
theorem hmTreePlaces865_ok : ∀ x ∈ hmTreePlaces865, HOk Try.prog x := hmemo_cons hTreePlaces864_ok hmTreePlaces864_ok
def hTreePlaces865 : HE := ⟨32, [(.agg [(eI 3),(.lit (.int .i64 (Int.negSucc 0))),(.lit (.slice none 0 0))]),(eI 0),(eI 4),(eI 3)], [], [((.val eB0), [])]⟩
theorem hTreePlaces865_ok : HOk Try.prog hTreePlaces865 := hok_eq mmTreePlaces_ok hmTreePlaces865_ok folTreePlaces (lf := 100000) (k := 1000) (by kernel_rfl)
def hmTreePlaces866 : List HE := hTreePlaces865 :: hmTreePlaces865
theorem hmTreePlaces866_ok : ∀ x ∈ hmTreePlaces866, HOk Try.prog x := hmemo_cons hTreePlaces865_ok hmTreePlaces865_ok
def hTreePlaces866 : HE := ⟨32, [(.agg [(eI 101),(eI 3),(.sl 0 0 0 1 none 3)]),(eI 0),(eI 4),(eI 3)], [btreePlaces10], [((.val eB0), [])]⟩
theorem hTreePlaces866_ok : HOk Try.prog hTreePlaces866 := hok_eq mmTreePlaces_ok hmTreePlaces866_ok folTreePlaces (lf := 100000) (k := 1000) (by kernel_rfl)
def hmTreePlaces867 : List HE := hTreePlaces866 :: hmTreePlaces866
theorem hmTreePlaces867_ok : ∀ x ∈ hmTreePlaces867, HOk Try.prog x := hmemo_cons hTreePlaces866_ok hmTreePlaces866_ok
def hTreePlaces867 : HE := ⟨32, [(.agg [(eI 1),(.lit (.int .i64 (Int.negSucc 0))),(.lit (.slice none 0 0))]),(eI 0),(eI 4),(eI 2)], [], [((.val eB0), [])]⟩
theorem hTreePlaces867_ok : HOk Try.prog hTreePlaces867 := hok_eq mmTreePlaces_ok hmTreePlaces867_ok folTreePlaces (lf := 100000) (k := 1000) (by kernel_rfl)
def hmTreePlaces868 : List HE := hTreePlaces867 :: hmTreePlaces867
theorem hmTreePlaces868_ok : ∀ x ∈ hmTreePlaces868, HOk Try.prog x := hmemo_cons hTreePlaces867_ok hmTreePlaces867_ok
def hTreePlaces868 : HE := ⟨32, [(.agg [(eI 100),(.lit (.int .i64 (Int.negSucc 0))),(.lit (.slice none 0 0))]),(eI 0),(eI 4),(eI 1)], [], [((.val eB0), [])]⟩
theorem hTreePlaces868_ok : HOk Try.prog hTreePlaces868 := hok_eq mmTreePlaces_ok hmTreePlaces868_ok folTreePlaces (lf := 100000) (k := 1000) (by kernel_rfl)
def hmTreePlaces869 : List HE := hTreePlaces868 :: hmTreePlaces868
theorem hmTreePlaces869_ok : ∀ x ∈ hmTreePlaces869, HOk Try.prog x := hmemo_cons hTreePlaces868_ok hmTreePlaces868_ok
def hTreePlaces869 : HE := ⟨32, [(.agg [(eI 100),(eI 0),(.sl 0 2 0 3 none 3)]),(eI 0),(eI 4),(eI 3)], [btreePlaces13, btreePlaces10], [((.val eB0), [])]⟩
theorem hTreePlaces869_ok : HOk Try.prog hTreePlaces869 := hok_eq mmTreePlaces_ok hmTreePlaces869_ok folTreePlaces (lf := 100000) (k := 1000) (by kernel_rfl)
def hmTreePlaces870 : List HE := hTreePlaces869 :: hmTreePlaces869
theorem hmTreePlaces870_ok : ∀ x ∈ hmTreePlaces870, HOk Try.prog x := hmemo_cons hTreePlaces869_ok hmTreePlaces869_ok
def hTreePlaces870 : HE := ⟨32, [(.agg [(eI 100),(eI 0),(.sl 0 2 0 3 none 3)]),(eI 0),(eI 4),(eI 4)], [btreePlaces15, btreePlaces16, btreePlaces10], [((.val eB0), [])]⟩
theorem hTreePlaces870_ok : HOk Try.prog hTreePlaces870 := hok_eq mmTreePlaces_ok hmTreePlaces870_ok folTreePlaces (lf := 100000) (k := 1000) (by kernel_rfl)
def hmTreePlaces871 : List HE := hTreePlaces870 :: hmTreePlaces870
theorem hmTreePlaces871_ok : ∀ x ∈ hmTreePlaces871, HOk Try.prog x := hmemo_cons hTreePlaces870_ok hmTreePlaces870_ok
def hTreePlaces871 : HE := ⟨32, [(.agg [(eI 101),(eI 2),(.lit (.slice none 0 0))]),(eI 0),(eI 4),(eI 3)], [], [((.val eB0), [])]⟩
theorem hTreePlaces871_ok : HOk Try.prog hTreePlaces871 := hok_eq mmTreePlaces_ok hmTreePlaces871_ok folTreePlaces (lf := 100000) (k := 1000) (by kernel_rfl)
def hmTreePlaces872 : List HE := hTreePlaces871 :: hmTreePlaces871
theorem hmTreePlaces872_ok : ∀ x ∈ hmTreePlaces872, HOk Try.prog x := hmemo_cons hTreePlaces871_ok hmTreePlaces871_ok
def hTreePlaces872 : HE := ⟨32, [(.agg [(eI 1),(.lit (.int .i64 (Int.negSucc 0))),(.lit (.slice none 0 0))]),(eI 0),(eI 4),(eI 3)], [], [((.val eB0), [])]⟩
theorem hTreePlaces872_ok : HOk Try.prog hTreePlaces872 := hok_eq mmTreePlaces_ok hmTreePlaces872_ok folTreePlaces (lf := 100000) (k := 1000) (by kernel_rfl)
def hmTreePlaces873 : List HE := hTreePlaces872 :: hmTreePlaces872
theorem hmTreePlaces873_ok : ∀ x ∈ hmTreePlaces873, HOk Try.prog x := hmemo_cons hTreePlaces872_ok hmTreePlaces872_ok
def hTreePlaces873 : HE := ⟨32, [(.agg [(eI 3),(.lit (.int .i64 (Int.negSucc 0))),(.lit (.slice none 0 0))]),(eI 0),(eI 4),(eI 2)], [], [((.val eB0), [])]⟩
theorem hTreePlaces873_ok : HOk Try.prog hTreePlaces873 := hok_eq mmTreePlaces_ok hmTreePlaces873_ok folTreePlaces (lf := 100000) (k := 1000) (by kernel_rfl)
def hmTreePlaces874 : List HE := hTreePlaces873 :: hmTreePlaces873
theorem hmTreePlaces874_ok : ∀ x ∈ hmTreePlaces874, HOk Try.prog x := hmemo_cons hTreePlaces873_ok hmTreePlaces873_ok
def hTreePlaces874 : HE := ⟨32, [(.agg [(eI 101),(eI 3),(.sl 0 0 0 1 none 3)]),(eI 0),(eI 4),(eI 2)], [btreePlaces10], [((.val eB0), [])]⟩
theorem hTreePlaces874_ok : HOk Try.prog hTreePlaces874 := hok_eq mmTreePlaces_ok hmTreePlaces874_ok folTreePlaces (lf := 100000) (k := 1000) (by kernel_rfl)
def hmTreePlaces875 : List HE := hTreePlaces874 :: hmTreePlaces874
theorem hmTreePlaces875_ok : ∀ x ∈ hmTreePlaces875, HOk Try.prog x := hmemo_cons hTreePlaces874_ok hmTreePlaces874_ok
def hTreePlaces875 : HE := ⟨32, [(.agg [(eI 1),(.lit (.int .i64 (Int.negSucc 0))),(.lit (.slice none 0 0))]),(eI 0),(eI 4),(eI 1)], [], [((.val eB0), [])]⟩
theorem hTreePlaces875_ok : HOk Try.prog hTreePlaces875 := hok_eq mmTreePlaces_ok hmTreePlaces875_ok folTreePlaces (lf := 100000) (k := 1000) (by kernel_rfl)
def hmTreePlaces876 : List HE := hTreePlaces875 :: hmTreePlaces875
theorem hmTreePlaces876_ok : ∀ x ∈ hmTreePlaces876, HOk Try.prog x := hmemo_cons hTreePlaces875_ok hmTreePlaces875_ok
def hTreePlaces876 : HE := ⟨32, [(.agg [(eI 100),(.lit (.int .i64 (Int.negSucc 0))),(.lit (.slice none 0 0))]),(eI 0),(eI 4),(eI 0)], [], [((.val eB0), [])]⟩
theorem hTreePlaces876_ok : HOk Try.prog hTreePlaces876 := hok_eq mmTreePlaces_ok hmTreePlaces876_ok folTreePlaces (lf := 100000) (k := 1000) (by kernel_rfl)
def hmTreePlaces877 : List HE := hTreePlaces876 :: hmTreePlaces876
theorem hmTreePlaces877_ok : ∀ x ∈ hmTreePlaces877, HOk Try.prog x := hmemo_cons hTreePlaces876_ok hmTreePlaces876_ok
def hTreePlaces877 : HE := ⟨32, [(.agg [(eI 100),(eI 0),(.sl 0 2 0 3 none 3)]),(eI 0),(eI 4),(eI 2)], [btreePlaces13, btreePlaces10], [((.val eB0), [])]⟩
theorem hTreePlaces877_ok : HOk Try.prog hTreePlaces877 := hok_eq mmTreePlaces_ok hmTreePlaces877_ok folTreePlaces (lf := 100000) (k := 1000) (by kernel_rfl)
def hmTreePlaces878 : List HE := hTreePlaces877 :: hmTreePlaces877
theorem hmTreePlaces878_ok : ∀ x ∈ hmTreePlaces878, HOk Try.prog x := hmemo_cons hTreePlaces877_ok hmTreePlaces877_ok
def hTreePlaces878 : HE := ⟨32, [(.agg [(eI 100),(eI 0),(.sl 0 2 0 3 none 3)]),(eI 0),(eI 4),(eI 3)], [btreePlaces15, btreePlaces16, btreePlaces10], [((.val eB0), [])]⟩
theorem hTreePlaces878_ok : HOk Try.prog hTreePlaces878 := hok_eq mmTreePlaces_ok hmTreePlaces878_ok folTreePlaces (lf := 100000) (k := 1000) (by kernel_rfl)
def hmTreePlaces879 : List HE := hTreePlaces878 :: hmTreePlaces878
theorem hmTreePlaces879_ok : ∀ x ∈ hmTreePlaces879, HOk Try.prog x := hmemo_cons hTreePlaces878_ok hmTreePlaces878_ok
def hTreePlaces879 : HE := ⟨32, [(.agg [(eI 101),(eI 2),(.lit (.slice none 0 0))]),(eI 0),(eI 4),(eI 2)], [], [((.val eB0), [])]⟩
theorem hTreePlaces879_ok : HOk Try.prog hTreePlaces879 := hok_eq mmTreePlaces_ok hmTreePlaces879_ok folTreePlaces (lf := 100000) (k := 1000) (by kernel_rfl)
def hmTreePlaces880 : List HE := hTreePlaces879 :: hmTreePlaces879
theorem hmTreePlaces880_ok : ∀ x ∈ hmTreePlaces880, HOk Try.prog x := hmemo_cons hTreePlaces879_ok hmTreePlaces879_ok
def hTreePlaces880 : HE := ⟨32, [(.agg [(eI 3),(.lit (.int .i64 (Int.negSucc 0))),(.lit (.slice none 0 0))]),(eI 0),(eI 4),(eI 1)], [], [((.val eB0), [])]⟩
theorem hTreePlaces880_ok : HOk Try.prog hTreePlaces880 := hok_eq mmTreePlaces_ok hmTreePlaces880_ok folTreePlaces (lf := 100000) (k := 1000) (by kernel_rfl)
def hmTreePlaces881 : List HE := hTreePlaces880 :: hmTreePlaces880
theorem hmTreePlaces881_ok : ∀ x ∈ hmTreePlaces881, HOk Try.prog x := hmemo_cons hTreePlaces880_ok hmTreePlaces880_ok
def hTreePlaces881 : HE := ⟨32, [(.agg [(eI 101),(eI 3),(.sl 0 0 0 1 none 3)]),(eI 0),(eI 4),(eI 1)], [btreePlaces10], [((.val eB0), [])]⟩
theorem hTreePlaces881_ok : HOk Try.prog hTreePlaces881 := hok_eq mmTreePlaces_ok hmTreePlaces881_ok folTreePlaces (lf := 100000) (k := 1000) (by kernel_rfl)
def hmTreePlaces882 : List HE := hTreePlaces881 :: hmTreePlaces881
theorem hmTreePlaces882_ok : ∀ x ∈ hmTreePlaces882, HOk Try.prog x := hmemo_cons hTreePlaces881_ok hmTreePlaces881_ok
def hTreePlaces882 : HE := ⟨32, [(.agg [(eI 1),(.lit (.int .i64 (Int.negSucc 0))),(.lit (.slice none 0 0))]),(eI 0),(eI 4),(eI 0)], [], [((.val eB0), [])]⟩
theorem hTreePlaces882_ok : HOk Try.prog hTreePlaces882 := hok_eq mmTreePlaces_ok hmTreePlaces882_ok folTreePlaces (lf := 100000) (k := 1000) (by kernel_rfl)
def hmTreePlaces883 : List HE := hTreePlaces882 :: hmTreePlaces882
theorem hmTreePlaces883_ok : ∀ x ∈ hmTreePlaces883, HOk Try.prog x := hmemo_cons hTreePlaces882_ok hmTreePlaces882_ok
def hTreePlaces883 : HE := ⟨32, [(.agg [(eI 100),(.lit (.int .i64 (Int.negSucc 0))),(.lit (.slice none 0 0))]),(eI 0),(eI 4),(.lit (.int .i64 (Int.negSucc 0)))], [], [((.val eB0), [])]⟩
theorem hTreePlaces883_ok : HOk Try.prog hTreePlaces883 := hok_eq mmTreePlaces_ok hmTreePlaces883_ok folTreePlaces (lf := 100000) (k := 1000) (by kernel_rfl)
def hmTreePlaces884 : List HE := hTreePlaces883 :: hmTreePlaces883
theorem hmTreePlaces884_ok : ∀ x ∈ hmTreePlaces884, HOk Try.prog x := hmemo_cons hTreePlaces883_ok hmTreePlaces883_ok
def hTreePlaces884 : HE := ⟨32, [(.agg [(eI 100),(eI 0),(.sl 0 2 0 3 none 3)]),(eI 0),(eI 4),(eI 1)], [btreePlaces13, btreePlaces10], [((.val eB0), [])]⟩
theorem hTreePlaces884_ok : HOk Try.prog hTreePlaces884 := hok_eq mmTreePlaces_ok hmTreePlaces884_ok folTreePlaces (lf := 100000) (k := 1000) (by kernel_rfl)
def hmTreePlaces885 : List HE := hTreePlaces884 :: hmTreePlaces884
theorem hmTreePlaces885_ok : ∀ x ∈ hmTreePlaces885, HOk Try.prog x := hmemo_cons hTreePlaces884_ok hmTreePlaces884_ok
def hTreePlaces885 : HE := ⟨32, [(.agg [(eI 100),(eI 0),(.sl 0 2 0 3 none 3)]),(eI 0),(eI 4),(eI 2)], [btreePlaces15, btreePlaces16, btreePlaces10], [((.val eB0), [])]⟩
theorem hTreePlaces885_ok : HOk Try.prog hTreePlaces885 := hok_eq mmTreePlaces_ok hmTreePlaces885_ok folTreePlaces (lf := 100000) (k := 1000) (by kernel_rfl)
def hmTreePlaces886 : List HE := hTreePlaces885 :: hmTreePlaces885
theorem hmTreePlaces886_ok : ∀ x ∈ hmTreePlaces886, HOk Try.prog x := hmemo_cons hTreePlaces885_ok hmTreePlaces885_ok
def hTreePlaces886 : HE := ⟨32, [(.agg [(eI 101),(eI 2),(.lit (.slice none 0 0))]),(eI 0),(eI 4),(eI 1)], [], [((.val eB0), [])]⟩
theorem hTreePlaces886_ok : HOk Try.prog hTreePlaces886 := hok_eq mmTreePlaces_ok hmTreePlaces886_ok folTreePlaces (lf := 100000) (k := 1000) (by kernel_rfl)
def hmTreePlaces887 : List HE := hTreePlaces886 :: hmTreePlaces886
theorem hmTreePlaces887_ok : ∀ x ∈ hmTreePlaces887, HOk Try.prog x := hmemo_cons hTreePlaces886_ok hmTreePlaces886_ok
def hTreePlaces887 : HE := ⟨32, [(.agg [(eI 3),(.lit (.int .i64 (Int.negSucc 0))),(.lit (.slice none 0 0))]),(eI 0),(eI 4),(eI 0)], [], [((.val eB0), [])]⟩
theorem hTreePlaces887_ok : HOk Try.prog hTreePlaces887 := hok_eq mmTreePlaces_ok hmTreePlaces887_ok folTreePlaces (lf := 100000) (k := 1000) (by kernel_rfl)
def hmTreePlaces888 : List HE := hTreePlaces887 :: hmTreePlaces887
theorem hmTreePlaces888_ok : ∀ x ∈ hmTreePlaces888, HOk Try.prog x := hmemo_cons hTreePlaces887_ok hmTreePlaces887_ok
def hTreePlaces888 : HE := ⟨32, [(.agg [(eI 101),(eI 3),(.sl 0 0 0 1 none 3)]),(eI 0),(eI 4),(eI 0)], [btreePlaces10], [((.val eB0), [])]⟩
theorem hTreePlaces888_ok : HOk Try.prog hTreePlaces888 := hok_eq mmTreePlaces_ok hmTreePlaces888_ok folTreePlaces (lf := 100000) (k := 1000) (by kernel_rfl)
def hmTreePlaces889 : List HE := hTreePlaces888 :: hmTreePlaces888
theorem hmTreePlaces889_ok : ∀ x ∈ hmTreePlaces889, HOk Try.prog x := hmemo_cons hTreePlaces888_ok hmTreePlaces888_ok
def hTreePlaces889 : HE := ⟨32, [(.agg [(eI 1),(.lit (.int .i64 (Int.negSucc 0))),(.lit (.slice none 0 0))]),(eI 0),(eI 4),(.lit (.int .i64 (Int.negSucc 0)))], [], [((.val eB0), [])]⟩
theorem hTreePlaces889_ok : HOk Try.prog hTreePlaces889 := hok_eq mmTreePlaces_ok hmTreePlaces889_ok folTreePlaces (lf := 100000) (k := 1000) (by kernel_rfl)
def hmTreePlaces890 : List HE := hTreePlaces889 :: hmTreePlaces889
theorem hmTreePlaces890_ok : ∀ x ∈ hmTreePlaces890, HOk Try.prog x := hmemo_cons hTreePlaces889_ok hmTreePlaces889_ok
def hTreePlaces890 : HE := ⟨32, [(.agg [(eI 100),(.lit (.int .i64 (Int.negSucc 0))),(.lit (.slice none 0 0))]),(eI 0),(eI 4),(.lit (.int .i64 (Int.negSucc 1)))], [], [((.val eB0), [])]⟩
theorem hTreePlaces890_ok : HOk Try.prog hTreePlaces890 := hok_eq mmTreePlaces_ok hmTreePlaces890_ok folTreePlaces (lf := 100000) (k := 1000) (by kernel_rfl)
def hmTreePlaces891 : List HE := hTreePlaces890 :: hmTreePlaces890
theorem hmTreePlaces891_ok : ∀ x ∈ hmTreePlaces891, HOk Try.prog x := hmemo_cons hTreePlaces890_ok hmTreePlaces890_ok
def hTreePlaces891 : HE := ⟨32, [(.agg [(eI 100),(eI 0),(.sl 0 2 0 3 none 3)]),(eI 0),(eI 4),(eI 0)], [btreePlaces13, btreePlaces10], [((.val eB0), [])]⟩
theorem hTreePlaces891_ok : HOk Try.prog hTreePlaces891 := hok_eq mmTreePlaces_ok hmTreePlaces891_ok folTreePlaces (lf := 100000) (k := 1000) (by kernel_rfl)
def hmTreePlaces892 : List HE := hTreePlaces891 :: hmTreePlaces891
theorem hmTreePlaces892_ok : ∀ x ∈ hmTreePlaces892, HOk Try.prog x := hmemo_cons hTreePlaces891_ok hmTreePlaces891_ok
def hTreePlaces892 : HE := ⟨32, [(.agg [(eI 100),(eI 0),(.sl 0 2 0 3 none 3)]),(eI 0),(eI 4),(eI 1)], [btreePlaces15, btreePlaces16, btreePlaces10], [((.val eB0), [])]⟩
theorem hTreePlaces892_ok : HOk Try.prog hTreePlaces892 := hok_eq mmTreePlaces_ok hmTreePlaces892_ok folTreePlaces (lf := 100000) (k := 1000) (by kernel_rfl)
def hmTreePlaces893 : List HE := hTreePlaces892 :: hmTreePlaces892
theorem hmTreePlaces893_ok : ∀ x ∈ hmTreePlaces893, HOk Try.prog x := hmemo_cons hTreePlaces892_ok hmTreePlaces892_ok
def hTreePlaces893 : HE := ⟨32, [(.agg [(eI 101),(eI 2),(.lit (.slice none 0 0))]),(eI 0),(eI 4),(eI 0)], [], [((.val eB0), [])]⟩
theorem hTreePlaces893_ok : HOk Try.prog hTreePlaces893 := hok_eq mmTreePlaces_ok hmTreePlaces893_ok folTreePlaces (lf := 100000) (k := 1000) (by kernel_rfl)
def hmTreePlaces894 : List HE := hTreePlaces893 :: hmTreePlaces893
theorem hmTreePlaces894_ok : ∀ x ∈ hmTreePlaces894, HOk Try.prog x := hmemo_cons hTreePlaces893_ok hmTreePlaces893_ok
def hTreePlaces894 : HE := ⟨32, [(.agg [(eI 100),(eI 0),(.sl 0 2 0 3 none 3)]),(eI 0),(eI 4),(.lit (.int .i64 (Int.negSucc 0)))], [btreePlaces13, btreePlaces10], [((.val eB0), [])]⟩
theorem hTreePlaces894_ok : HOk Try.prog hTreePlaces894 := hok_eq mmTreePlaces_ok hmTreePlaces894_ok folTreePlaces (lf := 100000) (k := 1000) (by kernel_rfl)
def hmTreePlaces895 : List HE := hTreePlaces894 :: hmTreePlaces894
theorem hmTreePlaces895_ok : ∀ x ∈ hmTreePlaces895, HOk Try.prog x := hmemo_cons hTreePlaces894_ok hmTreePlaces894_ok
def hTreePlaces895 : HE := ⟨32, [(.agg [(eI 100),(eI 0),(.sl 0 2 0 3 none 3)]),(eI 0),(eI 4),(eI 0)], [btreePlaces15, btreePlaces16, btreePlaces10], [((.val eB0), [])]⟩
theorem hTreePlaces895_ok : HOk Try.prog hTreePlaces895 := hok_eq mmTreePlaces_ok hmTreePlaces895_ok folTreePlaces (lf := 100000) (k := 1000) (by kernel_rfl)
def hmTreePlaces896 : List HE := hTreePlaces895 :: hmTreePlaces895
theorem hmTreePlaces896_ok : ∀ x ∈ hmTreePlaces896, HOk Try.prog x := hmemo_cons hTreePlaces895_ok hmTreePlaces895_ok
def hTreePlaces896 : HE := ⟨32, [(.agg [(eI 100),(eI 0),(.sl 0 2 0 3 none 3)]),(eI 0),(eI 4),(.lit (.int .i64 (Int.negSucc 0)))], [btreePlaces15, btreePlaces16, btreePlaces10], [((.val eB0), [])]⟩
theorem hTreePlaces896_ok : HOk Try.prog hTreePlaces896 := hok_eq mmTreePlaces_ok hmTreePlaces896_ok folTreePlaces (lf := 100000) (k := 1000) (by kernel_rfl)
def hmTreePlaces897 : List HE := hTreePlaces896 :: hmTreePlaces896
theorem hmTreePlaces897_ok : ∀ x ∈ hmTreePlaces897, HOk Try.prog x := hmemo_cons hTreePlaces896_ok hmTreePlaces896_ok
def hTreePlaces897 : HE := ⟨32, [(.agg [(eI 101),(eI 2),(.lit (.slice none 0 0))]),(eI 0),(eI 3),(eI 4)], [], [((.val eB0), [])]⟩
theorem hTreePlaces897_ok : HOk Try.prog hTreePlaces897 := hok_eq mmTreePlaces_ok hmTreePlaces897_ok folTreePlaces (lf := 100000) (k := 1000) (by kernel_rfl)
def hmTreePlaces898 : List HE := hTreePlaces897 :: hmTreePlaces897
theorem hmTreePlaces898_ok : ∀ x ∈ hmTreePlaces898, HOk Try.prog x := hmemo_cons hTreePlaces897_ok hmTreePlaces897_ok
def hTreePlaces898 : HE := ⟨32, [(.agg [(eI 1),(.lit (.int .i64 (Int.negSucc 0))),(.lit (.slice none 0 0))]),(eI 0),(eI 3),(eI 4)], [], [((.val eB0), [])]⟩
theorem hTreePlaces898_ok : HOk Try.prog hTreePlaces898 := hok_eq mmTreePlaces_ok hmTreePlaces898_ok folTreePlaces (lf := 100000) (k := 1000) (by kernel_rfl)
def hmTreePlaces899 : List HE := hTreePlaces898 :: hmTreePlaces898
theorem hmTreePlaces899_ok : ∀ x ∈ hmTreePlaces899, HOk Try.prog x := hmemo_cons hTreePlaces898_ok hmTreePlaces898_ok
def hTreePlaces899 : HE := ⟨32, [(.agg [(eI 3),(.lit (.int .i64 (Int.negSucc 0))),(.lit (.slice none 0 0))]),(eI 0),(eI 3),(eI 3)], [], [((.val eB0), [])]⟩
theorem hTreePlaces899_ok : HOk Try.prog hTreePlaces899 := hok_eq mmTreePlaces_ok hmTreePlaces899_ok folTreePlaces (lf := 100000) (k := 1000) (by kernel_rfl)
def hmTreePlaces900 : List HE := hTreePlaces899 :: hmTreePlaces899
theorem hmTreePlaces900_ok : ∀ x ∈ hmTreePlaces900, HOk Try.prog x := hmemo_cons hTreePlaces899_ok hmTreePlaces899_ok
def hTreePlaces900 : HE := ⟨32, [(.agg [(eI 101),(eI 3),(.sl 0 0 0 1 none 3)]),(eI 0),(eI 3),(eI 3)], [btreePlaces10], [((.val eB0), [])]⟩
theorem hTreePlaces900_ok : HOk Try.prog hTreePlaces900 := hok_eq mmTreePlaces_ok hmTreePlaces900_ok folTreePlaces (lf := 100000) (k := 1000) (by kernel_rfl)
def hmTreePlaces901 : List HE := hTreePlaces900 :: hmTreePlaces900
theorem hmTreePlaces901_ok : ∀ x ∈ hmTreePlaces901, HOk Try.prog x := hmemo_cons hTreePlaces900_ok hmTreePlaces900_ok
def hTreePlaces901 : HE := ⟨32, [(.agg [(eI 1),(.lit (.int .i64 (Int.negSucc 0))),(.lit (.slice none 0 0))]),(eI 0),(eI 3),(eI 2)], [], [((.val eB0), [])]⟩
theorem hTreePlaces901_ok : HOk Try.prog hTreePlaces901 := hok_eq mmTreePlaces_ok hmTreePlaces901_ok folTreePlaces (lf := 100000) (k := 1000) (by kernel_rfl)
def hmTreePlaces902 : List HE := hTreePlaces901 :: hmTreePlaces901
theorem hmTreePlaces902_ok : ∀ x ∈ hmTreePlaces902, HOk Try.prog x := hmemo_cons hTreePlaces901_ok hmTreePlaces901_ok
def hTreePlaces902 : HE := ⟨32, [(.agg [(eI 100),(.lit (.int .i64 (Int.negSucc 0))),(.lit (.slice none 0 0))]),(eI 0),(eI 3),(eI 1)], [], [((.val eB0), [])]⟩
theorem hTreePlaces902_ok : HOk Try.prog hTreePlaces902 := hok_eq mmTreePlaces_ok hmTreePlaces902_ok folTreePlaces (lf := 100000) (k := 1000) (by kernel_rfl)
def hmTreePlaces903 : List HE := hTreePlaces902 :: hmTreePlaces902
theorem hmTreePlaces903_ok : ∀ x ∈ hmTreePlaces903, HOk Try.prog x := hmemo_cons hTreePlaces902_ok hmTreePlaces902_ok
def hTreePlaces903 : HE := ⟨32, [(.agg [(eI 100),(eI 0),(.sl 0 2 0 3 none 3)]),(eI 0),(eI 3),(eI 3)], [btreePlaces13, btreePlaces10], [((.val eB1), [])]⟩
theorem hTreePlaces903_ok : HOk Try.prog hTreePlaces903 := hok_eq mmTreePlaces_ok hmTreePlaces903_ok folTreePlaces (lf := 100000) (k := 1000) (by kernel_rfl)
def hmTreePlaces904 : List HE := hTreePlaces903 :: hmTreePlaces903
theorem hmTreePlaces904_ok : ∀ x ∈ hmTreePlaces904, HOk Try.prog x := hmemo_cons hTreePlaces903_ok hmTreePlaces903_ok
def hTreePlaces904 : HE := ⟨32, [(.agg [(eI 100),(eI 0),(.sl 0 2 0 3 none 3)]),(eI 0),(eI 3),(eI 4)], [btreePlaces15, btreePlaces16, btreePlaces10], [((.val eB1), [])]⟩
theorem hTreePlaces904_ok : HOk Try.prog hTreePlaces904 := hok_eq mmTreePlaces_ok hmTreePlaces904_ok folTreePlaces (lf := 100000) (k := 1000) (by kernel_rfl)
def hmTreePlaces905 : List HE := hTreePlaces904 :: hmTreePlaces904
theorem hmTreePlaces905_ok : ∀ x ∈ hmTreePlaces905, HOk Try.prog x := hmemo_cons hTreePlaces904_ok hmTreePlaces904_ok
def hTreePlaces905 : HE := ⟨32, [(.agg [(eI 101),(eI 2),(.lit (.slice none 0 0))]),(eI 0),(eI 3),(eI 3)], [], [((.val eB0), [])]⟩
theorem hTreePlaces905_ok : HOk Try.prog hTreePlaces905 := hok_eq mmTreePlaces_ok hmTreePlaces905_ok folTreePlaces (lf := 100000) (k := 1000) (by kernel_rfl)
def hmTreePlaces906 : List HE := hTreePlaces905 :: hmTreePlaces905
theorem hmTreePlaces906_ok : ∀ x ∈ hmTreePlaces906, HOk Try.prog x := hmemo_cons hTreePlaces905_ok hmTreePlaces905_ok
def hTreePlaces906 : HE := ⟨32, [(.agg [(eI 1),(.lit (.int .i64 (Int.negSucc 0))),(.lit (.slice none 0 0))]),(eI 0),(eI 3),(eI 3)], [], [((.val eB0), [])]⟩
theorem hTreePlaces906_ok : HOk Try.prog hTreePlaces906 := hok_eq mmTreePlaces_ok hmTreePlaces906_ok folTreePlaces (lf := 100000) (k := 1000) (by kernel_rfl)
def hmTreePlaces907 : List HE := hTreePlaces906 :: hmTreePlaces906
theorem hmTreePlaces907_ok : ∀ x ∈ hmTreePlaces907, HOk Try.prog x := hmemo_cons hTreePlaces906_ok hmTreePlaces906_ok
def hTreePlaces907 : HE := ⟨32, [(.agg [(eI 3),(.lit (.int .i64 (Int.negSucc 0))),(.lit (.slice none 0 0))]),(eI 0),(eI 3),(eI 2)], [], [((.val eB0), [])]⟩
theorem hTreePlaces907_ok : HOk Try.prog hTreePlaces907 := hok_eq mmTreePlaces_ok hmTreePlaces907_ok folTreePlaces (lf := 100000) (k := 1000) (by kernel_rfl)
def hmTreePlaces908 : List HE := hTreePlaces907 :: hmTreePlaces907
theorem hmTreePlaces908_ok : ∀ x ∈ hmTreePlaces908, HOk Try.prog x := hmemo_cons hTreePlaces907_ok hmTreePlaces907_ok
def hTreePlaces908 : HE := ⟨32, [(.agg [(eI 101),(eI 3),(.sl 0 0 0 1 none 3)]),(eI 0),(eI 3),(eI 2)], [btreePlaces10], [((.val eB0), [])]⟩
theorem hTreePlaces908_ok : HOk Try.prog hTreePlaces908 := hok_eq mmTreePlaces_ok hmTreePlaces908_ok folTreePlaces (lf := 100000) (k := 1000) (by kernel_rfl)
def hmTreePlaces909 : List HE := hTreePlaces908 :: hmTreePlaces908
theorem hmTreePlaces909_ok : ∀ x ∈ hmTreePlaces909, HOk Try.prog x := hmemo_cons hTreePlaces908_ok hmTreePlaces908_ok
def hTreePlaces909 : HE := ⟨32, [(.agg [(eI 1),(.lit (.int .i64 (Int.negSucc 0))),(.lit (.slice none 0 0))]),(eI 0),(eI 3),(eI 1)], [], [((.val eB0), [])]⟩
theorem hTreePlaces909_ok : HOk Try.prog hTreePlaces909 := hok_eq mmTreePlaces_ok hmTreePlaces909_ok folTreePlaces (lf := 100000) (k := 1000) (by kernel_rfl)
def hmTreePlaces910 : List HE := hTreePlaces909 :: hmTreePlaces909
theorem hmTreePlaces910_ok : ∀ x ∈ hmTreePlaces910, HOk Try.prog x := hmemo_cons hTreePlaces909_ok hmTreePlaces909_ok
def hTreePlaces910 : HE := ⟨32, [(.agg [(eI 100),(.lit (.int .i64 (Int.negSucc 0))),(.lit (.slice none 0 0))]),(eI 0),(eI 3),(eI 0)], [], [((.val eB0), [])]⟩
theorem hTreePlaces910_ok : HOk Try.prog hTreePlaces910 := hok_eq mmTreePlaces_ok hmTreePlaces910_ok folTreePlaces (lf := 100000) (k := 1000) (by kernel_rfl)
def hmTreePlaces911 : List HE := hTreePlaces910 :: hmTreePlaces910
theorem hmTreePlaces911_ok : ∀ x ∈ hmTreePlaces911, HOk Try.prog x := hmemo_cons hTreePlaces910_ok hmTreePlaces910_ok
def hTreePlaces911 : HE := ⟨32, [(.agg [(eI 100),(eI 0),(.sl 0 2 0 3 none 3)]),(eI 0),(eI 3),(eI 2)], [btreePlaces13, btreePlaces10], [((.val eB0), [])]⟩
theorem hTreePlaces911_ok : HOk Try.prog hTreePlaces911 := hok_eq mmTreePlaces_ok hmTreePlaces911_ok folTreePlaces (lf := 100000) (k := 1000) (by kernel_rfl)
def hmTreePlaces912 : List HE := hTreePlaces911 :: hmTreePlaces911
theorem hmTreePlaces912_ok : ∀ x ∈ hmTreePlaces912, HOk Try.prog x := hmemo_cons hTreePlaces911_ok hmTreePlaces911_ok
def hTreePlaces912 : HE := ⟨32, [(.agg [(eI 100),(eI 0),(.sl 0 2 0 3 none 3)]),(eI 0),(eI 3),(eI 3)], [btreePlaces15, btreePlaces16, btreePlaces10], [((.val eB0), [])]⟩
theorem hTreePlaces912_ok : HOk Try.prog hTreePlaces912 := hok_eq mmTreePlaces_ok hmTreePlaces912_ok folTreePlaces (lf := 100000) (k := 1000) (by kernel_rfl)
def hmTreePlaces913 : List HE := hTreePlaces912 :: hmTreePlaces912
theorem hmTreePlaces913_ok : ∀ x ∈ hmTreePlaces913, HOk Try.prog x := hmemo_cons hTreePlaces912_ok hmTreePlaces912_ok
def hTreePlaces913 : HE := ⟨32, [(.agg [(eI 101),(eI 2),(.lit (.slice none 0 0))]),(eI 0),(eI 3),(eI 2)], [], [((.val eB0), [])]⟩
theorem hTreePlaces913_ok : HOk Try.prog hTreePlaces913 := hok_eq mmTreePlaces_ok hmTreePlaces913_ok folTreePlaces (lf := 100000) (k := 1000) (by kernel_rfl)
def hmTreePlaces914 : List HE := hTreePlaces913 :: hmTreePlaces913
theorem hmTreePlaces914_ok : ∀ x ∈ hmTreePlaces914, HOk Try.prog x := hmemo_cons hTreePlaces913_ok hmTreePlaces913_ok
def hTreePlaces914 : HE := ⟨32, [(.agg [(eI 3),(.lit (.int .i64 (Int.negSucc 0))),(.lit (.slice none 0 0))]),(eI 0),(eI 3),(eI 1)], [], [((.val eB0), [])]⟩
theorem hTreePlaces914_ok : HOk Try.prog hTreePlaces914 := hok_eq mmTreePlaces_ok hmTreePlaces914_ok folTreePlaces (lf := 100000) (k := 1000) (by kernel_rfl)
def hmTreePlaces915 : List HE := hTreePlaces914 :: hmTreePlaces914
theorem hmTreePlaces915_ok : ∀ x ∈ hmTreePlaces915, HOk Try.prog x := hmemo_cons hTreePlaces914_ok hmTreePlaces914_ok
def hTreePlaces915 : HE := ⟨32, [(.agg [(eI 101),(eI 3),(.sl 0 0 0 1 none 3)]),(eI 0),(eI 3),(eI 1)], [btreePlaces10], [((.val eB0), [])]⟩
theorem hTreePlaces915_ok : HOk Try.prog hTreePlaces915 := hok_eq mmTreePlaces_ok hmTreePlaces915_ok folTreePlaces (lf := 100000) (k := 1000) (by kernel_rfl)
def hmTreePlaces916 : List HE := hTreePlaces915 :: hmTreePlaces915
theorem hmTreePlaces916_ok : ∀ x ∈ hmTreePlaces916, HOk Try.prog x := hmemo_cons hTreePlaces915_ok hmTreePlaces915_ok
def hTreePlaces916 : HE := ⟨32, [(.agg [(eI 1),(.lit (.int .i64 (Int.negSucc 0))),(.lit (.slice none 0 0))]),(eI 0),(eI 3),(eI 0)], [], [((.val eB0), [])]⟩
theorem hTreePlaces916_ok : HOk Try.prog hTreePlaces916 := hok_eq mmTreePlaces_ok hmTreePlaces916_ok folTreePlaces (lf := 100000) (k := 1000) (by kernel_rfl)
def hmTreePlaces917 : List HE := hTreePlaces916 :: hmTreePlaces916
theorem hmTreePlaces917_ok : ∀ x ∈ hmTreePlaces917, HOk Try.prog x := hmemo_cons hTreePlaces916_ok hmTreePlaces916_ok
def hTreePlaces917 : HE := ⟨32, [(.agg [(eI 100),(.lit (.int .i64 (Int.negSucc 0))),(.lit (.slice none 0 0))]),(eI 0),(eI 3),(.lit (.int .i64 (Int.negSucc 0)))], [], [((.val eB0), [])]⟩
theorem hTreePlaces917_ok : HOk Try.prog hTreePlaces917 := hok_eq mmTreePlaces_ok hmTreePlaces917_ok folTreePlaces (lf := 100000) (k := 1000) (by kernel_rfl)
def hmTreePlaces918 : List HE := hTreePlaces917 :: hmTreePlaces917
theorem hmTreePlaces918_ok : ∀ x ∈ hmTreePlaces918, HOk Try.prog x := hmemo_cons hTreePlaces917_ok hmTreePlaces917_ok
def hTreePlaces918 : HE := ⟨32, [(.agg [(eI 100),(eI 0),(.sl 0 2 0 3 none 3)]),(eI 0),(eI 3),(eI 1)], [btreePlaces13, btreePlaces10], [((.val eB0), [])]⟩
theorem hTreePlaces918_ok : HOk Try.prog hTreePlaces918 := hok_eq mmTreePlaces_ok hmTreePlaces918_ok folTreePlaces (lf := 100000) (k := 1000) (by kernel_rfl)
def hmTreePlaces919 : List HE := hTreePlaces918 :: hmTreePlaces918
theorem hmTreePlaces919_ok : ∀ x ∈ hmTreePlaces919, HOk Try.prog x := hmemo_cons hTreePlaces918_ok hmTreePlaces918_ok
def hTreePlaces919 : HE := ⟨32, [(.agg [(eI 100),(eI 0),(.sl 0 2 0 3 none 3)]),(eI 0),(eI 3),(eI 2)], [btreePlaces15, btreePlaces16, btreePlaces10], [((.val eB0), [])]⟩
theorem hTreePlaces919_ok : HOk Try.prog hTreePlaces919 := hok_eq mmTreePlaces_ok hmTreePlaces919_ok folTreePlaces (lf := 100000) (k := 1000) (by kernel_rfl)
def hmTreePlaces920 : List HE := hTreePlaces919 :: hmTreePlaces919
theorem hmTreePlaces920_ok : ∀ x ∈ hmTreePlaces920, HOk Try.prog x := hmemo_cons hTreePlaces919_ok hmTreePlaces919_ok
def hTreePlaces920 : HE := ⟨32, [(.agg [(eI 101),(eI 2),(.lit (.slice none 0 0))]),(eI 0),(eI 3),(eI 1)], [], [((.val eB0), [])]⟩
theorem hTreePlaces920_ok : HOk Try.prog hTreePlaces920 := hok_eq mmTreePlaces_ok hmTreePlaces920_ok folTreePlaces (lf := 100000) (k := 1000) (by kernel_rfl)
def hmTreePlaces921 : List HE := hTreePlaces920 :: hmTreePlaces920
theorem hmTreePlaces921_ok : ∀ x ∈ hmTreePlaces921, HOk Try.prog x := hmemo_cons hTreePlaces920_ok hmTreePlaces920_ok
def hTreePlaces921 : HE := ⟨32, [(.agg [(eI 3),(.lit (.int .i64 (Int.negSucc 0))),(.lit (.slice none 0 0))]),(eI 0),(eI 3),(eI 0)], [], [((.val eB0), [])]⟩
theorem hTreePlaces921_ok : HOk Try.prog hTreePlaces921 := hok_eq mmTreePlaces_ok hmTreePlaces921_ok folTreePlaces (lf := 100000) (k := 1000) (by kernel_rfl)
def hmTreePlaces922 : List HE := hTreePlaces921 :: hmTreePlaces921
theorem hmTreePlaces922_ok : ∀ x ∈ hmTreePlaces922, HOk Try.prog x := hmemo_cons hTreePlaces921_ok hmTreePlaces921_ok
def hTreePlaces922 : HE := ⟨32, [(.agg [(eI 101),(eI 3),(.sl 0 0 0 1 none 3)]),(eI 0),(eI 3),(eI 0)], [btreePlaces10], [((.val eB0), [])]⟩
theorem hTreePlaces922_ok : HOk Try.prog hTreePlaces922 := hok_eq mmTreePlaces_ok hmTreePlaces922_ok folTreePlaces (lf := 100000) (k := 1000) (by kernel_rfl)
def hmTreePlaces923 : List HE := hTreePlaces922 :: hmTreePlaces922
theorem hmTreePlaces923_ok : ∀ x ∈ hmTreePlaces923, HOk Try.prog x := hmemo_cons hTreePlaces922_ok hmTreePlaces922_ok
def hTreePlaces923 : HE := ⟨32, [(.agg [(eI 1),(.lit (.int .i64 (Int.negSucc 0))),(.lit (.slice none 0 0))]),(eI 0),(eI 3),(.lit (.int .i64 (Int.negSucc 0)))], [], [((.val eB0), [])]⟩
theorem hTreePlaces923_ok : HOk Try.prog hTreePlaces923 := hok_eq mmTreePlaces_ok hmTreePlaces923_ok folTreePlaces (lf := 100000) (k := 1000) (by kernel_rfl)
def hmTreePlaces924 : List HE := hTreePlaces923 :: hmTreePlaces923
theorem hmTreePlaces924_ok : ∀ x ∈ hmTreePlaces924, HOk Try.prog x := hmemo_cons hTreePlaces923_ok hmTreePlaces923_ok
def hTreePlaces924 : HE := ⟨32, [(.agg [(eI 100),(.lit (.int .i64 (Int.negSucc 0))),(.lit (.slice none 0 0))]),(eI 0),(eI 3),(.lit (.int .i64 (Int.negSucc 1)))], [], [((.val eB0), [])]⟩
theorem hTreePlaces924_ok : HOk Try.prog hTreePlaces924 := hok_eq mmTreePlaces_ok hmTreePlaces924_ok folTreePlaces (lf := 100000) (k := 1000) (by kernel_rfl)
def hmTreePlaces925 : List HE := hTreePlaces924 :: hmTreePlaces924
theorem hmTreePlaces925_ok : ∀ x ∈ hmTreePlaces925, HOk Try.prog x := hmemo_cons hTreePlaces924_ok hmTreePlaces924_ok
def hTreePlaces925 : HE := ⟨32, [(.agg [(eI 100),(eI 0),(.sl 0 2 0 3 none 3)]),(eI 0),(eI 3),(eI 0)], [btreePlaces13, btreePlaces10], [((.val eB0), [])]⟩
theorem hTreePlaces925_ok : HOk Try.prog hTreePlaces925 := hok_eq mmTreePlaces_ok hmTreePlaces925_ok folTreePlaces (lf := 100000) (k := 1000) (by kernel_rfl)
def hmTreePlaces926 : List HE := hTreePlaces925 :: hmTreePlaces925
theorem hmTreePlaces926_ok : ∀ x ∈ hmTreePlaces926, HOk Try.prog x := hmemo_cons hTreePlaces925_ok hmTreePlaces925_ok
def hTreePlaces926 : HE := ⟨32, [(.agg [(eI 100),(eI 0),(.sl 0 2 0 3 none 3)]),(eI 0),(eI 3),(eI 1)], [btreePlaces15, btreePlaces16, btreePlaces10], [((.val eB0), [])]⟩
theorem hTreePlaces926_ok : HOk Try.prog hTreePlaces926 := hok_eq mmTreePlaces_ok hmTreePlaces926_ok folTreePlaces (lf := 100000) (k := 1000) (by kernel_rfl)
def hmTreePlaces927 : List HE := hTreePlaces926 :: hmTreePlaces926
theorem hmTreePlaces927_ok : ∀ x ∈ hmTreePlaces927, HOk Try.prog x := hmemo_cons hTreePlaces926_ok hmTreePlaces926_ok
def hTreePlaces927 : HE := ⟨32, [(.agg [(eI 101),(eI 2),(.lit (.slice none 0 0))]),(eI 0),(eI 3),(eI 0)], [], [((.val eB0), [])]⟩
theorem hTreePlaces927_ok : HOk Try.prog hTreePlaces927 := hok_eq mmTreePlaces_ok hmTreePlaces927_ok folTreePlaces (lf := 100000) (k := 1000) (by kernel_rfl)
def hmTreePlaces928 : List HE := hTreePlaces927 :: hmTreePlaces927
theorem hmTreePlaces928_ok : ∀ x ∈ hmTreePlaces928, HOk Try.prog x := hmemo_cons hTreePlaces927_ok hmTreePlaces927_ok
def hTreePlaces928 : HE := ⟨32, [(.agg [(eI 100),(eI 0),(.sl 0 2 0 3 none 3)]),(eI 0),(eI 3),(.lit (.int .i64 (Int.negSucc 0)))], [btreePlaces13, btreePlaces10], [((.val eB0), [])]⟩
theorem hTreePlaces928_ok : HOk Try.prog hTreePlaces928 := hok_eq mmTreePlaces_ok hmTreePlaces928_ok folTreePlaces (lf := 100000) (k := 1000) (by kernel_rfl)
def hmTreePlaces929 : List HE := hTreePlaces928 :: hmTreePlaces928
theorem hmTreePlaces929_ok : ∀ x ∈ hmTreePlaces929, HOk Try.prog x := hmemo_cons hTreePlaces928_ok hmTreePlaces928_ok
def hTreePlaces929 : HE := ⟨32, [(.agg [(eI 100),(eI 0),(.sl 0 2 0 3 none 3)]),(eI 0),(eI 3),(eI 0)], [btreePlaces15, btreePlaces16, btreePlaces10], [((.val eB0), [])]⟩
theorem hTreePlaces929_ok : HOk Try.prog hTreePlaces929 := hok_eq mmTreePlaces_ok hmTreePlaces929_ok folTreePlaces (lf := 100000) (k := 1000) (by kernel_rfl)
def hmTreePlaces930 : List HE := hTreePlaces929 :: hmTreePlaces929
theorem hmTreePlaces930_ok : ∀ x ∈ hmTreePlaces930, HOk Try.prog x := hmemo_cons hTreePlaces929_ok hmTreePlaces929_ok
def hTreePlaces930 : HE := ⟨32, [(.agg [(eI 100),(eI 0),(.sl 0 2 0 3 none 3)]),(eI 0),(eI 3),(.lit (.int .i64 (Int.negSucc 0)))], [btreePlaces15, btreePlaces16, btreePlaces10], [((.val eB0), [])]⟩
theorem hTreePlaces930_ok : HOk Try.prog hTreePlaces930 := hok_eq mmTreePlaces_ok hmTreePlaces930_ok folTreePlaces (lf := 100000) (k := 1000) (by kernel_rfl)
def hmTreePlaces931 : List HE := hTreePlaces930 :: hmTreePlaces930
theorem hmTreePlaces931_ok : ∀ x ∈ hmTreePlaces931, HOk Try.prog x := hmemo_cons hTreePlaces930_ok hmTreePlaces930_ok
def hTreePlaces931 : HE := ⟨32, [(.agg [(eI 101),(eI 2),(.lit (.slice none 0 0))]),(eI 0),(eI 2),(eI 4)], [], [((.val eB0), [])]⟩
theorem hTreePlaces931_ok : HOk Try.prog hTreePlaces931 := hok_eq mmTreePlaces_ok hmTreePlaces931_ok folTreePlaces (lf := 100000) (k := 1000) (by kernel_rfl)
def hmTreePlaces932 : List HE := hTreePlaces931 :: hmTreePlaces931
theorem hmTreePlaces932_ok : ∀ x ∈ hmTreePlaces932, HOk Try.prog x := hmemo_cons hTreePlaces931_ok hmTreePlaces931_ok
def hTreePlaces932 : HE := ⟨32, [(.agg [(eI 1),(.lit (.int .i64 (Int.negSucc 0))),(.lit (.slice none 0 0))]),(eI 0),(eI 2),(eI 4)], [], [((.val eB0), [])]⟩
theorem hTreePlaces932_ok : HOk Try.prog hTreePlaces932 := hok_eq mmTreePlaces_ok hmTreePlaces932_ok folTreePlaces (lf := 100000) (k := 1000) (by kernel_rfl)
def hmTreePlaces933 : List HE := hTreePlaces932 :: hmTreePlaces932
theorem hmTreePlaces933_ok : ∀ x ∈ hmTreePlaces933, HOk Try.prog x := hmemo_cons hTreePlaces932_ok hmTreePlaces932_ok
def hTreePlaces933 : HE := ⟨32, [(.agg [(eI 3),(.lit (.int .i64 (Int.negSucc 0))),(.lit (.slice none 0 0))]),(eI 0),(eI 2),(eI 3)], [], [((.val eB0), [])]⟩
theorem hTreePlaces933_ok : HOk Try.prog hTreePlaces933 := hok_eq mmTreePlaces_ok hmTreePlaces933_ok folTreePlaces (lf := 100000) (k := 1000) (by kernel_rfl)
def hmTreePlaces934 : List HE := hTreePlaces933 :: hmTreePlaces933
theorem hmTreePlaces934_ok : ∀ x ∈ hmTreePlaces934, HOk Try.prog x := hmemo_cons hTreePlaces933_ok hmTreePlaces933_ok
def hTreePlaces934 : HE := ⟨32, [(.agg [(eI 101),(eI 3),(.sl 0 0 0 1 none 3)]),(eI 0),(eI 2),(eI 3)], [btreePlaces10], [((.val eB0), [])]⟩
theorem hTreePlaces934_ok : HOk Try.prog hTreePlaces934 := hok_eq mmTreePlaces_ok hmTreePlaces934_ok folTreePlaces (lf := 100000) (k := 1000) (by kernel_rfl)
def hmTreePlaces935 : List HE := hTreePlaces934 :: hmTreePlaces934
theorem hmTreePlaces935_ok : ∀ x ∈ hmTreePlaces935, HOk Try.prog x := hmemo_cons hTreePlaces934_ok hmTreePlaces934_ok
def hTreePlaces935 : HE := ⟨32, [(.agg [(eI 1),(.lit (.int .i64 (Int.negSucc 0))),(.lit (.slice none 0 0))]),(eI 0),(eI 2),(eI 2)], [], [((.val eB0), [])]⟩
theorem hTreePlaces935_ok : HOk Try.prog hTreePlaces935 := hok_eq mmTreePlaces_ok hmTreePlaces935_ok folTreePlaces (lf := 100000) (k := 1000) (by kernel_rfl)
def hmTreePlaces936 : List HE := hTreePlaces935 :: hmTreePlaces935
theorem hmTreePlaces936_ok : ∀ x ∈ hmTreePlaces936, HOk Try.prog x := hmemo_cons hTreePlaces935_ok hmTreePlaces935_ok
def hTreePlaces936 : HE := ⟨32, [(.agg [(eI 100),(.lit (.int .i64 (Int.negSucc 0))),(.lit (.slice none 0 0))]),(eI 0),(eI 2),(eI 1)], [], [((.val eB0), [])]⟩
theorem hTreePlaces936_ok : HOk Try.prog hTreePlaces936 := hok_eq mmTreePlaces_ok hmTreePlaces936_ok folTreePlaces (lf := 100000) (k := 1000) (by kernel_rfl)
def hmTreePlaces937 : List HE := hTreePlaces936 :: hmTreePlaces936
theorem hmTreePlaces937_ok : ∀ x ∈ hmTreePlaces937, HOk Try.prog x := hmemo_cons hTreePlaces936_ok hmTreePlaces936_ok
def hTreePlaces937 : HE := ⟨32, [(.agg [(eI 100),(eI 0),(.sl 0 2 0 3 none 3)]),(eI 0),(eI 2),(eI 3)], [btreePlaces13, btreePlaces10], [((.val eB0), [])]⟩
theorem hTreePlaces937_ok : HOk Try.prog hTreePlaces937 := hok_eq mmTreePlaces_ok hmTreePlaces937_ok folTreePlaces (lf := 100000) (k := 1000) (by kernel_rfl)
def hmTreePlaces938 : List HE := hTreePlaces937 :: hmTreePlaces937
theorem hmTreePlaces938_ok : ∀ x ∈ hmTreePlaces938, HOk Try.prog x := hmemo_cons hTreePlaces937_ok hmTreePlaces937_ok
def hTreePlaces938 : HE := ⟨32, [(.agg [(eI 100),(eI 0),(.sl 0 2 0 3 none 3)]),(eI 0),(eI 2),(eI 4)], [btreePlaces15, btreePlaces16, btreePlaces10], [((.val eB0), [])]⟩
theorem hTreePlaces938_ok : HOk Try.prog hTreePlaces938 := hok_eq mmTreePlaces_ok hmTreePlaces938_ok folTreePlaces (lf := 100000) (k := 1000) (by kernel_rfl)
def hmTreePlaces939 : List HE := hTreePlaces938 :: hmTreePlaces938
theorem hmTreePlaces939_ok : ∀ x ∈ hmTreePlaces939, HOk Try.prog x := hmemo_cons hTreePlaces938_ok hmTreePlaces938_ok
def hTreePlaces939 : HE := ⟨32, [(.agg [(eI 101),(eI 2),(.lit (.slice none 0 0))]),(eI 0),(eI 2),(eI 3)], [], [((.val eB0), [])]⟩
theorem hTreePlaces939_ok : HOk Try.prog hTreePlaces939 := hok_eq mmTreePlaces_ok hmTreePlaces939_ok folTreePlaces (lf := 100000) (k := 1000) (by kernel_rfl)
def hmTreePlaces940 : List HE := hTreePlaces939 :: hmTreePlaces939
theorem hmTreePlaces940_ok : ∀ x ∈ hmTreePlaces940, HOk Try.prog x := hmemo_cons hTreePlaces939_ok hmTreePlaces939_ok
def hTreePlaces940 : HE := ⟨32, [(.agg [(eI 1),(.lit (.int .i64 (Int.negSucc 0))),(.lit (.slice none 0 0))]),(eI 0),(eI 2),(eI 3)], [], [((.val eB0), [])]⟩
theorem hTreePlaces940_ok : HOk Try.prog hTreePlaces940 := hok_eq mmTreePlaces_ok hmTreePlaces940_ok folTreePlaces (lf := 100000) (k := 1000) (by kernel_rfl)
def hmTreePlaces941 : List HE := hTreePlaces940 :: hmTreePlaces940
theorem hmTreePlaces941_ok : ∀ x ∈ hmTreePlaces941, HOk Try.prog x := hmemo_cons hTreePlaces940_ok hmTreePlaces940_ok
def hTreePlaces941 : HE := ⟨32, [(.agg [(eI 3),(.lit (.int .i64 (Int.negSucc 0))),(.lit (.slice none 0 0))]),(eI 0),(eI 2),(eI 2)], [], [((.val eB0), [])]⟩
theorem hTreePlaces941_ok : HOk Try.prog hTreePlaces941 := hok_eq mmTreePlaces_ok hmTreePlaces941_ok folTreePlaces (lf := 100000) (k := 1000) (by kernel_rfl)
def hmTreePlaces942 : List HE := hTreePlaces941 :: hmTreePlaces941
theorem hmTreePlaces942_ok : ∀ x ∈ hmTreePlaces942, HOk Try.prog x := hmemo_cons hTreePlaces941_ok hmTreePlaces941_ok
def hTreePlaces942 : HE := ⟨32, [(.agg [(eI 101),(eI 3),(.sl 0 0 0 1 none 3)]),(eI 0),(eI 2),(eI 2)], [btreePlaces10], [((.val eB0), [])]⟩
theorem hTreePlaces942_ok : HOk Try.prog hTreePlaces942 := hok_eq mmTreePlaces_ok hmTreePlaces942_ok folTreePlaces (lf := 100000) (k := 1000) (by kernel_rfl)
def hmTreePlaces943 : List HE := hTreePlaces942 :: hmTreePlaces942
theorem hmTreePlaces943_ok : ∀ x ∈ hmTreePlaces943, HOk Try.prog x := hmemo_cons hTreePlaces942_ok hmTreePlaces942_ok
def hTreePlaces943 : HE := ⟨32, [(.agg [(eI 1),(.lit (.int .i64 (Int.negSucc 0))),(.lit (.slice none 0 0))]),(eI 0),(eI 2),(eI 1)], [], [((.val eB0), [])]⟩
theorem hTreePlaces943_ok : HOk Try.prog hTreePlaces943 := hok_eq mmTreePlaces_ok hmTreePlaces943_ok folTreePlaces (lf := 100000) (k := 1000) (by kernel_rfl)
def hmTreePlaces944 : List HE := hTreePlaces943 :: hmTreePlaces943
theorem hmTreePlaces944_ok : ∀ x ∈ hmTreePlaces944, HOk Try.prog x := hmemo_cons hTreePlaces943_ok hmTreePlaces943_ok
def hTreePlaces944 : HE := ⟨32, [(.agg [(eI 100),(eI 0),(.sl 0 2 0 3 none 3)]),(eI 0),(eI 2),(eI 2)], [btreePlaces13, btreePlaces10], [((.val eB1), [])]⟩
theorem hTreePlaces944_ok : HOk Try.prog hTreePlaces944 := hok_eq mmTreePlaces_ok hmTreePlaces944_ok folTreePlaces (lf := 100000) (k := 1000) (by kernel_rfl)
def hmTreePlaces945 : List HE := hTreePlaces944 :: hmTreePlaces944
theorem hmTreePlaces945_ok : ∀ x ∈ hmTreePlaces945, HOk Try.prog x := hmemo_cons hTreePlaces944_ok hmTreePlaces944_ok
def hTreePlaces945 : HE := ⟨32, [(.agg [(eI 100),(eI 0),(.sl 0 2 0 3 none 3)]),(eI 0),(eI 2),(eI 3)], [btreePlaces15, btreePlaces16, btreePlaces10], [((.val eB1), [])]⟩
theorem hTreePlaces945_ok : HOk Try.prog hTreePlaces945 := hok_eq mmTreePlaces_ok hmTreePlaces945_ok folTreePlaces (lf := 100000) (k := 1000) (by kernel_rfl)
def hmTreePlaces946 : List HE := hTreePlaces945 :: hmTreePlaces945
theorem hmTreePlaces946_ok : ∀ x ∈ hmTreePlaces946, HOk Try.prog x := hmemo_cons hTreePlaces945_ok hmTreePlaces945_ok
def hTreePlaces946 : HE := ⟨32, [(.agg [(eI 101),(eI 2),(.lit (.slice none 0 0))]),(eI 0),(eI 2),(eI 2)], [], [((.val eB0), [])]⟩
theorem hTreePlaces946_ok : HOk Try.prog hTreePlaces946 := hok_eq mmTreePlaces_ok hmTreePlaces946_ok folTreePlaces (lf := 100000) (k := 1000) (by kernel_rfl)
def hmTreePlaces947 : List HE := hTreePlaces946 :: hmTreePlaces946
theorem hmTreePlaces947_ok : ∀ x ∈ hmTreePlaces947, HOk Try.prog x := hmemo_cons hTreePlaces946_ok hmTreePlaces946_ok
def hTreePlaces947 : HE := ⟨32, [(.agg [(eI 3),(.lit (.int .i64 (Int.negSucc 0))),(.lit (.slice none 0 0))]),(eI 0),(eI 2),(eI 1)], [], [((.val eB0), [])]⟩
theorem hTreePlaces947_ok : HOk Try.prog hTreePlaces947 := hok_eq mmTreePlaces_ok hmTreePlaces947_ok folTreePlaces (lf := 100000) (k := 1000) (by kernel_rfl)
def hmTreePlaces948 : List HE := hTreePlaces947 :: hmTreePlaces947
theorem hmTreePlaces948_ok : ∀ x ∈ hmTreePlaces948, HOk Try.prog x := hmemo_cons hTreePlaces947_ok hmTreePlaces947_ok
def hTreePlaces948 : HE := ⟨32, [(.agg [(eI 101),(eI 3),(.sl 0 0 0 1 none 3)]),(eI 0),(eI 2),(eI 1)], [btreePlaces10], [((.val eB0), [])]⟩
theorem hTreePlaces948_ok : HOk Try.prog hTreePlaces948 := hok_eq mmTreePlaces_ok hmTreePlaces948_ok folTreePlaces (lf := 100000) (k := 1000) (by kernel_rfl)
def hmTreePlaces949 : List HE := hTreePlaces948 :: hmTreePlaces948
theorem hmTreePlaces949_ok : ∀ x ∈ hmTreePlaces949, HOk Try.prog x := hmemo_cons hTreePlaces948_ok hmTreePlaces948_ok
def hTreePlaces949 : HE := ⟨32, [(.agg [(eI 1),(.lit (.int .i64 (Int.negSucc 0))),(.lit (.slice none 0 0))]),(eI 0),(eI 2),(eI 0)], [], [((.val eB0), [])]⟩
theorem hTreePlaces949_ok : HOk Try.prog hTreePlaces949 := hok_eq mmTreePlaces_ok hmTreePlaces949_ok folTreePlaces (lf := 100000) (k := 1000) (by kernel_rfl)
def hmTreePlaces950 : List HE := hTreePlaces949 :: hmTreePlaces949
theorem hmTreePlaces950_ok : ∀ x ∈ hmTreePlaces950, HOk Try.prog x := hmemo_cons hTreePlaces949_ok hmTreePlaces949_ok
def hTreePlaces950 : HE := ⟨32, [(.agg [(eI 100),(.lit (.int .i64 (Int.negSucc 0))),(.lit (.slice none 0 0))]),(eI 0),(eI 2),(.lit (.int .i64 (Int.negSucc 0)))], [], [((.val eB0), [])]⟩
theorem hTreePlaces950_ok : HOk Try.prog hTreePlaces950 := hok_eq mmTreePlaces_ok hmTreePlaces950_ok folTreePlaces (lf := 100000) (k := 1000) (by kernel_rfl)
def hmTreePlaces951 : List HE := hTreePlaces950 :: hmTreePlaces950
theorem hmTreePlaces951_ok : ∀ x ∈ hmTreePlaces951, HOk Try.prog x := hmemo_cons hTreePlaces950_ok hmTreePlaces950_ok
def hTreePlaces951 : HE := ⟨32, [(.agg [(eI 100),(eI 0),(.sl 0 2 0 3 none 3)]),(eI 0),(eI 2),(eI 1)], [btreePlaces13, btreePlaces10], [((.val eB0), [])]⟩
theorem hTreePlaces951_ok : HOk Try.prog hTreePlaces951 := hok_eq mmTreePlaces_ok hmTreePlaces951_ok folTreePlaces (lf := 100000) (k := 1000) (by kernel_rfl)
def hmTreePlaces952 : List HE := hTreePlaces951 :: hmTreePlaces951
theorem hmTreePlaces952_ok : ∀ x ∈ hmTreePlaces952, HOk Try.prog x := hmemo_cons hTreePlaces951_ok hmTreePlaces951_ok
def hTreePlaces952 : HE := ⟨32, [(.agg [(eI 100),(eI 0),(.sl 0 2 0 3 none 3)]),(eI 0),(eI 2),(eI 2)], [btreePlaces15, btreePlaces16, btreePlaces10], [((.val eB0), [])]⟩
theorem hTreePlaces952_ok : HOk Try.prog hTreePlaces952 := hok_eq mmTreePlaces_ok hmTreePlaces952_ok folTreePlaces (lf := 100000) (k := 1000) (by kernel_rfl)
def hmTreePlaces953 : List HE := hTreePlaces952 :: hmTreePlaces952
theorem hmTreePlaces953_ok : ∀ x ∈ hmTreePlaces953, HOk Try.prog x := hmemo_cons hTreePlaces952_ok hmTreePlaces952_ok
def hTreePlaces953 : HE := ⟨32, [(.agg [(eI 101),(eI 2),(.lit (.slice none 0 0))]),(eI 0),(eI 2),(eI 1)], [], [((.val eB0), [])]⟩
theorem hTreePlaces953_ok : HOk Try.prog hTreePlaces953 := hok_eq mmTreePlaces_ok hmTreePlaces953_ok folTreePlaces (lf := 100000) (k := 1000) (by kernel_rfl)
def hmTreePlaces954 : List HE := hTreePlaces953 :: hmTreePlaces953
theorem hmTreePlaces954_ok : ∀ x ∈ hmTreePlaces954, HOk Try.prog x := hmemo_cons hTreePlaces953_ok hmTreePlaces953_ok
def hTreePlaces954 : HE := ⟨32, [(.agg [(eI 100),(eI 0),(.sl 0 2 0 3 none 3)]),(eI 0),(eI 2),(eI 1)], [btreePlaces15, btreePlaces16, btreePlaces10], [((.val eB1), [])]⟩
theorem hTreePlaces954_ok : HOk Try.prog hTreePlaces954 := hok_eq mmTreePlaces_ok hmTreePlaces954_ok folTreePlaces (lf := 100000) (k := 1000) (by kernel_rfl)
def hmTreePlaces955 : List HE := hTreePlaces954 :: hmTreePlaces954
theorem hmTreePlaces955_ok : ∀ x ∈ hmTreePlaces955, HOk Try.prog x := hmemo_cons hTreePlaces954_ok hmTreePlaces954_ok
def hTreePlaces955 : HE := ⟨32, [(.agg [(eI 101),(eI 2),(.lit (.slice none 0 0))]),(eI 0),(eI 2),(eI 0)], [], [((.val eB0), [])]⟩
theorem hTreePlaces955_ok : HOk Try.prog hTreePlaces955 := hok_eq mmTreePlaces_ok hmTreePlaces955_ok folTreePlaces (lf := 100000) (k := 1000) (by kernel_rfl)
def hmTreePlaces956 : List HE := hTreePlaces955 :: hmTreePlaces955
theorem hmTreePlaces956_ok : ∀ x ∈ hmTreePlaces956, HOk Try.prog x := hmemo_cons hTreePlaces955_ok hmTreePlaces955_ok
def hTreePlaces956 : HE := ⟨32, [(.agg [(eI 100),(eI 0),(.sl 0 2 0 3 none 3)]),(eI 0),(eI 2),(.lit (.int .i64 (Int.negSucc 0)))], [btreePlaces13, btreePlaces10], [((.val eB0), [])]⟩
theorem hTreePlaces956_ok : HOk Try.prog hTreePlaces956 := hok_eq mmTreePlaces_ok hmTreePlaces956_ok folTreePlaces (lf := 100000) (k := 1000) (by kernel_rfl)
def hmTreePlaces957 : List HE := hTreePlaces956 :: hmTreePlaces956
theorem hmTreePlaces957_ok : ∀ x ∈ hmTreePlaces957, HOk Try.prog x := hmemo_cons hTreePlaces956_ok hmTreePlaces956_ok
def hTreePlaces957 : HE := ⟨32, [(.agg [(eI 100),(eI 0),(.sl 0 2 0 3 none 3)]),(eI 0),(eI 2),(eI 0)], [btreePlaces15, btreePlaces16, btreePlaces10], [((.val eB0), [])]⟩
theorem hTreePlaces957_ok : HOk Try.prog hTreePlaces957 := hok_eq mmTreePlaces_ok hmTreePlaces957_ok folTreePlaces (lf := 100000) (k := 1000) (by kernel_rfl)
def hmTreePlaces958 : List HE := hTreePlaces957 :: hmTreePlaces957
theorem hmTreePlaces958_ok : ∀ x ∈ hmTreePlaces958, HOk Try.prog x := hmemo_cons hTreePlaces957_ok hmTreePlaces957_ok
def hTreePlaces958 : HE := ⟨32, [(.agg [(eI 100),(eI 0),(.sl 0 2 0 3 none 3)]),(eI 0),(eI 2),(.lit (.int .i64 (Int.negSucc 0)))], [btreePlaces15, btreePlaces16, btreePlaces10], [((.val eB0), [])]⟩
theorem hTreePlaces958_ok : HOk Try.prog hTreePlaces958 := hok_eq mmTreePlaces_ok hmTreePlaces958_ok folTreePlaces (lf := 100000) (k := 1000) (by kernel_rfl)
def hmTreePlaces959 : List HE := hTreePlaces958 :: hmTreePlaces958
theorem hmTreePlaces959_ok : ∀ x ∈ hmTreePlaces959, HOk Try.prog x := hmemo_cons hTreePlaces958_ok hmTreePlaces958_ok
def hTreePlaces959 : HE := ⟨32, [(.agg [(eI 101),(eI 2),(.lit (.slice none 0 0))]),(eI 0),(eI 1),(eI 4)], [], [((.val eB0), [])]⟩
theorem hTreePlaces959_ok : HOk Try.prog hTreePlaces959 := hok_eq mmTreePlaces_ok hmTreePlaces959_ok folTreePlaces (lf := 100000) (k := 1000) (by kernel_rfl)
def hmTreePlaces960 : List HE := hTreePlaces959 :: hmTreePlaces959
theorem hmTreePlaces960_ok : ∀ x ∈ hmTreePlaces960, HOk Try.prog x := hmemo_cons hTreePlaces959_ok hmTreePlaces959_ok
def hTreePlaces960 : HE := ⟨32, [(.agg [(eI 1),(.lit (.int .i64 (Int.negSucc 0))),(.lit (.slice none 0 0))]),(eI 0),(eI 1),(eI 4)], [], [((.val eB0), [])]⟩
theorem hTreePlaces960_ok : HOk Try.prog hTreePlaces960 := hok_eq mmTreePlaces_ok hmTreePlaces960_ok folTreePlaces (lf := 100000) (k := 1000) (by kernel_rfl)
def hmTreePlaces961 : List HE := hTreePlaces960 :: hmTreePlaces960
theorem hmTreePlaces961_ok : ∀ x ∈ hmTreePlaces961, HOk Try.prog x := hmemo_cons hTreePlaces960_ok hmTreePlaces960_ok
def hTreePlaces961 : HE := ⟨32, [(.agg [(eI 3),(.lit (.int .i64 (Int.negSucc 0))),(.lit (.slice none 0 0))]),(eI 0),(eI 1),(eI 3)], [], [((.val eB0), [])]⟩
theorem hTreePlaces961_ok : HOk Try.prog hTreePlaces961 := hok_eq mmTreePlaces_ok hmTreePlaces961_ok folTreePlaces (lf := 100000) (k := 1000) (by kernel_rfl)
def hmTreePlaces962 : List HE := hTreePlaces961 :: hmTreePlaces961
theorem hmTreePlaces962_ok : ∀ x ∈ hmTreePlaces962, HOk Try.prog x := hmemo_cons hTreePlaces961_ok hmTreePlaces961_ok
def hTreePlaces962 : HE := ⟨32, [(.agg [(eI 101),(eI 3),(.sl 0 0 0 1 none 3)]),(eI 0),(eI 1),(eI 3)], [btreePlaces10], [((.val eB0), [])]⟩
theorem hTreePlaces962_ok : HOk Try.prog hTreePlaces962 := hok_eq mmTreePlaces_ok hmTreePlaces962_ok folTreePlaces (lf := 100000) (k := 1000) (by kernel_rfl)
def hmTreePlaces963 : List HE := hTreePlaces962 :: hmTreePlaces962
theorem hmTreePlaces963_ok : ∀ x ∈ hmTreePlaces963, HOk Try.prog x := hmemo_cons hTreePlaces962_ok hmTreePlaces962_ok
def hTreePlaces963 : HE := ⟨32, [(.agg [(eI 1),(.lit (.int .i64 (Int.negSucc 0))),(.lit (.slice none 0 0))]),(eI 0),(eI 1),(eI 2)], [], [((.val eB0), [])]⟩
theorem hTreePlaces963_ok : HOk Try.prog hTreePlaces963 := hok_eq mmTreePlaces_ok hmTreePlaces963_ok folTreePlaces (lf := 100000) (k := 1000) (by kernel_rfl)
def hmTreePlaces964 : List HE := hTreePlaces963 :: hmTreePlaces963
theorem hmTreePlaces964_ok : ∀ x ∈ hmTreePlaces964, HOk Try.prog x := hmemo_cons hTreePlaces963_ok hmTreePlaces963_ok
def hTreePlaces964 : HE := ⟨32, [(.agg [(eI 100),(.lit (.int .i64 (Int.negSucc 0))),(.lit (.slice none 0 0))]),(eI 0),(eI 1),(eI 1)], [], [((.val eB0), [])]⟩
theorem hTreePlaces964_ok : HOk Try.prog hTreePlaces964 := hok_eq mmTreePlaces_ok hmTreePlaces964_ok folTreePlaces (lf := 100000) (k := 1000) (by kernel_rfl)
def hmTreePlaces965 : List HE := hTreePlaces964 :: hmTreePlaces964
theorem hmTreePlaces965_ok : ∀ x ∈ hmTreePlaces965, HOk Try.prog x := hmemo_cons hTreePlaces964_ok hmTreePlaces964_ok
def hTreePlaces965 : HE := ⟨32, [(.agg [(eI 100),(eI 0),(.sl 0 2 0 3 none 3)]),(eI 0),(eI 1),(eI 3)], [btreePlaces13, btreePlaces10], [((.val eB0), [])]⟩
theorem hTreePlaces965_ok : HOk Try.prog hTreePlaces965 := hok_eq mmTreePlaces_ok hmTreePlaces965_ok folTreePlaces (lf := 100000) (k := 1000) (by kernel_rfl)
def hmTreePlaces966 : List HE := hTreePlaces965 :: hmTreePlaces965
theorem hmTreePlaces966_ok : ∀ x ∈ hmTreePlaces966, HOk Try.prog x := hmemo_cons hTreePlaces965_ok hmTreePlaces965_ok
def hTreePlaces966 : HE := ⟨32, [(.agg [(eI 100),(eI 0),(.sl 0 2 0 3 none 3)]),(eI 0),(eI 1),(eI 4)], [btreePlaces15, btreePlaces16, btreePlaces10], [((.val eB0), [])]⟩
theorem hTreePlaces966_ok : HOk Try.prog hTreePlaces966 := hok_eq mmTreePlaces_ok hmTreePlaces966_ok folTreePlaces (lf := 100000) (k := 1000) (by kernel_rfl)
def hmTreePlaces967 : List HE := hTreePlaces966 :: hmTreePlaces966
theorem hmTreePlaces967_ok : ∀ x ∈ hmTreePlaces967, HOk Try.prog x := hmemo_cons hTreePlaces966_ok hmTreePlaces966_ok
def hTreePlaces967 : HE := ⟨32, [(.agg [(eI 101),(eI 2),(.lit (.slice none 0 0))]),(eI 0),(eI 1),(eI 3)], [], [((.val eB0), [])]⟩
theorem hTreePlaces967_ok : HOk Try.prog hTreePlaces967 := hok_eq mmTreePlaces_ok hmTreePlaces967_ok folTreePlaces (lf := 100000) (k := 1000) (by kernel_rfl)
def hmTreePlaces968 : List HE := hTreePlaces967 :: hmTreePlaces967
theorem hmTreePlaces968_ok : ∀ x ∈ hmTreePlaces968, HOk Try.prog x := hmemo_cons hTreePlaces967_ok hmTreePlaces967_ok
def hTreePlaces968 : HE := ⟨32, [(.agg [(eI 1),(.lit (.int .i64 (Int.negSucc 0))),(.lit (.slice none 0 0))]),(eI 0),(eI 1),(eI 3)], [], [((.val eB0), [])]⟩
theorem hTreePlaces968_ok : HOk Try.prog hTreePlaces968 := hok_eq mmTreePlaces_ok hmTreePlaces968_ok folTreePlaces (lf := 100000) (k := 1000) (by kernel_rfl)
def hmTreePlaces969 : List HE := hTreePlaces968 :: hmTreePlaces968
theorem hmTreePlaces969_ok : ∀ x ∈ hmTreePlaces969, HOk Try.prog x := hmemo_cons hTreePlaces968_ok hmTreePlaces968_ok
def hTreePlaces969 : HE := ⟨32, [(.agg [(eI 3),(.lit (.int .i64 (Int.negSucc 0))),(.lit (.slice none 0 0))]),(eI 0),(eI 1),(eI 2)], [], [((.val eB0), [])]⟩
theorem hTreePlaces969_ok : HOk Try.prog hTreePlaces969 := hok_eq mmTreePlaces_ok hmTreePlaces969_ok folTreePlaces (lf := 100000) (k := 1000) (by kernel_rfl)
def hmTreePlaces970 : List HE := hTreePlaces969 :: hmTreePlaces969
theorem hmTreePlaces970_ok : ∀ x ∈ hmTreePlaces970, HOk Try.prog x := hmemo_cons hTreePlaces969_ok hmTreePlaces969_ok
end Go.Proofs.Ytdmljeaigjfenaa.E
