/- Calls that TreePlaces makes, each carried out once over the memory that it is given. -/
import Derived.Test.YtdmljeaigjfenaaHTreePlaces1
namespace Go.Proofs.Ytdmljeaigjfenaa.E
open Go Go.EV Go.RowKit Go.Proofs
set_option linter.unusedVariables false
set_option maxRecDepth 100000
def hTreePlaces970 : HE := ⟨32, [(.agg [(eI 101),(eI 3),(.sl 0 0 0 1 none 3)]),(eI 0),(eI 1),(eI 2)], [btreePlaces10], [((.val eB0), [])]⟩
theorem hTreePlaces970_ok : HOk Try.prog hTreePlaces970 := hok_eq mmTreePlaces_ok hmTreePlaces970_ok folTreePlaces (lf := 100000) (k := 1000) (by kernel_rfl)
def hmTreePlaces971 : List HE := hTreePlaces970 :: hmTreePlaces970
theorem hmTreePlaces971_ok : ∀ x ∈ hmTreePlaces971, HOk Try.prog x := hmemo_cons hTreePlaces970_ok hmTreePlaces970_ok
def hTreePlaces971 : HE := ⟨32, [(.agg [(eI 1),(.lit (.int .i64 (Int.negSucc 0))),(.lit (.slice none 0 0))]),(eI 0),(eI 1),(eI 1)], [], [((.val eB0), [])]⟩
theorem hTreePlaces971_ok : HOk Try.prog hTreePlaces971 := hok_eq mmTreePlaces_ok hmTreePlaces971_ok folTreePlaces (lf := 100000) (k := 1000) (by kernel_rfl)
def hmTreePlaces972 : List HE := hTreePlaces971 :: hmTreePlaces971
theorem hmTreePlaces972_ok : ∀ x ∈ hmTreePlaces972, HOk Try.prog x := hmemo_cons hTreePlaces971_ok hmTreePlaces971_ok
def hTreePlaces972 : HE := ⟨32, [(.agg [(eI 100),(.lit (.int .i64 (Int.negSucc 0))),(.lit (.slice none 0 0))]),(eI 0),(eI 1),(eI 0)], [], [((.val eB0), [])]⟩
theorem hTreePlaces972_ok : HOk Try.prog hTreePlaces972 := hok_eq mmTreePlaces_ok hmTreePlaces972_ok folTreePlaces (lf := 100000) (k := 1000) (by kernel_rfl)
def hmTreePlaces973 : List HE := hTreePlaces972 :: hmTreePlaces972
theorem hmTreePlaces973_ok : ∀ x ∈ hmTreePlaces973, HOk Try.prog x := hmemo_cons hTreePlaces972_ok hmTreePlaces972_ok
def hTreePlaces973 : HE := ⟨32, [(.agg [(eI 100),(eI 0),(.sl 0 2 0 3 none 3)]),(eI 0),(eI 1),(eI 2)], [btreePlaces13, btreePlaces10], [((.val eB0), [])]⟩
theorem hTreePlaces973_ok : HOk Try.prog hTreePlaces973 := hok_eq mmTreePlaces_ok hmTreePlaces973_ok folTreePlaces (lf := 100000) (k := 1000) (by kernel_rfl)
def hmTreePlaces974 : List HE := hTreePlaces973 :: hmTreePlaces973
theorem hmTreePlaces974_ok : ∀ x ∈ hmTreePlaces974, HOk Try.prog x := hmemo_cons hTreePlaces973_ok hmTreePlaces973_ok
def hTreePlaces974 : HE := ⟨32, [(.agg [(eI 100),(eI 0),(.sl 0 2 0 3 none 3)]),(eI 0),(eI 1),(eI 3)], [btreePlaces15, btreePlaces16, btreePlaces10], [((.val eB0), [])]⟩
theorem hTreePlaces974_ok : HOk Try.prog hTreePlaces974 := hok_eq mmTreePlaces_ok hmTreePlaces974_ok folTreePlaces (lf := 100000) (k := 1000) (by kernel_rfl)
def hmTreePlaces975 : List HE := hTreePlaces974 :: hmTreePlaces974
theorem hmTreePlaces975_ok : ∀ x ∈ hmTreePlaces975, HOk Try.prog x := hmemo_cons hTreePlaces974_ok hmTreePlaces974_ok
def hTreePlaces975 : HE := ⟨32, [(.agg [(eI 101),(eI 2),(.lit (.slice none 0 0))]),(eI 0),(eI 1),(eI 2)], [], [((.val eB0), [])]⟩
theorem hTreePlaces975_ok : HOk Try.prog hTreePlaces975 := hok_eq mmTreePlaces_ok hmTreePlaces975_ok folTreePlaces (lf := 100000) (k := 1000) (by kernel_rfl)
def hmTreePlaces976 : List HE := hTreePlaces975 :: hmTreePlaces975
theorem hmTreePlaces976_ok : ∀ x ∈ hmTreePlaces976, HOk Try.prog x := hmemo_cons hTreePlaces975_ok hmTreePlaces975_ok
def hTreePlaces976 : HE := ⟨32, [(.agg [(eI 3),(.lit (.int .i64 (Int.negSucc 0))),(.lit (.slice none 0 0))]),(eI 0),(eI 1),(eI 1)], [], [((.val eB0), [])]⟩
theorem hTreePlaces976_ok : HOk Try.prog hTreePlaces976 := hok_eq mmTreePlaces_ok hmTreePlaces976_ok folTreePlaces (lf := 100000) (k := 1000) (by kernel_rfl)
def hmTreePlaces977 : List HE := hTreePlaces976 :: hmTreePlaces976
theorem hmTreePlaces977_ok : ∀ x ∈ hmTreePlaces977, HOk Try.prog x := hmemo_cons hTreePlaces976_ok hmTreePlaces976_ok
def hTreePlaces977 : HE := ⟨32, [(.agg [(eI 101),(eI 3),(.sl 0 0 0 1 none 3)]),(eI 0),(eI 1),(eI 1)], [btreePlaces10], [((.val eB0), [])]⟩
theorem hTreePlaces977_ok : HOk Try.prog hTreePlaces977 := hok_eq mmTreePlaces_ok hmTreePlaces977_ok folTreePlaces (lf := 100000) (k := 1000) (by kernel_rfl)
def hmTreePlaces978 : List HE := hTreePlaces977 :: hmTreePlaces977
theorem hmTreePlaces978_ok : ∀ x ∈ hmTreePlaces978, HOk Try.prog x := hmemo_cons hTreePlaces977_ok hmTreePlaces977_ok
def hTreePlaces978 : HE := ⟨32, [(.agg [(eI 100),(eI 0),(.sl 0 2 0 3 none 3)]),(eI 0),(eI 1),(eI 1)], [btreePlaces13, btreePlaces10], [((.val eB1), [])]⟩
theorem hTreePlaces978_ok : HOk Try.prog hTreePlaces978 := hok_eq mmTreePlaces_ok hmTreePlaces978_ok folTreePlaces (lf := 100000) (k := 1000) (by kernel_rfl)
def hmTreePlaces979 : List HE := hTreePlaces978 :: hmTreePlaces978
theorem hmTreePlaces979_ok : ∀ x ∈ hmTreePlaces979, HOk Try.prog x := hmemo_cons hTreePlaces978_ok hmTreePlaces978_ok
def hTreePlaces979 : HE := ⟨32, [(.agg [(eI 100),(eI 0),(.sl 0 2 0 3 none 3)]),(eI 0),(eI 1),(eI 2)], [btreePlaces15, btreePlaces16, btreePlaces10], [((.val eB1), [])]⟩
theorem hTreePlaces979_ok : HOk Try.prog hTreePlaces979 := hok_eq mmTreePlaces_ok hmTreePlaces979_ok folTreePlaces (lf := 100000) (k := 1000) (by kernel_rfl)
def hmTreePlaces980 : List HE := hTreePlaces979 :: hmTreePlaces979
theorem hmTreePlaces980_ok : ∀ x ∈ hmTreePlaces980, HOk Try.prog x := hmemo_cons hTreePlaces979_ok hmTreePlaces979_ok
def hTreePlaces980 : HE := ⟨32, [(.agg [(eI 101),(eI 2),(.lit (.slice none 0 0))]),(eI 0),(eI 1),(eI 1)], [], [((.val eB0), [])]⟩
theorem hTreePlaces980_ok : HOk Try.prog hTreePlaces980 := hok_eq mmTreePlaces_ok hmTreePlaces980_ok folTreePlaces (lf := 100000) (k := 1000) (by kernel_rfl)
def hmTreePlaces981 : List HE := hTreePlaces980 :: hmTreePlaces980
theorem hmTreePlaces981_ok : ∀ x ∈ hmTreePlaces981, HOk Try.prog x := hmemo_cons hTreePlaces980_ok hmTreePlaces980_ok
def hTreePlaces981 : HE := ⟨32, [(.agg [(eI 3),(.lit (.int .i64 (Int.negSucc 0))),(.lit (.slice none 0 0))]),(eI 0),(eI 1),(eI 0)], [], [((.val eB0), [])]⟩
theorem hTreePlaces981_ok : HOk Try.prog hTreePlaces981 := hok_eq mmTreePlaces_ok hmTreePlaces981_ok folTreePlaces (lf := 100000) (k := 1000) (by kernel_rfl)
def hmTreePlaces982 : List HE := hTreePlaces981 :: hmTreePlaces981
theorem hmTreePlaces982_ok : ∀ x ∈ hmTreePlaces982, HOk Try.prog x := hmemo_cons hTreePlaces981_ok hmTreePlaces981_ok
def hTreePlaces982 : HE := ⟨32, [(.agg [(eI 101),(eI 3),(.sl 0 0 0 1 none 3)]),(eI 0),(eI 1),(eI 0)], [btreePlaces10], [((.val eB0), [])]⟩
theorem hTreePlaces982_ok : HOk Try.prog hTreePlaces982 := hok_eq mmTreePlaces_ok hmTreePlaces982_ok folTreePlaces (lf := 100000) (k := 1000) (by kernel_rfl)
def hmTreePlaces983 : List HE := hTreePlaces982 :: hmTreePlaces982
theorem hmTreePlaces983_ok : ∀ x ∈ hmTreePlaces983, HOk Try.prog x := hmemo_cons hTreePlaces982_ok hmTreePlaces982_ok
def hTreePlaces983 : HE := ⟨32, [(.agg [(eI 1),(.lit (.int .i64 (Int.negSucc 0))),(.lit (.slice none 0 0))]),(eI 0),(eI 1),(.lit (.int .i64 (Int.negSucc 0)))], [], [((.val eB0), [])]⟩
theorem hTreePlaces983_ok : HOk Try.prog hTreePlaces983 := hok_eq mmTreePlaces_ok hmTreePlaces983_ok folTreePlaces (lf := 100000) (k := 1000) (by kernel_rfl)
def hmTreePlaces984 : List HE := hTreePlaces983 :: hmTreePlaces983
theorem hmTreePlaces984_ok : ∀ x ∈ hmTreePlaces984, HOk Try.prog x := hmemo_cons hTreePlaces983_ok hmTreePlaces983_ok
def hTreePlaces984 : HE := ⟨32, [(.agg [(eI 100),(.lit (.int .i64 (Int.negSucc 0))),(.lit (.slice none 0 0))]),(eI 0),(eI 1),(.lit (.int .i64 (Int.negSucc 1)))], [], [((.val eB0), [])]⟩
theorem hTreePlaces984_ok : HOk Try.prog hTreePlaces984 := hok_eq mmTreePlaces_ok hmTreePlaces984_ok folTreePlaces (lf := 100000) (k := 1000) (by kernel_rfl)
def hmTreePlaces985 : List HE := hTreePlaces984 :: hmTreePlaces984
theorem hmTreePlaces985_ok : ∀ x ∈ hmTreePlaces985, HOk Try.prog x := hmemo_cons hTreePlaces984_ok hmTreePlaces984_ok
def hTreePlaces985 : HE := ⟨32, [(.agg [(eI 100),(eI 0),(.sl 0 2 0 3 none 3)]),(eI 0),(eI 1),(eI 0)], [btreePlaces13, btreePlaces10], [((.val eB0), [])]⟩
theorem hTreePlaces985_ok : HOk Try.prog hTreePlaces985 := hok_eq mmTreePlaces_ok hmTreePlaces985_ok folTreePlaces (lf := 100000) (k := 1000) (by kernel_rfl)
def hmTreePlaces986 : List HE := hTreePlaces985 :: hmTreePlaces985
theorem hmTreePlaces986_ok : ∀ x ∈ hmTreePlaces986, HOk Try.prog x := hmemo_cons hTreePlaces985_ok hmTreePlaces985_ok
def hTreePlaces986 : HE := ⟨32, [(.agg [(eI 100),(eI 0),(.sl 0 2 0 3 none 3)]),(eI 0),(eI 1),(eI 1)], [btreePlaces15, btreePlaces16, btreePlaces10], [((.val eB0), [])]⟩
theorem hTreePlaces986_ok : HOk Try.prog hTreePlaces986 := hok_eq mmTreePlaces_ok hmTreePlaces986_ok folTreePlaces (lf := 100000) (k := 1000) (by kernel_rfl)
def hmTreePlaces987 : List HE := hTreePlaces986 :: hmTreePlaces986
theorem hmTreePlaces987_ok : ∀ x ∈ hmTreePlaces987, HOk Try.prog x := hmemo_cons hTreePlaces986_ok hmTreePlaces986_ok
def hTreePlaces987 : HE := ⟨32, [(.agg [(eI 101),(eI 2),(.lit (.slice none 0 0))]),(eI 0),(eI 1),(eI 0)], [], [((.val eB0), [])]⟩
theorem hTreePlaces987_ok : HOk Try.prog hTreePlaces987 := hok_eq mmTreePlaces_ok hmTreePlaces987_ok folTreePlaces (lf := 100000) (k := 1000) (by kernel_rfl)
def hmTreePlaces988 : List HE := hTreePlaces987 :: hmTreePlaces987
theorem hmTreePlaces988_ok : ∀ x ∈ hmTreePlaces988, HOk Try.prog x := hmemo_cons hTreePlaces987_ok hmTreePlaces987_ok
def hTreePlaces988 : HE := ⟨32, [(.agg [(eI 100),(eI 0),(.sl 0 2 0 3 none 3)]),(eI 0),(eI 1),(eI 0)], [btreePlaces15, btreePlaces16, btreePlaces10], [((.val eB1), [])]⟩
theorem hTreePlaces988_ok : HOk Try.prog hTreePlaces988 := hok_eq mmTreePlaces_ok hmTreePlaces988_ok folTreePlaces (lf := 100000) (k := 1000) (by kernel_rfl)
def hmTreePlaces989 : List HE := hTreePlaces988 :: hmTreePlaces988
theorem hmTreePlaces989_ok : ∀ x ∈ hmTreePlaces989, HOk Try.prog x := hmemo_cons hTreePlaces988_ok hmTreePlaces988_ok
def hTreePlaces989 : HE := ⟨32, [(.agg [(eI 100),(eI 0),(.sl 0 2 0 3 none 3)]),(eI 0),(eI 1),(.lit (.int .i64 (Int.negSucc 0)))], [btreePlaces15, btreePlaces16, btreePlaces10], [((.val eB0), [])]⟩
theorem hTreePlaces989_ok : HOk Try.prog hTreePlaces989 := hok_eq mmTreePlaces_ok hmTreePlaces989_ok folTreePlaces (lf := 100000) (k := 1000) (by kernel_rfl)
def hmTreePlaces990 : List HE := hTreePlaces989 :: hmTreePlaces989
theorem hmTreePlaces990_ok : ∀ x ∈ hmTreePlaces990, HOk Try.prog x := hmemo_cons hTreePlaces989_ok hmTreePlaces989_ok
def hTreePlaces990 : HE := ⟨32, [(.agg [(eI 101),(eI 2),(.lit (.slice none 0 0))]),(eI 0),(eI 0),(eI 4)], [], [((.val eB0), [])]⟩
theorem hTreePlaces990_ok : HOk Try.prog hTreePlaces990 := hok_eq mmTreePlaces_ok hmTreePlaces990_ok folTreePlaces (lf := 100000) (k := 1000) (by kernel_rfl)
def hmTreePlaces991 : List HE := hTreePlaces990 :: hmTreePlaces990
theorem hmTreePlaces991_ok : ∀ x ∈ hmTreePlaces991, HOk Try.prog x := hmemo_cons hTreePlaces990_ok hmTreePlaces990_ok
def hTreePlaces991 : HE := ⟨32, [(.agg [(eI 1),(.lit (.int .i64 (Int.negSucc 0))),(.lit (.slice none 0 0))]),(eI 0),(eI 0),(eI 4)], [], [((.val eB0), [])]⟩
theorem hTreePlaces991_ok : HOk Try.prog hTreePlaces991 := hok_eq mmTreePlaces_ok hmTreePlaces991_ok folTreePlaces (lf := 100000) (k := 1000) (by kernel_rfl)
def hmTreePlaces992 : List HE := hTreePlaces991 :: hmTreePlaces991
theorem hmTreePlaces992_ok : ∀ x ∈ hmTreePlaces992, HOk Try.prog x := hmemo_cons hTreePlaces991_ok hmTreePlaces991_ok
def hTreePlaces992 : HE := ⟨32, [(.agg [(eI 3),(.lit (.int .i64 (Int.negSucc 0))),(.lit (.slice none 0 0))]),(eI 0),(eI 0),(eI 3)], [], [((.val eB0), [])]⟩
theorem hTreePlaces992_ok : HOk Try.prog hTreePlaces992 := hok_eq mmTreePlaces_ok hmTreePlaces992_ok folTreePlaces (lf := 100000) (k := 1000) (by kernel_rfl)
def hmTreePlaces993 : List HE := hTreePlaces992 :: hmTreePlaces992
theorem hmTreePlaces993_ok : ∀ x ∈ hmTreePlaces993, HOk Try.prog x := hmemo_cons hTreePlaces992_ok hmTreePlaces992_ok
def hTreePlaces993 : HE := ⟨32, [(.agg [(eI 101),(eI 3),(.sl 0 0 0 1 none 3)]),(eI 0),(eI 0),(eI 3)], [btreePlaces10], [((.val eB0), [])]⟩
theorem hTreePlaces993_ok : HOk Try.prog hTreePlaces993 := hok_eq mmTreePlaces_ok hmTreePlaces993_ok folTreePlaces (lf := 100000) (k := 1000) (by kernel_rfl)
def hmTreePlaces994 : List HE := hTreePlaces993 :: hmTreePlaces993
theorem hmTreePlaces994_ok : ∀ x ∈ hmTreePlaces994, HOk Try.prog x := hmemo_cons hTreePlaces993_ok hmTreePlaces993_ok
def hTreePlaces994 : HE := ⟨32, [(.agg [(eI 1),(.lit (.int .i64 (Int.negSucc 0))),(.lit (.slice none 0 0))]),(eI 0),(eI 0),(eI 2)], [], [((.val eB0), [])]⟩
theorem hTreePlaces994_ok : HOk Try.prog hTreePlaces994 := hok_eq mmTreePlaces_ok hmTreePlaces994_ok folTreePlaces (lf := 100000) (k := 1000) (by kernel_rfl)
def hmTreePlaces995 : List HE := hTreePlaces994 :: hmTreePlaces994
theorem hmTreePlaces995_ok : ∀ x ∈ hmTreePlaces995, HOk Try.prog x := hmemo_cons hTreePlaces994_ok hmTreePlaces994_ok
def hTreePlaces995 : HE := ⟨32, [(.agg [(eI 100),(.lit (.int .i64 (Int.negSucc 0))),(.lit (.slice none 0 0))]),(eI 0),(eI 0),(eI 1)], [], [((.val eB0), [])]⟩
theorem hTreePlaces995_ok : HOk Try.prog hTreePlaces995 := hok_eq mmTreePlaces_ok hmTreePlaces995_ok folTreePlaces (lf := 100000) (k := 1000) (by kernel_rfl)
def hmTreePlaces996 : List HE := hTreePlaces995 :: hmTreePlaces995
theorem hmTreePlaces996_ok : ∀ x ∈ hmTreePlaces996, HOk Try.prog x := hmemo_cons hTreePlaces995_ok hmTreePlaces995_ok
def hTreePlaces996 : HE := ⟨32, [(.agg [(eI 100),(eI 0),(.sl 0 2 0 3 none 3)]),(eI 0),(eI 0),(eI 3)], [btreePlaces13, btreePlaces10], [((.val eB0), [])]⟩
theorem hTreePlaces996_ok : HOk Try.prog hTreePlaces996 := hok_eq mmTreePlaces_ok hmTreePlaces996_ok folTreePlaces (lf := 100000) (k := 1000) (by kernel_rfl)
def hmTreePlaces997 : List HE := hTreePlaces996 :: hmTreePlaces996
theorem hmTreePlaces997_ok : ∀ x ∈ hmTreePlaces997, HOk Try.prog x := hmemo_cons hTreePlaces996_ok hmTreePlaces996_ok
def hTreePlaces997 : HE := ⟨32, [(.agg [(eI 100),(eI 0),(.sl 0 2 0 3 none 3)]),(eI 0),(eI 0),(eI 4)], [btreePlaces15, btreePlaces16, btreePlaces10], [((.val eB0), [])]⟩
theorem hTreePlaces997_ok : HOk Try.prog hTreePlaces997 := hok_eq mmTreePlaces_ok hmTreePlaces997_ok folTreePlaces (lf := 100000) (k := 1000) (by kernel_rfl)
def hmTreePlaces998 : List HE := hTreePlaces997 :: hmTreePlaces997
theorem hmTreePlaces998_ok : ∀ x ∈ hmTreePlaces998, HOk Try.prog x := hmemo_cons hTreePlaces997_ok hmTreePlaces997_ok
def hTreePlaces998 : HE := ⟨32, [(.agg [(eI 101),(eI 2),(.lit (.slice none 0 0))]),(eI 0),(eI 0),(eI 3)], [], [((.val eB0), [])]⟩
theorem hTreePlaces998_ok : HOk Try.prog hTreePlaces998 := hok_eq mmTreePlaces_ok hmTreePlaces998_ok folTreePlaces (lf := 100000) (k := 1000) (by kernel_rfl)
def hmTreePlaces999 : List HE := hTreePlaces998 :: hmTreePlaces998
theorem hmTreePlaces999_ok : ∀ x ∈ hmTreePlaces999, HOk Try.prog x := hmemo_cons hTreePlaces998_ok hmTreePlaces998_ok
def hTreePlaces999 : HE := ⟨32, [(.agg [(eI 1),(.lit (.int .i64 (Int.negSucc 0))),(.lit (.slice none 0 0))]),(eI 0),(eI 0),(eI 3)], [], [((.val eB0), [])]⟩
theorem hTreePlaces999_ok : HOk Try.prog hTreePlaces999 := hok_eq mmTreePlaces_ok hmTreePlaces999_ok folTreePlaces (lf := 100000) (k := 1000) (by kernel_rfl)
def hmTreePlaces1000 : List HE := hTreePlaces999 :: hmTreePlaces999
theorem hmTreePlaces1000_ok : ∀ x ∈ hmTreePlaces1000, HOk Try.prog x := hmemo_cons hTreePlaces999_ok hmTreePlaces999_ok
def hTreePlaces1000 : HE := ⟨32, [(.agg [(eI 3),(.lit (.int .i64 (Int.negSucc 0))),(.lit (.slice none 0 0))]),(eI 0),(eI 0),(eI 2)], [], [((.val eB0), [])]⟩
theorem hTreePlaces1000_ok : HOk Try.prog hTreePlaces1000 := hok_eq mmTreePlaces_ok hmTreePlaces1000_ok folTreePlaces (lf := 100000) (k := 1000) (by kernel_rfl)
def hmTreePlaces1001 : List HE := hTreePlaces1000 :: hmTreePlaces1000
theorem hmTreePlaces1001_ok : ∀ x ∈ hmTreePlaces1001, HOk Try.prog x := hmemo_cons hTreePlaces1000_ok hmTreePlaces1000_ok
def hTreePlaces1001 : HE := ⟨32, [(.agg [(eI 101),(eI 3),(.sl 0 0 0 1 none 3)]),(eI 0),(eI 0),(eI 2)], [btreePlaces10], [((.val eB0), [])]⟩
theorem hTreePlaces1001_ok : HOk Try.prog hTreePlaces1001 := hok_eq mmTreePlaces_ok hmTreePlaces1001_ok folTreePlaces (lf := 100000) (k := 1000) (by kernel_rfl)
def hmTreePlaces1002 : List HE := hTreePlaces1001 :: hmTreePlaces1001
theorem hmTreePlaces1002_ok : ∀ x ∈ hmTreePlaces1002, HOk Try.prog x := hmemo_cons hTreePlaces1001_ok hmTreePlaces1001_ok
def hTreePlaces1002 : HE := ⟨32, [(.agg [(eI 1),(.lit (.int .i64 (Int.negSucc 0))),(.lit (.slice none 0 0))]),(eI 0),(eI 0),(eI 1)], [], [((.val eB0), [])]⟩
theorem hTreePlaces1002_ok : HOk Try.prog hTreePlaces1002 := hok_eq mmTreePlaces_ok hmTreePlaces1002_ok folTreePlaces (lf := 100000) (k := 1000) (by kernel_rfl)
def hmTreePlaces1003 : List HE := hTreePlaces1002 :: hmTreePlaces1002
theorem hmTreePlaces1003_ok : ∀ x ∈ hmTreePlaces1003, HOk Try.prog x := hmemo_cons hTreePlaces1002_ok hmTreePlaces1002_ok
def hTreePlaces1003 : HE := ⟨32, [(.agg [(eI 100),(.lit (.int .i64 (Int.negSucc 0))),(.lit (.slice none 0 0))]),(eI 0),(eI 0),(eI 0)], [], [((.val eB0), [])]⟩
theorem hTreePlaces1003_ok : HOk Try.prog hTreePlaces1003 := hok_eq mmTreePlaces_ok hmTreePlaces1003_ok folTreePlaces (lf := 100000) (k := 1000) (by kernel_rfl)
def hmTreePlaces1004 : List HE := hTreePlaces1003 :: hmTreePlaces1003
theorem hmTreePlaces1004_ok : ∀ x ∈ hmTreePlaces1004, HOk Try.prog x := hmemo_cons hTreePlaces1003_ok hmTreePlaces1003_ok
def hTreePlaces1004 : HE := ⟨32, [(.agg [(eI 100),(eI 0),(.sl 0 2 0 3 none 3)]),(eI 0),(eI 0),(eI 2)], [btreePlaces13, btreePlaces10], [((.val eB0), [])]⟩
theorem hTreePlaces1004_ok : HOk Try.prog hTreePlaces1004 := hok_eq mmTreePlaces_ok hmTreePlaces1004_ok folTreePlaces (lf := 100000) (k := 1000) (by kernel_rfl)
def hmTreePlaces1005 : List HE := hTreePlaces1004 :: hmTreePlaces1004
theorem hmTreePlaces1005_ok : ∀ x ∈ hmTreePlaces1005, HOk Try.prog x := hmemo_cons hTreePlaces1004_ok hmTreePlaces1004_ok
def hTreePlaces1005 : HE := ⟨32, [(.agg [(eI 100),(eI 0),(.sl 0 2 0 3 none 3)]),(eI 0),(eI 0),(eI 3)], [btreePlaces15, btreePlaces16, btreePlaces10], [((.val eB0), [])]⟩
theorem hTreePlaces1005_ok : HOk Try.prog hTreePlaces1005 := hok_eq mmTreePlaces_ok hmTreePlaces1005_ok folTreePlaces (lf := 100000) (k := 1000) (by kernel_rfl)
def hmTreePlaces1006 : List HE := hTreePlaces1005 :: hmTreePlaces1005
theorem hmTreePlaces1006_ok : ∀ x ∈ hmTreePlaces1006, HOk Try.prog x := hmemo_cons hTreePlaces1005_ok hmTreePlaces1005_ok
def hTreePlaces1006 : HE := ⟨32, [(.agg [(eI 101),(eI 2),(.lit (.slice none 0 0))]),(eI 0),(eI 0),(eI 2)], [], [((.val eB0), [])]⟩
theorem hTreePlaces1006_ok : HOk Try.prog hTreePlaces1006 := hok_eq mmTreePlaces_ok hmTreePlaces1006_ok folTreePlaces (lf := 100000) (k := 1000) (by kernel_rfl)
def hmTreePlaces1007 : List HE := hTreePlaces1006 :: hmTreePlaces1006
theorem hmTreePlaces1007_ok : ∀ x ∈ hmTreePlaces1007, HOk Try.prog x := hmemo_cons hTreePlaces1006_ok hmTreePlaces1006_ok
def hTreePlaces1007 : HE := ⟨32, [(.agg [(eI 3),(.lit (.int .i64 (Int.negSucc 0))),(.lit (.slice none 0 0))]),(eI 0),(eI 0),(eI 1)], [], [((.val eB0), [])]⟩
theorem hTreePlaces1007_ok : HOk Try.prog hTreePlaces1007 := hok_eq mmTreePlaces_ok hmTreePlaces1007_ok folTreePlaces (lf := 100000) (k := 1000) (by kernel_rfl)
def hmTreePlaces1008 : List HE := hTreePlaces1007 :: hmTreePlaces1007
theorem hmTreePlaces1008_ok : ∀ x ∈ hmTreePlaces1008, HOk Try.prog x := hmemo_cons hTreePlaces1007_ok hmTreePlaces1007_ok
def hTreePlaces1008 : HE := ⟨32, [(.agg [(eI 101),(eI 3),(.sl 0 0 0 1 none 3)]),(eI 0),(eI 0),(eI 1)], [btreePlaces10], [((.val eB0), [])]⟩
theorem hTreePlaces1008_ok : HOk Try.prog hTreePlaces1008 := hok_eq mmTreePlaces_ok hmTreePlaces1008_ok folTreePlaces (lf := 100000) (k := 1000) (by kernel_rfl)
def hmTreePlaces1009 : List HE := hTreePlaces1008 :: hmTreePlaces1008
theorem hmTreePlaces1009_ok : ∀ x ∈ hmTreePlaces1009, HOk Try.prog x := hmemo_cons hTreePlaces1008_ok hmTreePlaces1008_ok
def hTreePlaces1009 : HE := ⟨32, [(.agg [(eI 1),(.lit (.int .i64 (Int.negSucc 0))),(.lit (.slice none 0 0))]),(eI 0),(eI 0),(eI 0)], [], [((.val eB0), [])]⟩
theorem hTreePlaces1009_ok : HOk Try.prog hTreePlaces1009 := hok_eq mmTreePlaces_ok hmTreePlaces1009_ok folTreePlaces (lf := 100000) (k := 1000) (by kernel_rfl)
def hmTreePlaces1010 : List HE := hTreePlaces1009 :: hmTreePlaces1009
theorem hmTreePlaces1010_ok : ∀ x ∈ hmTreePlaces1010, HOk Try.prog x := hmemo_cons hTreePlaces1009_ok hmTreePlaces1009_ok
def hTreePlaces1010 : HE := ⟨32, [(.agg [(eI 100),(.lit (.int .i64 (Int.negSucc 0))),(.lit (.slice none 0 0))]),(eI 0),(eI 0),(.lit (.int .i64 (Int.negSucc 0)))], [], [((.val eB0), [])]⟩
theorem hTreePlaces1010_ok : HOk Try.prog hTreePlaces1010 := hok_eq mmTreePlaces_ok hmTreePlaces1010_ok folTreePlaces (lf := 100000) (k := 1000) (by kernel_rfl)
def hmTreePlaces1011 : List HE := hTreePlaces1010 :: hmTreePlaces1010
theorem hmTreePlaces1011_ok : ∀ x ∈ hmTreePlaces1011, HOk Try.prog x := hmemo_cons hTreePlaces1010_ok hmTreePlaces1010_ok
def hTreePlaces1011 : HE := ⟨32, [(.agg [(eI 100),(eI 0),(.sl 0 2 0 3 none 3)]),(eI 0),(eI 0),(eI 1)], [btreePlaces13, btreePlaces10], [((.val eB0), [])]⟩
theorem hTreePlaces1011_ok : HOk Try.prog hTreePlaces1011 := hok_eq mmTreePlaces_ok hmTreePlaces1011_ok folTreePlaces (lf := 100000) (k := 1000) (by kernel_rfl)
def hmTreePlaces1012 : List HE := hTreePlaces1011 :: hmTreePlaces1011
theorem hmTreePlaces1012_ok : ∀ x ∈ hmTreePlaces1012, HOk Try.prog x := hmemo_cons hTreePlaces1011_ok hmTreePlaces1011_ok
def hTreePlaces1012 : HE := ⟨32, [(.agg [(eI 100),(eI 0),(.sl 0 2 0 3 none 3)]),(eI 0),(eI 0),(eI 2)], [btreePlaces15, btreePlaces16, btreePlaces10], [((.val eB0), [])]⟩
theorem hTreePlaces1012_ok : HOk Try.prog hTreePlaces1012 := hok_eq mmTreePlaces_ok hmTreePlaces1012_ok folTreePlaces (lf := 100000) (k := 1000) (by kernel_rfl)
def hmTreePlaces1013 : List HE := hTreePlaces1012 :: hmTreePlaces1012
theorem hmTreePlaces1013_ok : ∀ x ∈ hmTreePlaces1013, HOk Try.prog x := hmemo_cons hTreePlaces1012_ok hmTreePlaces1012_ok
def hTreePlaces1013 : HE := ⟨32, [(.agg [(eI 101),(eI 2),(.lit (.slice none 0 0))]),(eI 0),(eI 0),(eI 1)], [], [((.val eB0), [])]⟩
theorem hTreePlaces1013_ok : HOk Try.prog hTreePlaces1013 := hok_eq mmTreePlaces_ok hmTreePlaces1013_ok folTreePlaces (lf := 100000) (k := 1000) (by kernel_rfl)
def hmTreePlaces1014 : List HE := hTreePlaces1013 :: hmTreePlaces1013
theorem hmTreePlaces1014_ok : ∀ x ∈ hmTreePlaces1014, HOk Try.prog x := hmemo_cons hTreePlaces1013_ok hmTreePlaces1013_ok
def hTreePlaces1014 : HE := ⟨32, [(.agg [(eI 100),(eI 0),(.sl 0 2 0 3 none 3)]),(eI 0),(eI 0),(eI 0)], [btreePlaces13, btreePlaces10], [((.val eB1), [])]⟩
theorem hTreePlaces1014_ok : HOk Try.prog hTreePlaces1014 := hok_eq mmTreePlaces_ok hmTreePlaces1014_ok folTreePlaces (lf := 100000) (k := 1000) (by kernel_rfl)
def hmTreePlaces1015 : List HE := hTreePlaces1014 :: hmTreePlaces1014
theorem hmTreePlaces1015_ok : ∀ x ∈ hmTreePlaces1015, HOk Try.prog x := hmemo_cons hTreePlaces1014_ok hmTreePlaces1014_ok
def hTreePlaces1015 : HE := ⟨32, [(.agg [(eI 100),(eI 0),(.sl 0 2 0 3 none 3)]),(eI 0),(eI 0),(eI 1)], [btreePlaces15, btreePlaces16, btreePlaces10], [((.val eB1), [])]⟩
theorem hTreePlaces1015_ok : HOk Try.prog hTreePlaces1015 := hok_eq mmTreePlaces_ok hmTreePlaces1015_ok folTreePlaces (lf := 100000) (k := 1000) (by kernel_rfl)
def hmTreePlaces1016 : List HE := hTreePlaces1015 :: hmTreePlaces1015
theorem hmTreePlaces1016_ok : ∀ x ∈ hmTreePlaces1016, HOk Try.prog x := hmemo_cons hTreePlaces1015_ok hmTreePlaces1015_ok
def hTreePlaces1016 : HE := ⟨32, [(.agg [(eI 100),(eI 0),(.sl 0 2 0 3 none 3)]),(eI 0),(eI 0),(eI 0)], [btreePlaces15, btreePlaces16, btreePlaces10], [((.val eB1), [])]⟩
theorem hTreePlaces1016_ok : HOk Try.prog hTreePlaces1016 := hok_eq mmTreePlaces_ok hmTreePlaces1016_ok folTreePlaces (lf := 100000) (k := 1000) (by kernel_rfl)
def hmTreePlaces1017 : List HE := hTreePlaces1016 :: hmTreePlaces1016
theorem hmTreePlaces1017_ok : ∀ x ∈ hmTreePlaces1017, HOk Try.prog x := hmemo_cons hTreePlaces1016_ok hmTreePlaces1016_ok
def hTreePlaces1017 : HE := ⟨32, [(.agg [(eI 100),(eI 0),(.sl 0 2 0 3 none 3)]),(eI 0),(eI 0),(.lit (.int .i64 (Int.negSucc 0)))], [btreePlaces15, btreePlaces16, btreePlaces10], [((.val eB0), [])]⟩
theorem hTreePlaces1017_ok : HOk Try.prog hTreePlaces1017 := hok_eq mmTreePlaces_ok hmTreePlaces1017_ok folTreePlaces (lf := 100000) (k := 1000) (by kernel_rfl)
def hmTreePlaces1018 : List HE := hTreePlaces1017 :: hmTreePlaces1017
theorem hmTreePlaces1018_ok : ∀ x ∈ hmTreePlaces1018, HOk Try.prog x := hmemo_cons hTreePlaces1017_ok hmTreePlaces1017_ok
def hTreePlaces1018 : HE := ⟨32, [(.agg [(eI 101),(eI 2),(.lit (.slice none 0 0))]),(eI 0),(.lit (.int .i64 (Int.negSucc 0))),(eI 4)], [], [((.val eB0), [])]⟩
theorem hTreePlaces1018_ok : HOk Try.prog hTreePlaces1018 := hok_eq mmTreePlaces_ok hmTreePlaces1018_ok folTreePlaces (lf := 100000) (k := 1000) (by kernel_rfl)
def hmTreePlaces1019 : List HE := hTreePlaces1018 :: hmTreePlaces1018
theorem hmTreePlaces1019_ok : ∀ x ∈ hmTreePlaces1019, HOk Try.prog x := hmemo_cons hTreePlaces1018_ok hmTreePlaces1018_ok
def hTreePlaces1019 : HE := ⟨32, [(.agg [(eI 1),(.lit (.int .i64 (Int.negSucc 0))),(.lit (.slice none 0 0))]),(eI 0),(.lit (.int .i64 (Int.negSucc 0))),(eI 4)], [], [((.val eB0), [])]⟩
theorem hTreePlaces1019_ok : HOk Try.prog hTreePlaces1019 := hok_eq mmTreePlaces_ok hmTreePlaces1019_ok folTreePlaces (lf := 100000) (k := 1000) (by kernel_rfl)
def hmTreePlaces1020 : List HE := hTreePlaces1019 :: hmTreePlaces1019
theorem hmTreePlaces1020_ok : ∀ x ∈ hmTreePlaces1020, HOk Try.prog x := hmemo_cons hTreePlaces1019_ok hmTreePlaces1019_ok
def hTreePlaces1020 : HE := ⟨32, [(.agg [(eI 3),(.lit (.int .i64 (Int.negSucc 0))),(.lit (.slice none 0 0))]),(eI 0),(.lit (.int .i64 (Int.negSucc 0))),(eI 3)], [], [((.val eB0), [])]⟩
theorem hTreePlaces1020_ok : HOk Try.prog hTreePlaces1020 := hok_eq mmTreePlaces_ok hmTreePlaces1020_ok folTreePlaces (lf := 100000) (k := 1000) (by kernel_rfl)
def hmTreePlaces1021 : List HE := hTreePlaces1020 :: hmTreePlaces1020
theorem hmTreePlaces1021_ok : ∀ x ∈ hmTreePlaces1021, HOk Try.prog x := hmemo_cons hTreePlaces1020_ok hmTreePlaces1020_ok
def hTreePlaces1021 : HE := ⟨32, [(.agg [(eI 101),(eI 3),(.sl 0 0 0 1 none 3)]),(eI 0),(.lit (.int .i64 (Int.negSucc 0))),(eI 3)], [btreePlaces10], [((.val eB0), [])]⟩
theorem hTreePlaces1021_ok : HOk Try.prog hTreePlaces1021 := hok_eq mmTreePlaces_ok hmTreePlaces1021_ok folTreePlaces (lf := 100000) (k := 1000) (by kernel_rfl)
def hmTreePlaces1022 : List HE := hTreePlaces1021 :: hmTreePlaces1021
theorem hmTreePlaces1022_ok : ∀ x ∈ hmTreePlaces1022, HOk Try.prog x := hmemo_cons hTreePlaces1021_ok hmTreePlaces1021_ok
def hTreePlaces1022 : HE := ⟨32, [(.agg [(eI 1),(.lit (.int .i64 (Int.negSucc 0))),(.lit (.slice none 0 0))]),(eI 0),(.lit (.int .i64 (Int.negSucc 0))),(eI 2)], [], [((.val eB0), [])]⟩
theorem hTreePlaces1022_ok : HOk Try.prog hTreePlaces1022 := hok_eq mmTreePlaces_ok hmTreePlaces1022_ok folTreePlaces (lf := 100000) (k := 1000) (by kernel_rfl)
def hmTreePlaces1023 : List HE := hTreePlaces1022 :: hmTreePlaces1022
theorem hmTreePlaces1023_ok : ∀ x ∈ hmTreePlaces1023, HOk Try.prog x := hmemo_cons hTreePlaces1022_ok hmTreePlaces1022_ok
def hTreePlaces1023 : HE := ⟨32, [(.agg [(eI 100),(.lit (.int .i64 (Int.negSucc 0))),(.lit (.slice none 0 0))]),(eI 0),(.lit (.int .i64 (Int.negSucc 0))),(eI 1)], [], [((.val eB0), [])]⟩
theorem hTreePlaces1023_ok : HOk Try.prog hTreePlaces1023 := hok_eq mmTreePlaces_ok hmTreePlaces1023_ok folTreePlaces (lf := 100000) (k := 1000) (by kernel_rfl)
def hmTreePlaces1024 : List HE := hTreePlaces1023 :: hmTreePlaces1023
theorem hmTreePlaces1024_ok : ∀ x ∈ hmTreePlaces1024, HOk Try.prog x := hmemo_cons hTreePlaces1023_ok hmTreePlaces1023_ok
def hTreePlaces1024 : HE := ⟨32, [(.agg [(eI 100),(eI 0),(.sl 0 2 0 3 none 3)]),(eI 0),(.lit (.int .i64 (Int.negSucc 0))),(eI 3)], [btreePlaces13, btreePlaces10], [((.val eB0), [])]⟩
theorem hTreePlaces1024_ok : HOk Try.prog hTreePlaces1024 := hok_eq mmTreePlaces_ok hmTreePlaces1024_ok folTreePlaces (lf := 100000) (k := 1000) (by kernel_rfl)
def hmTreePlaces1025 : List HE := hTreePlaces1024 :: hmTreePlaces1024
theorem hmTreePlaces1025_ok : ∀ x ∈ hmTreePlaces1025, HOk Try.prog x := hmemo_cons hTreePlaces1024_ok hmTreePlaces1024_ok
def hTreePlaces1025 : HE := ⟨32, [(.agg [(eI 100),(eI 0),(.sl 0 2 0 3 none 3)]),(eI 0),(.lit (.int .i64 (Int.negSucc 0))),(eI 4)], [btreePlaces15, btreePlaces16, btreePlaces10], [((.val eB0), [])]⟩
theorem hTreePlaces1025_ok : HOk Try.prog hTreePlaces1025 := hok_eq mmTreePlaces_ok hmTreePlaces1025_ok folTreePlaces (lf := 100000) (k := 1000) (by kernel_rfl)
def hmTreePlaces1026 : List HE := hTreePlaces1025 :: hmTreePlaces1025
theorem hmTreePlaces1026_ok : ∀ x ∈ hmTreePlaces1026, HOk Try.prog x := hmemo_cons hTreePlaces1025_ok hmTreePlaces1025_ok
def hTreePlaces1026 : HE := ⟨32, [(.agg [(eI 101),(eI 2),(.lit (.slice none 0 0))]),(eI 0),(.lit (.int .i64 (Int.negSucc 0))),(eI 3)], [], [((.val eB0), [])]⟩
theorem hTreePlaces1026_ok : HOk Try.prog hTreePlaces1026 := hok_eq mmTreePlaces_ok hmTreePlaces1026_ok folTreePlaces (lf := 100000) (k := 1000) (by kernel_rfl)
def hmTreePlaces1027 : List HE := hTreePlaces1026 :: hmTreePlaces1026
theorem hmTreePlaces1027_ok : ∀ x ∈ hmTreePlaces1027, HOk Try.prog x := hmemo_cons hTreePlaces1026_ok hmTreePlaces1026_ok
def hTreePlaces1027 : HE := ⟨32, [(.agg [(eI 1),(.lit (.int .i64 (Int.negSucc 0))),(.lit (.slice none 0 0))]),(eI 0),(.lit (.int .i64 (Int.negSucc 0))),(eI 3)], [], [((.val eB0), [])]⟩
theorem hTreePlaces1027_ok : HOk Try.prog hTreePlaces1027 := hok_eq mmTreePlaces_ok hmTreePlaces1027_ok folTreePlaces (lf := 100000) (k := 1000) (by kernel_rfl)
def hmTreePlaces1028 : List HE := hTreePlaces1027 :: hmTreePlaces1027
theorem hmTreePlaces1028_ok : ∀ x ∈ hmTreePlaces1028, HOk Try.prog x := hmemo_cons hTreePlaces1027_ok hmTreePlaces1027_ok
def hTreePlaces1028 : HE := ⟨32, [(.agg [(eI 3),(.lit (.int .i64 (Int.negSucc 0))),(.lit (.slice none 0 0))]),(eI 0),(.lit (.int .i64 (Int.negSucc 0))),(eI 2)], [], [((.val eB0), [])]⟩
theorem hTreePlaces1028_ok : HOk Try.prog hTreePlaces1028 := hok_eq mmTreePlaces_ok hmTreePlaces1028_ok folTreePlaces (lf := 100000) (k := 1000) (by kernel_rfl)
def hmTreePlaces1029 : List HE := hTreePlaces1028 :: hmTreePlaces1028
theorem hmTreePlaces1029_ok : ∀ x ∈ hmTreePlaces1029, HOk Try.prog x := hmemo_cons hTreePlaces1028_ok hmTreePlaces1028_ok
def hTreePlaces1029 : HE := ⟨32, [(.agg [(eI 101),(eI 3),(.sl 0 0 0 1 none 3)]),(eI 0),(.lit (.int .i64 (Int.negSucc 0))),(eI 2)], [btreePlaces10], [((.val eB0), [])]⟩
theorem hTreePlaces1029_ok : HOk Try.prog hTreePlaces1029 := hok_eq mmTreePlaces_ok hmTreePlaces1029_ok folTreePlaces (lf := 100000) (k := 1000) (by kernel_rfl)
def hmTreePlaces1030 : List HE := hTreePlaces1029 :: hmTreePlaces1029
theorem hmTreePlaces1030_ok : ∀ x ∈ hmTreePlaces1030, HOk Try.prog x := hmemo_cons hTreePlaces1029_ok hmTreePlaces1029_ok
def hTreePlaces1030 : HE := ⟨32, [(.agg [(eI 1),(.lit (.int .i64 (Int.negSucc 0))),(.lit (.slice none 0 0))]),(eI 0),(.lit (.int .i64 (Int.negSucc 0))),(eI 1)], [], [((.val eB0), [])]⟩
theorem hTreePlaces1030_ok : HOk Try.prog hTreePlaces1030 := hok_eq mmTreePlaces_ok hmTreePlaces1030_ok folTreePlaces (lf := 100000) (k := 1000) (by kernel_rfl)
def hmTreePlaces1031 : List HE := hTreePlaces1030 :: hmTreePlaces1030
theorem hmTreePlaces1031_ok : ∀ x ∈ hmTreePlaces1031, HOk Try.prog x := hmemo_cons hTreePlaces1030_ok hmTreePlaces1030_ok
def hTreePlaces1031 : HE := ⟨32, [(.agg [(eI 100),(.lit (.int .i64 (Int.negSucc 0))),(.lit (.slice none 0 0))]),(eI 0),(.lit (.int .i64 (Int.negSucc 0))),(eI 0)], [], [((.val eB0), [])]⟩
theorem hTreePlaces1031_ok : HOk Try.prog hTreePlaces1031 := hok_eq mmTreePlaces_ok hmTreePlaces1031_ok folTreePlaces (lf := 100000) (k := 1000) (by kernel_rfl)
def hmTreePlaces1032 : List HE := hTreePlaces1031 :: hmTreePlaces1031
theorem hmTreePlaces1032_ok : ∀ x ∈ hmTreePlaces1032, HOk Try.prog x := hmemo_cons hTreePlaces1031_ok hmTreePlaces1031_ok
def hTreePlaces1032 : HE := ⟨32, [(.agg [(eI 100),(eI 0),(.sl 0 2 0 3 none 3)]),(eI 0),(.lit (.int .i64 (Int.negSucc 0))),(eI 2)], [btreePlaces13, btreePlaces10], [((.val eB0), [])]⟩
theorem hTreePlaces1032_ok : HOk Try.prog hTreePlaces1032 := hok_eq mmTreePlaces_ok hmTreePlaces1032_ok folTreePlaces (lf := 100000) (k := 1000) (by kernel_rfl)
def hmTreePlaces1033 : List HE := hTreePlaces1032 :: hmTreePlaces1032
theorem hmTreePlaces1033_ok : ∀ x ∈ hmTreePlaces1033, HOk Try.prog x := hmemo_cons hTreePlaces1032_ok hmTreePlaces1032_ok
def hTreePlaces1033 : HE := ⟨32, [(.agg [(eI 100),(eI 0),(.sl 0 2 0 3 none 3)]),(eI 0),(.lit (.int .i64 (Int.negSucc 0))),(eI 3)], [btreePlaces15, btreePlaces16, btreePlaces10], [((.val eB0), [])]⟩
theorem hTreePlaces1033_ok : HOk Try.prog hTreePlaces1033 := hok_eq mmTreePlaces_ok hmTreePlaces1033_ok folTreePlaces (lf := 100000) (k := 1000) (by kernel_rfl)
def hmTreePlaces1034 : List HE := hTreePlaces1033 :: hmTreePlaces1033
theorem hmTreePlaces1034_ok : ∀ x ∈ hmTreePlaces1034, HOk Try.prog x := hmemo_cons hTreePlaces1033_ok hmTreePlaces1033_ok
def hTreePlaces1034 : HE := ⟨32, [(.agg [(eI 101),(eI 2),(.lit (.slice none 0 0))]),(eI 0),(.lit (.int .i64 (Int.negSucc 0))),(eI 2)], [], [((.val eB0), [])]⟩
theorem hTreePlaces1034_ok : HOk Try.prog hTreePlaces1034 := hok_eq mmTreePlaces_ok hmTreePlaces1034_ok folTreePlaces (lf := 100000) (k := 1000) (by kernel_rfl)
def hmTreePlaces1035 : List HE := hTreePlaces1034 :: hmTreePlaces1034
theorem hmTreePlaces1035_ok : ∀ x ∈ hmTreePlaces1035, HOk Try.prog x := hmemo_cons hTreePlaces1034_ok hmTreePlaces1034_ok
def hTreePlaces1035 : HE := ⟨32, [(.agg [(eI 3),(.lit (.int .i64 (Int.negSucc 0))),(.lit (.slice none 0 0))]),(eI 0),(.lit (.int .i64 (Int.negSucc 0))),(eI 1)], [], [((.val eB0), [])]⟩
theorem hTreePlaces1035_ok : HOk Try.prog hTreePlaces1035 := hok_eq mmTreePlaces_ok hmTreePlaces1035_ok folTreePlaces (lf := 100000) (k := 1000) (by kernel_rfl)
def hmTreePlaces1036 : List HE := hTreePlaces1035 :: hmTreePlaces1035
theorem hmTreePlaces1036_ok : ∀ x ∈ hmTreePlaces1036, HOk Try.prog x := hmemo_cons hTreePlaces1035_ok hmTreePlaces1035_ok
def hTreePlaces1036 : HE := ⟨32, [(.agg [(eI 101),(eI 3),(.sl 0 0 0 1 none 3)]),(eI 0),(.lit (.int .i64 (Int.negSucc 0))),(eI 1)], [btreePlaces10], [((.val eB0), [])]⟩
theorem hTreePlaces1036_ok : HOk Try.prog hTreePlaces1036 := hok_eq mmTreePlaces_ok hmTreePlaces1036_ok folTreePlaces (lf := 100000) (k := 1000) (by kernel_rfl)
def hmTreePlaces1037 : List HE := hTreePlaces1036 :: hmTreePlaces1036
theorem hmTreePlaces1037_ok : ∀ x ∈ hmTreePlaces1037, HOk Try.prog x := hmemo_cons hTreePlaces1036_ok hmTreePlaces1036_ok
def hTreePlaces1037 : HE := ⟨32, [(.agg [(eI 1),(.lit (.int .i64 (Int.negSucc 0))),(.lit (.slice none 0 0))]),(eI 0),(.lit (.int .i64 (Int.negSucc 0))),(eI 0)], [], [((.val eB0), [])]⟩
theorem hTreePlaces1037_ok : HOk Try.prog hTreePlaces1037 := hok_eq mmTreePlaces_ok hmTreePlaces1037_ok folTreePlaces (lf := 100000) (k := 1000) (by kernel_rfl)
def hmTreePlaces1038 : List HE := hTreePlaces1037 :: hmTreePlaces1037
theorem hmTreePlaces1038_ok : ∀ x ∈ hmTreePlaces1038, HOk Try.prog x := hmemo_cons hTreePlaces1037_ok hmTreePlaces1037_ok
def hTreePlaces1038 : HE := ⟨32, [(.agg [(eI 100),(.lit (.int .i64 (Int.negSucc 0))),(.lit (.slice none 0 0))]),(eI 0),(.lit (.int .i64 (Int.negSucc 0))),(.lit (.int .i64 (Int.negSucc 0)))], [], [((.val eB0), [])]⟩
theorem hTreePlaces1038_ok : HOk Try.prog hTreePlaces1038 := hok_eq mmTreePlaces_ok hmTreePlaces1038_ok folTreePlaces (lf := 100000) (k := 1000) (by kernel_rfl)
def hmTreePlaces1039 : List HE := hTreePlaces1038 :: hmTreePlaces1038
theorem hmTreePlaces1039_ok : ∀ x ∈ hmTreePlaces1039, HOk Try.prog x := hmemo_cons hTreePlaces1038_ok hmTreePlaces1038_ok
def hTreePlaces1039 : HE := ⟨32, [(.agg [(eI 100),(eI 0),(.sl 0 2 0 3 none 3)]),(eI 0),(.lit (.int .i64 (Int.negSucc 0))),(eI 1)], [btreePlaces13, btreePlaces10], [((.val eB0), [])]⟩
theorem hTreePlaces1039_ok : HOk Try.prog hTreePlaces1039 := hok_eq mmTreePlaces_ok hmTreePlaces1039_ok folTreePlaces (lf := 100000) (k := 1000) (by kernel_rfl)
def hmTreePlaces1040 : List HE := hTreePlaces1039 :: hmTreePlaces1039
theorem hmTreePlaces1040_ok : ∀ x ∈ hmTreePlaces1040, HOk Try.prog x := hmemo_cons hTreePlaces1039_ok hmTreePlaces1039_ok
def hTreePlaces1040 : HE := ⟨32, [(.agg [(eI 100),(eI 0),(.sl 0 2 0 3 none 3)]),(eI 0),(.lit (.int .i64 (Int.negSucc 0))),(eI 2)], [btreePlaces15, btreePlaces16, btreePlaces10], [((.val eB0), [])]⟩
theorem hTreePlaces1040_ok : HOk Try.prog hTreePlaces1040 := hok_eq mmTreePlaces_ok hmTreePlaces1040_ok folTreePlaces (lf := 100000) (k := 1000) (by kernel_rfl)
def hmTreePlaces1041 : List HE := hTreePlaces1040 :: hmTreePlaces1040
theorem hmTreePlaces1041_ok : ∀ x ∈ hmTreePlaces1041, HOk Try.prog x := hmemo_cons hTreePlaces1040_ok hmTreePlaces1040_ok
def hTreePlaces1041 : HE := ⟨32, [(.agg [(eI 101),(eI 2),(.lit (.slice none 0 0))]),(eI 0),(.lit (.int .i64 (Int.negSucc 0))),(eI 1)], [], [((.val eB0), [])]⟩
theorem hTreePlaces1041_ok : HOk Try.prog hTreePlaces1041 := hok_eq mmTreePlaces_ok hmTreePlaces1041_ok folTreePlaces (lf := 100000) (k := 1000) (by kernel_rfl)
def hmTreePlaces1042 : List HE := hTreePlaces1041 :: hmTreePlaces1041
theorem hmTreePlaces1042_ok : ∀ x ∈ hmTreePlaces1042, HOk Try.prog x := hmemo_cons hTreePlaces1041_ok hmTreePlaces1041_ok
def hTreePlaces1042 : HE := ⟨32, [(.agg [(eI 3),(.lit (.int .i64 (Int.negSucc 0))),(.lit (.slice none 0 0))]),(eI 0),(.lit (.int .i64 (Int.negSucc 0))),(eI 0)], [], [((.val eB0), [])]⟩
theorem hTreePlaces1042_ok : HOk Try.prog hTreePlaces1042 := hok_eq mmTreePlaces_ok hmTreePlaces1042_ok folTreePlaces (lf := 100000) (k := 1000) (by kernel_rfl)
def hmTreePlaces1043 : List HE := hTreePlaces1042 :: hmTreePlaces1042
theorem hmTreePlaces1043_ok : ∀ x ∈ hmTreePlaces1043, HOk Try.prog x := hmemo_cons hTreePlaces1042_ok hmTreePlaces1042_ok
def hTreePlaces1043 : HE := ⟨32, [(.agg [(eI 101),(eI 3),(.sl 0 0 0 1 none 3)]),(eI 0),(.lit (.int .i64 (Int.negSucc 0))),(eI 0)], [btreePlaces10], [((.val eB0), [])]⟩
theorem hTreePlaces1043_ok : HOk Try.prog hTreePlaces1043 := hok_eq mmTreePlaces_ok hmTreePlaces1043_ok folTreePlaces (lf := 100000) (k := 1000) (by kernel_rfl)
def hmTreePlaces1044 : List HE := hTreePlaces1043 :: hmTreePlaces1043
theorem hmTreePlaces1044_ok : ∀ x ∈ hmTreePlaces1044, HOk Try.prog x := hmemo_cons hTreePlaces1043_ok hmTreePlaces1043_ok
def hTreePlaces1044 : HE := ⟨32, [(.agg [(eI 1),(.lit (.int .i64 (Int.negSucc 0))),(.lit (.slice none 0 0))]),(eI 0),(.lit (.int .i64 (Int.negSucc 0))),(.lit (.int .i64 (Int.negSucc 0)))], [], [((.val eB0), [])]⟩
theorem hTreePlaces1044_ok : HOk Try.prog hTreePlaces1044 := hok_eq mmTreePlaces_ok hmTreePlaces1044_ok folTreePlaces (lf := 100000) (k := 1000) (by kernel_rfl)
def hmTreePlaces1045 : List HE := hTreePlaces1044 :: hmTreePlaces1044
theorem hmTreePlaces1045_ok : ∀ x ∈ hmTreePlaces1045, HOk Try.prog x := hmemo_cons hTreePlaces1044_ok hmTreePlaces1044_ok
def hTreePlaces1045 : HE := ⟨32, [(.agg [(eI 100),(.lit (.int .i64 (Int.negSucc 0))),(.lit (.slice none 0 0))]),(eI 0),(.lit (.int .i64 (Int.negSucc 0))),(.lit (.int .i64 (Int.negSucc 1)))], [], [((.val eB0), [])]⟩
theorem hTreePlaces1045_ok : HOk Try.prog hTreePlaces1045 := hok_eq mmTreePlaces_ok hmTreePlaces1045_ok folTreePlaces (lf := 100000) (k := 1000) (by kernel_rfl)
def hmTreePlaces1046 : List HE := hTreePlaces1045 :: hmTreePlaces1045
theorem hmTreePlaces1046_ok : ∀ x ∈ hmTreePlaces1046, HOk Try.prog x := hmemo_cons hTreePlaces1045_ok hmTreePlaces1045_ok
def hTreePlaces1046 : HE := ⟨32, [(.agg [(eI 100),(eI 0),(.sl 0 2 0 3 none 3)]),(eI 0),(.lit (.int .i64 (Int.negSucc 0))),(eI 0)], [btreePlaces13, btreePlaces10], [((.val eB0), [])]⟩
theorem hTreePlaces1046_ok : HOk Try.prog hTreePlaces1046 := hok_eq mmTreePlaces_ok hmTreePlaces1046_ok folTreePlaces (lf := 100000) (k := 1000) (by kernel_rfl)
def hmTreePlaces1047 : List HE := hTreePlaces1046 :: hmTreePlaces1046
theorem hmTreePlaces1047_ok : ∀ x ∈ hmTreePlaces1047, HOk Try.prog x := hmemo_cons hTreePlaces1046_ok hmTreePlaces1046_ok
def hTreePlaces1047 : HE := ⟨32, [(.agg [(eI 100),(eI 0),(.sl 0 2 0 3 none 3)]),(eI 0),(.lit (.int .i64 (Int.negSucc 0))),(eI 1)], [btreePlaces15, btreePlaces16, btreePlaces10], [((.val eB0), [])]⟩
theorem hTreePlaces1047_ok : HOk Try.prog hTreePlaces1047 := hok_eq mmTreePlaces_ok hmTreePlaces1047_ok folTreePlaces (lf := 100000) (k := 1000) (by kernel_rfl)
def hmTreePlaces1048 : List HE := hTreePlaces1047 :: hmTreePlaces1047
theorem hmTreePlaces1048_ok : ∀ x ∈ hmTreePlaces1048, HOk Try.prog x := hmemo_cons hTreePlaces1047_ok hmTreePlaces1047_ok
def hTreePlaces1048 : HE := ⟨32, [(.agg [(eI 101),(eI 2),(.lit (.slice none 0 0))]),(eI 0),(.lit (.int .i64 (Int.negSucc 0))),(eI 0)], [], [((.val eB0), [])]⟩
theorem hTreePlaces1048_ok : HOk Try.prog hTreePlaces1048 := hok_eq mmTreePlaces_ok hmTreePlaces1048_ok folTreePlaces (lf := 100000) (k := 1000) (by kernel_rfl)
def hmTreePlaces1049 : List HE := hTreePlaces1048 :: hmTreePlaces1048
theorem hmTreePlaces1049_ok : ∀ x ∈ hmTreePlaces1049, HOk Try.prog x := hmemo_cons hTreePlaces1048_ok hmTreePlaces1048_ok
def hTreePlaces1049 : HE := ⟨32, [(.agg [(eI 100),(eI 0),(.sl 0 2 0 3 none 3)]),(eI 0),(.lit (.int .i64 (Int.negSucc 0))),(.lit (.int .i64 (Int.negSucc 0)))], [btreePlaces13, btreePlaces10], [((.val eB0), [])]⟩
theorem hTreePlaces1049_ok : HOk Try.prog hTreePlaces1049 := hok_eq mmTreePlaces_ok hmTreePlaces1049_ok folTreePlaces (lf := 100000) (k := 1000) (by kernel_rfl)
def hmTreePlaces1050 : List HE := hTreePlaces1049 :: hmTreePlaces1049
theorem hmTreePlaces1050_ok : ∀ x ∈ hmTreePlaces1050, HOk Try.prog x := hmemo_cons hTreePlaces1049_ok hmTreePlaces1049_ok
def hTreePlaces1050 : HE := ⟨32, [(.agg [(eI 100),(eI 0),(.sl 0 2 0 3 none 3)]),(eI 0),(.lit (.int .i64 (Int.negSucc 0))),(eI 0)], [btreePlaces15, btreePlaces16, btreePlaces10], [((.val eB0), [])]⟩
theorem hTreePlaces1050_ok : HOk Try.prog hTreePlaces1050 := hok_eq mmTreePlaces_ok hmTreePlaces1050_ok folTreePlaces (lf := 100000) (k := 1000) (by kernel_rfl)
def hmTreePlaces1051 : List HE := hTreePlaces1050 :: hmTreePlaces1050
theorem hmTreePlaces1051_ok : ∀ x ∈ hmTreePlaces1051, HOk Try.prog x := hmemo_cons hTreePlaces1050_ok hmTreePlaces1050_ok
def hTreePlaces1051 : HE := ⟨32, [(.agg [(eI 100),(eI 0),(.sl 0 2 0 3 none 3)]),(eI 0),(.lit (.int .i64 (Int.negSucc 0))),(.lit (.int .i64 (Int.negSucc 0)))], [btreePlaces15, btreePlaces16, btreePlaces10], [((.val eB0), [])]⟩
theorem hTreePlaces1051_ok : HOk Try.prog hTreePlaces1051 := hok_eq mmTreePlaces_ok hmTreePlaces1051_ok folTreePlaces (lf := 100000) (k := 1000) (by kernel_rfl)
def hmTreePlaces1052 : List HE := hTreePlaces1051 :: hmTreePlaces1051
theorem hmTreePlaces1052_ok : ∀ x ∈ hmTreePlaces1052, HOk Try.prog x := hmemo_cons hTreePlaces1051_ok hmTreePlaces1051_ok
def hTreePlaces1052 : HE := ⟨32, [(.agg [(eI 100),(eI 0),(.sl 0 2 0 3 none 3)]),(.lit (.int .i64 (Int.negSucc 0))),(eI 4),(eI 4)], [btreePlaces15, btreePlaces16, btreePlaces10], [((.val eB0), [])]⟩
theorem hTreePlaces1052_ok : HOk Try.prog hTreePlaces1052 := hok_eq mmTreePlaces_ok hmTreePlaces1052_ok folTreePlaces (lf := 100000) (k := 1000) (by kernel_rfl)
def hmTreePlaces1053 : List HE := hTreePlaces1052 :: hmTreePlaces1052
theorem hmTreePlaces1053_ok : ∀ x ∈ hmTreePlaces1053, HOk Try.prog x := hmemo_cons hTreePlaces1052_ok hmTreePlaces1052_ok
def hTreePlaces1053 : HE := ⟨32, [(.agg [(eI 100),(eI 0),(.sl 0 2 0 3 none 3)]),(.lit (.int .i64 (Int.negSucc 0))),(eI 4),(eI 3)], [btreePlaces15, btreePlaces16, btreePlaces10], [((.val eB0), [])]⟩
theorem hTreePlaces1053_ok : HOk Try.prog hTreePlaces1053 := hok_eq mmTreePlaces_ok hmTreePlaces1053_ok folTreePlaces (lf := 100000) (k := 1000) (by kernel_rfl)
def hmTreePlaces1054 : List HE := hTreePlaces1053 :: hmTreePlaces1053
theorem hmTreePlaces1054_ok : ∀ x ∈ hmTreePlaces1054, HOk Try.prog x := hmemo_cons hTreePlaces1053_ok hmTreePlaces1053_ok
def hTreePlaces1054 : HE := ⟨32, [(.agg [(eI 100),(eI 0),(.sl 0 2 0 3 none 3)]),(.lit (.int .i64 (Int.negSucc 0))),(eI 4),(eI 2)], [btreePlaces15, btreePlaces16, btreePlaces10], [((.val eB0), [])]⟩
theorem hTreePlaces1054_ok : HOk Try.prog hTreePlaces1054 := hok_eq mmTreePlaces_ok hmTreePlaces1054_ok folTreePlaces (lf := 100000) (k := 1000) (by kernel_rfl)
def hmTreePlaces1055 : List HE := hTreePlaces1054 :: hmTreePlaces1054
theorem hmTreePlaces1055_ok : ∀ x ∈ hmTreePlaces1055, HOk Try.prog x := hmemo_cons hTreePlaces1054_ok hmTreePlaces1054_ok
def hTreePlaces1055 : HE := ⟨32, [(.agg [(eI 100),(eI 0),(.sl 0 2 0 3 none 3)]),(.lit (.int .i64 (Int.negSucc 0))),(eI 4),(eI 1)], [btreePlaces15, btreePlaces16, btreePlaces10], [((.val eB0), [])]⟩
theorem hTreePlaces1055_ok : HOk Try.prog hTreePlaces1055 := hok_eq mmTreePlaces_ok hmTreePlaces1055_ok folTreePlaces (lf := 100000) (k := 1000) (by kernel_rfl)
def hmTreePlaces1056 : List HE := hTreePlaces1055 :: hmTreePlaces1055
theorem hmTreePlaces1056_ok : ∀ x ∈ hmTreePlaces1056, HOk Try.prog x := hmemo_cons hTreePlaces1055_ok hmTreePlaces1055_ok
def hTreePlaces1056 : HE := ⟨32, [(.agg [(eI 100),(eI 0),(.sl 0 2 0 3 none 3)]),(.lit (.int .i64 (Int.negSucc 0))),(eI 4),(eI 0)], [btreePlaces15, btreePlaces16, btreePlaces10], [((.val eB0), [])]⟩
theorem hTreePlaces1056_ok : HOk Try.prog hTreePlaces1056 := hok_eq mmTreePlaces_ok hmTreePlaces1056_ok folTreePlaces (lf := 100000) (k := 1000) (by kernel_rfl)
def hmTreePlaces1057 : List HE := hTreePlaces1056 :: hmTreePlaces1056
theorem hmTreePlaces1057_ok : ∀ x ∈ hmTreePlaces1057, HOk Try.prog x := hmemo_cons hTreePlaces1056_ok hmTreePlaces1056_ok
def hTreePlaces1057 : HE := ⟨32, [(.agg [(eI 100),(eI 0),(.sl 0 2 0 3 none 3)]),(.lit (.int .i64 (Int.negSucc 0))),(eI 4),(.lit (.int .i64 (Int.negSucc 0)))], [btreePlaces15, btreePlaces16, btreePlaces10], [((.val eB0), [])]⟩
theorem hTreePlaces1057_ok : HOk Try.prog hTreePlaces1057 := hok_eq mmTreePlaces_ok hmTreePlaces1057_ok folTreePlaces (lf := 100000) (k := 1000) (by kernel_rfl)
def hmTreePlaces1058 : List HE := hTreePlaces1057 :: hmTreePlaces1057
theorem hmTreePlaces1058_ok : ∀ x ∈ hmTreePlaces1058, HOk Try.prog x := hmemo_cons hTreePlaces1057_ok hmTreePlaces1057_ok
def hTreePlaces1058 : HE := ⟨32, [(.agg [(eI 100),(eI 0),(.sl 0 2 0 3 none 3)]),(.lit (.int .i64 (Int.negSucc 0))),(eI 3),(eI 4)], [btreePlaces15, btreePlaces16, btreePlaces10], [((.val eB0), [])]⟩
theorem hTreePlaces1058_ok : HOk Try.prog hTreePlaces1058 := hok_eq mmTreePlaces_ok hmTreePlaces1058_ok folTreePlaces (lf := 100000) (k := 1000) (by kernel_rfl)
def hmTreePlaces1059 : List HE := hTreePlaces1058 :: hmTreePlaces1058
theorem hmTreePlaces1059_ok : ∀ x ∈ hmTreePlaces1059, HOk Try.prog x := hmemo_cons hTreePlaces1058_ok hmTreePlaces1058_ok
def hTreePlaces1059 : HE := ⟨32, [(.agg [(eI 100),(eI 0),(.sl 0 2 0 3 none 3)]),(.lit (.int .i64 (Int.negSucc 0))),(eI 3),(eI 3)], [btreePlaces15, btreePlaces16, btreePlaces10], [((.val eB0), [])]⟩
theorem hTreePlaces1059_ok : HOk Try.prog hTreePlaces1059 := hok_eq mmTreePlaces_ok hmTreePlaces1059_ok folTreePlaces (lf := 100000) (k := 1000) (by kernel_rfl)
def hmTreePlaces1060 : List HE := hTreePlaces1059 :: hmTreePlaces1059
theorem hmTreePlaces1060_ok : ∀ x ∈ hmTreePlaces1060, HOk Try.prog x := hmemo_cons hTreePlaces1059_ok hmTreePlaces1059_ok
def hTreePlaces1060 : HE := ⟨32, [(.agg [(eI 100),(eI 0),(.sl 0 2 0 3 none 3)]),(.lit (.int .i64 (Int.negSucc 0))),(eI 3),(eI 2)], [btreePlaces15, btreePlaces16, btreePlaces10], [((.val eB0), [])]⟩
theorem hTreePlaces1060_ok : HOk Try.prog hTreePlaces1060 := hok_eq mmTreePlaces_ok hmTreePlaces1060_ok folTreePlaces (lf := 100000) (k := 1000) (by kernel_rfl)
def hmTreePlaces1061 : List HE := hTreePlaces1060 :: hmTreePlaces1060
theorem hmTreePlaces1061_ok : ∀ x ∈ hmTreePlaces1061, HOk Try.prog x := hmemo_cons hTreePlaces1060_ok hmTreePlaces1060_ok
def hTreePlaces1061 : HE := ⟨32, [(.agg [(eI 100),(eI 0),(.sl 0 2 0 3 none 3)]),(.lit (.int .i64 (Int.negSucc 0))),(eI 3),(eI 1)], [btreePlaces15, btreePlaces16, btreePlaces10], [((.val eB0), [])]⟩
theorem hTreePlaces1061_ok : HOk Try.prog hTreePlaces1061 := hok_eq mmTreePlaces_ok hmTreePlaces1061_ok folTreePlaces (lf := 100000) (k := 1000) (by kernel_rfl)
def hmTreePlaces1062 : List HE := hTreePlaces1061 :: hmTreePlaces1061
theorem hmTreePlaces1062_ok : ∀ x ∈ hmTreePlaces1062, HOk Try.prog x := hmemo_cons hTreePlaces1061_ok hmTreePlaces1061_ok
def hTreePlaces1062 : HE := ⟨32, [(.agg [(eI 100),(eI 0),(.sl 0 2 0 3 none 3)]),(.lit (.int .i64 (Int.negSucc 0))),(eI 3),(eI 0)], [btreePlaces15, btreePlaces16, btreePlaces10], [((.val eB0), [])]⟩
theorem hTreePlaces1062_ok : HOk Try.prog hTreePlaces1062 := hok_eq mmTreePlaces_ok hmTreePlaces1062_ok folTreePlaces (lf := 100000) (k := 1000) (by kernel_rfl)
def hmTreePlaces1063 : List HE := hTreePlaces1062 :: hmTreePlaces1062
theorem hmTreePlaces1063_ok : ∀ x ∈ hmTreePlaces1063, HOk Try.prog x := hmemo_cons hTreePlaces1062_ok hmTreePlaces1062_ok
def hTreePlaces1063 : HE := ⟨32, [(.agg [(eI 100),(eI 0),(.sl 0 2 0 3 none 3)]),(.lit (.int .i64 (Int.negSucc 0))),(eI 3),(.lit (.int .i64 (Int.negSucc 0)))], [btreePlaces15, btreePlaces16, btreePlaces10], [((.val eB0), [])]⟩
theorem hTreePlaces1063_ok : HOk Try.prog hTreePlaces1063 := hok_eq mmTreePlaces_ok hmTreePlaces1063_ok folTreePlaces (lf := 100000) (k := 1000) (by kernel_rfl)
def hmTreePlaces1064 : List HE := hTreePlaces1063 :: hmTreePlaces1063
theorem hmTreePlaces1064_ok : ∀ x ∈ hmTreePlaces1064, HOk Try.prog x := hmemo_cons hTreePlaces1063_ok hmTreePlaces1063_ok
def hTreePlaces1064 : HE := ⟨32, [(.agg [(eI 100),(eI 0),(.sl 0 2 0 3 none 3)]),(.lit (.int .i64 (Int.negSucc 0))),(eI 2),(eI 4)], [btreePlaces15, btreePlaces16, btreePlaces10], [((.val eB0), [])]⟩
theorem hTreePlaces1064_ok : HOk Try.prog hTreePlaces1064 := hok_eq mmTreePlaces_ok hmTreePlaces1064_ok folTreePlaces (lf := 100000) (k := 1000) (by kernel_rfl)
def hmTreePlaces1065 : List HE := hTreePlaces1064 :: hmTreePlaces1064
theorem hmTreePlaces1065_ok : ∀ x ∈ hmTreePlaces1065, HOk Try.prog x := hmemo_cons hTreePlaces1064_ok hmTreePlaces1064_ok
def hTreePlaces1065 : HE := ⟨32, [(.agg [(eI 100),(eI 0),(.sl 0 2 0 3 none 3)]),(.lit (.int .i64 (Int.negSucc 0))),(eI 2),(eI 3)], [btreePlaces15, btreePlaces16, btreePlaces10], [((.val eB0), [])]⟩
theorem hTreePlaces1065_ok : HOk Try.prog hTreePlaces1065 := hok_eq mmTreePlaces_ok hmTreePlaces1065_ok folTreePlaces (lf := 100000) (k := 1000) (by kernel_rfl)
def hmTreePlaces1066 : List HE := hTreePlaces1065 :: hmTreePlaces1065
theorem hmTreePlaces1066_ok : ∀ x ∈ hmTreePlaces1066, HOk Try.prog x := hmemo_cons hTreePlaces1065_ok hmTreePlaces1065_ok
def hTreePlaces1066 : HE := ⟨32, [(.agg [(eI 100),(eI 0),(.sl 0 2 0 3 none 3)]),(.lit (.int .i64 (Int.negSucc 0))),(eI 2),(eI 2)], [btreePlaces15, btreePlaces16, btreePlaces10], [((.val eB0), [])]⟩
theorem hTreePlaces1066_ok : HOk Try.prog hTreePlaces1066 := hok_eq mmTreePlaces_ok hmTreePlaces1066_ok folTreePlaces (lf := 100000) (k := 1000) (by kernel_rfl)
def hmTreePlaces1067 : List HE := hTreePlaces1066 :: hmTreePlaces1066
theorem hmTreePlaces1067_ok : ∀ x ∈ hmTreePlaces1067, HOk Try.prog x := hmemo_cons hTreePlaces1066_ok hmTreePlaces1066_ok
def hTreePlaces1067 : HE := ⟨32, [(.agg [(eI 100),(eI 0),(.sl 0 2 0 3 none 3)]),(.lit (.int .i64 (Int.negSucc 0))),(eI 2),(eI 1)], [btreePlaces15, btreePlaces16, btreePlaces10], [((.val eB0), [])]⟩
theorem hTreePlaces1067_ok : HOk Try.prog hTreePlaces1067 := hok_eq mmTreePlaces_ok hmTreePlaces1067_ok folTreePlaces (lf := 100000) (k := 1000) (by kernel_rfl)
def hmTreePlaces1068 : List HE := hTreePlaces1067 :: hmTreePlaces1067
theorem hmTreePlaces1068_ok : ∀ x ∈ hmTreePlaces1068, HOk Try.prog x := hmemo_cons hTreePlaces1067_ok hmTreePlaces1067_ok
def hTreePlaces1068 : HE := ⟨32, [(.agg [(eI 100),(eI 0),(.sl 0 2 0 3 none 3)]),(.lit (.int .i64 (Int.negSucc 0))),(eI 2),(eI 0)], [btreePlaces15, btreePlaces16, btreePlaces10], [((.val eB0), [])]⟩
theorem hTreePlaces1068_ok : HOk Try.prog hTreePlaces1068 := hok_eq mmTreePlaces_ok hmTreePlaces1068_ok folTreePlaces (lf := 100000) (k := 1000) (by kernel_rfl)
def hmTreePlaces1069 : List HE := hTreePlaces1068 :: hmTreePlaces1068
theorem hmTreePlaces1069_ok : ∀ x ∈ hmTreePlaces1069, HOk Try.prog x := hmemo_cons hTreePlaces1068_ok hmTreePlaces1068_ok
def hTreePlaces1069 : HE := ⟨32, [(.agg [(eI 100),(eI 0),(.sl 0 2 0 3 none 3)]),(.lit (.int .i64 (Int.negSucc 0))),(eI 2),(.lit (.int .i64 (Int.negSucc 0)))], [btreePlaces15, btreePlaces16, btreePlaces10], [((.val eB0), [])]⟩
theorem hTreePlaces1069_ok : HOk Try.prog hTreePlaces1069 := hok_eq mmTreePlaces_ok hmTreePlaces1069_ok folTreePlaces (lf := 100000) (k := 1000) (by kernel_rfl)
def hmTreePlaces1070 : List HE := hTreePlaces1069 :: hmTreePlaces1069
theorem hmTreePlaces1070_ok : ∀ x ∈ hmTreePlaces1070, HOk Try.prog x := hmemo_cons hTreePlaces1069_ok hmTreePlaces1069_ok
def hTreePlaces1070 : HE := ⟨32, [(.agg [(eI 100),(eI 0),(.sl 0 2 0 3 none 3)]),(.lit (.int .i64 (Int.negSucc 0))),(eI 1),(eI 4)], [btreePlaces15, btreePlaces16, btreePlaces10], [((.val eB0), [])]⟩
theorem hTreePlaces1070_ok : HOk Try.prog hTreePlaces1070 := hok_eq mmTreePlaces_ok hmTreePlaces1070_ok folTreePlaces (lf := 100000) (k := 1000) (by kernel_rfl)
def hmTreePlaces1071 : List HE := hTreePlaces1070 :: hmTreePlaces1070
theorem hmTreePlaces1071_ok : ∀ x ∈ hmTreePlaces1071, HOk Try.prog x := hmemo_cons hTreePlaces1070_ok hmTreePlaces1070_ok
def hTreePlaces1071 : HE := ⟨32, [(.agg [(eI 100),(eI 0),(.sl 0 2 0 3 none 3)]),(.lit (.int .i64 (Int.negSucc 0))),(eI 1),(eI 3)], [btreePlaces15, btreePlaces16, btreePlaces10], [((.val eB0), [])]⟩
theorem hTreePlaces1071_ok : HOk Try.prog hTreePlaces1071 := hok_eq mmTreePlaces_ok hmTreePlaces1071_ok folTreePlaces (lf := 100000) (k := 1000) (by kernel_rfl)
def hmTreePlaces1072 : List HE := hTreePlaces1071 :: hmTreePlaces1071
theorem hmTreePlaces1072_ok : ∀ x ∈ hmTreePlaces1072, HOk Try.prog x := hmemo_cons hTreePlaces1071_ok hmTreePlaces1071_ok
def hTreePlaces1072 : HE := ⟨32, [(.agg [(eI 100),(eI 0),(.sl 0 2 0 3 none 3)]),(.lit (.int .i64 (Int.negSucc 0))),(eI 1),(eI 2)], [btreePlaces15, btreePlaces16, btreePlaces10], [((.val eB0), [])]⟩
theorem hTreePlaces1072_ok : HOk Try.prog hTreePlaces1072 := hok_eq mmTreePlaces_ok hmTreePlaces1072_ok folTreePlaces (lf := 100000) (k := 1000) (by kernel_rfl)
def hmTreePlaces1073 : List HE := hTreePlaces1072 :: hmTreePlaces1072
theorem hmTreePlaces1073_ok : ∀ x ∈ hmTreePlaces1073, HOk Try.prog x := hmemo_cons hTreePlaces1072_ok hmTreePlaces1072_ok
def hTreePlaces1073 : HE := ⟨32, [(.agg [(eI 100),(eI 0),(.sl 0 2 0 3 none 3)]),(.lit (.int .i64 (Int.negSucc 0))),(eI 1),(eI 1)], [btreePlaces15, btreePlaces16, btreePlaces10], [((.val eB0), [])]⟩
theorem hTreePlaces1073_ok : HOk Try.prog hTreePlaces1073 := hok_eq mmTreePlaces_ok hmTreePlaces1073_ok folTreePlaces (lf := 100000) (k := 1000) (by kernel_rfl)
def hmTreePlaces1074 : List HE := hTreePlaces1073 :: hmTreePlaces1073
theorem hmTreePlaces1074_ok : ∀ x ∈ hmTreePlaces1074, HOk Try.prog x := hmemo_cons hTreePlaces1073_ok hmTreePlaces1073_ok
def hTreePlaces1074 : HE := ⟨32, [(.agg [(eI 100),(eI 0),(.sl 0 2 0 3 none 3)]),(.lit (.int .i64 (Int.negSucc 0))),(eI 1),(eI 0)], [btreePlaces15, btreePlaces16, btreePlaces10], [((.val eB0), [])]⟩
theorem hTreePlaces1074_ok : HOk Try.prog hTreePlaces1074 := hok_eq mmTreePlaces_ok hmTreePlaces1074_ok folTreePlaces (lf := 100000) (k := 1000) (by kernel_rfl)
def hmTreePlaces1075 : List HE := hTreePlaces1074 :: hmTreePlaces1074
theorem hmTreePlaces1075_ok : ∀ x ∈ hmTreePlaces1075, HOk Try.prog x := hmemo_cons hTreePlaces1074_ok hmTreePlaces1074_ok
def hTreePlaces1075 : HE := ⟨32, [(.agg [(eI 100),(eI 0),(.sl 0 2 0 3 none 3)]),(.lit (.int .i64 (Int.negSucc 0))),(eI 1),(.lit (.int .i64 (Int.negSucc 0)))], [btreePlaces15, btreePlaces16, btreePlaces10], [((.val eB0), [])]⟩
theorem hTreePlaces1075_ok : HOk Try.prog hTreePlaces1075 := hok_eq mmTreePlaces_ok hmTreePlaces1075_ok folTreePlaces (lf := 100000) (k := 1000) (by kernel_rfl)
def hmTreePlaces1076 : List HE := hTreePlaces1075 :: hmTreePlaces1075
theorem hmTreePlaces1076_ok : ∀ x ∈ hmTreePlaces1076, HOk Try.prog x := hmemo_cons hTreePlaces1075_ok hmTreePlaces1075_ok
def hTreePlaces1076 : HE := ⟨32, [(.agg [(eI 100),(eI 0),(.sl 0 2 0 3 none 3)]),(.lit (.int .i64 (Int.negSucc 0))),(eI 0),(eI 4)], [btreePlaces15, btreePlaces16, btreePlaces10], [((.val eB0), [])]⟩
theorem hTreePlaces1076_ok : HOk Try.prog hTreePlaces1076 := hok_eq mmTreePlaces_ok hmTreePlaces1076_ok folTreePlaces (lf := 100000) (k := 1000) (by kernel_rfl)
def hmTreePlaces1077 : List HE := hTreePlaces1076 :: hmTreePlaces1076
theorem hmTreePlaces1077_ok : ∀ x ∈ hmTreePlaces1077, HOk Try.prog x := hmemo_cons hTreePlaces1076_ok hmTreePlaces1076_ok
def hTreePlaces1077 : HE := ⟨32, [(.agg [(eI 100),(eI 0),(.sl 0 2 0 3 none 3)]),(.lit (.int .i64 (Int.negSucc 0))),(eI 0),(eI 3)], [btreePlaces15, btreePlaces16, btreePlaces10], [((.val eB0), [])]⟩
theorem hTreePlaces1077_ok : HOk Try.prog hTreePlaces1077 := hok_eq mmTreePlaces_ok hmTreePlaces1077_ok folTreePlaces (lf := 100000) (k := 1000) (by kernel_rfl)
def hmTreePlaces1078 : List HE := hTreePlaces1077 :: hmTreePlaces1077
theorem hmTreePlaces1078_ok : ∀ x ∈ hmTreePlaces1078, HOk Try.prog x := hmemo_cons hTreePlaces1077_ok hmTreePlaces1077_ok
def hTreePlaces1078 : HE := ⟨32, [(.agg [(eI 100),(eI 0),(.sl 0 2 0 3 none 3)]),(.lit (.int .i64 (Int.negSucc 0))),(eI 0),(eI 2)], [btreePlaces15, btreePlaces16, btreePlaces10], [((.val eB0), [])]⟩
theorem hTreePlaces1078_ok : HOk Try.prog hTreePlaces1078 := hok_eq mmTreePlaces_ok hmTreePlaces1078_ok folTreePlaces (lf := 100000) (k := 1000) (by kernel_rfl)
def hmTreePlaces1079 : List HE := hTreePlaces1078 :: hmTreePlaces1078
theorem hmTreePlaces1079_ok : ∀ x ∈ hmTreePlaces1079, HOk Try.prog x := hmemo_cons hTreePlaces1078_ok hmTreePlaces1078_ok
def hTreePlaces1079 : HE := ⟨32, [(.agg [(eI 100),(eI 0),(.sl 0 2 0 3 none 3)]),(.lit (.int .i64 (Int.negSucc 0))),(eI 0),(eI 1)], [btreePlaces15, btreePlaces16, btreePlaces10], [((.val eB0), [])]⟩
theorem hTreePlaces1079_ok : HOk Try.prog hTreePlaces1079 := hok_eq mmTreePlaces_ok hmTreePlaces1079_ok folTreePlaces (lf := 100000) (k := 1000) (by kernel_rfl)
def hmTreePlaces1080 : List HE := hTreePlaces1079 :: hmTreePlaces1079
theorem hmTreePlaces1080_ok : ∀ x ∈ hmTreePlaces1080, HOk Try.prog x := hmemo_cons hTreePlaces1079_ok hmTreePlaces1079_ok
def hTreePlaces1080 : HE := ⟨32, [(.agg [(eI 100),(eI 0),(.sl 0 2 0 3 none 3)]),(.lit (.int .i64 (Int.negSucc 0))),(eI 0),(eI 0)], [btreePlaces15, btreePlaces16, btreePlaces10], [((.val eB0), [])]⟩
theorem hTreePlaces1080_ok : HOk Try.prog hTreePlaces1080 := hok_eq mmTreePlaces_ok hmTreePlaces1080_ok folTreePlaces (lf := 100000) (k := 1000) (by kernel_rfl)
def hmTreePlaces1081 : List HE := hTreePlaces1080 :: hmTreePlaces1080
theorem hmTreePlaces1081_ok : ∀ x ∈ hmTreePlaces1081, HOk Try.prog x := hmemo_cons hTreePlaces1080_ok hmTreePlaces1080_ok
def hTreePlaces1081 : HE := ⟨32, [(.agg [(eI 100),(eI 0),(.sl 0 2 0 3 none 3)]),(.lit (.int .i64 (Int.negSucc 0))),(eI 0),(.lit (.int .i64 (Int.negSucc 0)))], [btreePlaces15, btreePlaces16, btreePlaces10], [((.val eB0), [])]⟩
theorem hTreePlaces1081_ok : HOk Try.prog hTreePlaces1081 := hok_eq mmTreePlaces_ok hmTreePlaces1081_ok folTreePlaces (lf := 100000) (k := 1000) (by kernel_rfl)
def hmTreePlaces1082 : List HE := hTreePlaces1081 :: hmTreePlaces1081
theorem hmTreePlaces1082_ok : ∀ x ∈ hmTreePlaces1082, HOk Try.prog x := hmemo_cons hTreePlaces1081_ok hmTreePlaces1081_ok
def hTreePlaces1082 : HE := ⟨32, [(.agg [(eI 100),(eI 0),(.sl 0 2 0 3 none 3)]),(.lit (.int .i64 (Int.negSucc 0))),(.lit (.int .i64 (Int.negSucc 0))),(eI 4)], [btreePlaces15, btreePlaces16, btreePlaces10], [((.val eB0), [])]⟩
theorem hTreePlaces1082_ok : HOk Try.prog hTreePlaces1082 := hok_eq mmTreePlaces_ok hmTreePlaces1082_ok folTreePlaces (lf := 100000) (k := 1000) (by kernel_rfl)
def hmTreePlaces1083 : List HE := hTreePlaces1082 :: hmTreePlaces1082
theorem hmTreePlaces1083_ok : ∀ x ∈ hmTreePlaces1083, HOk Try.prog x := hmemo_cons hTreePlaces1082_ok hmTreePlaces1082_ok
def hTreePlaces1083 : HE := ⟨32, [(.agg [(eI 100),(eI 0),(.sl 0 2 0 3 none 3)]),(.lit (.int .i64 (Int.negSucc 0))),(.lit (.int .i64 (Int.negSucc 0))),(eI 3)], [btreePlaces15, btreePlaces16, btreePlaces10], [((.val eB0), [])]⟩
theorem hTreePlaces1083_ok : HOk Try.prog hTreePlaces1083 := hok_eq mmTreePlaces_ok hmTreePlaces1083_ok folTreePlaces (lf := 100000) (k := 1000) (by kernel_rfl)
def hmTreePlaces1084 : List HE := hTreePlaces1083 :: hmTreePlaces1083
theorem hmTreePlaces1084_ok : ∀ x ∈ hmTreePlaces1084, HOk Try.prog x := hmemo_cons hTreePlaces1083_ok hmTreePlaces1083_ok
def hTreePlaces1084 : HE := ⟨32, [(.agg [(eI 100),(eI 0),(.sl 0 2 0 3 none 3)]),(.lit (.int .i64 (Int.negSucc 0))),(.lit (.int .i64 (Int.negSucc 0))),(eI 2)], [btreePlaces15, btreePlaces16, btreePlaces10], [((.val eB0), [])]⟩
theorem hTreePlaces1084_ok : HOk Try.prog hTreePlaces1084 := hok_eq mmTreePlaces_ok hmTreePlaces1084_ok folTreePlaces (lf := 100000) (k := 1000) (by kernel_rfl)
def hmTreePlaces1085 : List HE := hTreePlaces1084 :: hmTreePlaces1084
theorem hmTreePlaces1085_ok : ∀ x ∈ hmTreePlaces1085, HOk Try.prog x := hmemo_cons hTreePlaces1084_ok hmTreePlaces1084_ok
def hTreePlaces1085 : HE := ⟨32, [(.agg [(eI 100),(eI 0),(.sl 0 2 0 3 none 3)]),(.lit (.int .i64 (Int.negSucc 0))),(.lit (.int .i64 (Int.negSucc 0))),(eI 1)], [btreePlaces15, btreePlaces16, btreePlaces10], [((.val eB0), [])]⟩
theorem hTreePlaces1085_ok : HOk Try.prog hTreePlaces1085 := hok_eq mmTreePlaces_ok hmTreePlaces1085_ok folTreePlaces (lf := 100000) (k := 1000) (by kernel_rfl)
def hmTreePlaces1086 : List HE := hTreePlaces1085 :: hmTreePlaces1085
theorem hmTreePlaces1086_ok : ∀ x ∈ hmTreePlaces1086, HOk Try.prog x := hmemo_cons hTreePlaces1085_ok hmTreePlaces1085_ok
def hTreePlaces1086 : HE := ⟨32, [(.agg [(eI 100),(eI 0),(.sl 0 2 0 3 none 3)]),(.lit (.int .i64 (Int.negSucc 0))),(.lit (.int .i64 (Int.negSucc 0))),(eI 0)], [btreePlaces15, btreePlaces16, btreePlaces10], [((.val eB0), [])]⟩
theorem hTreePlaces1086_ok : HOk Try.prog hTreePlaces1086 := hok_eq mmTreePlaces_ok hmTreePlaces1086_ok folTreePlaces (lf := 100000) (k := 1000) (by kernel_rfl)
def hmTreePlaces1087 : List HE := hTreePlaces1086 :: hmTreePlaces1086
theorem hmTreePlaces1087_ok : ∀ x ∈ hmTreePlaces1087, HOk Try.prog x := hmemo_cons hTreePlaces1086_ok hmTreePlaces1086_ok
def hTreePlaces1087 : HE := ⟨32, [(.agg [(eI 100),(eI 0),(.sl 0 2 0 3 none 3)]),(.lit (.int .i64 (Int.negSucc 0))),(.lit (.int .i64 (Int.negSucc 0))),(.lit (.int .i64 (Int.negSucc 0)))], [btreePlaces15, btreePlaces16, btreePlaces10], [((.val eB0), [])]⟩
theorem hTreePlaces1087_ok : HOk Try.prog hTreePlaces1087 := hok_eq mmTreePlaces_ok hmTreePlaces1087_ok folTreePlaces (lf := 100000) (k := 1000) (by kernel_rfl)
def hmTreePlaces1088 : List HE := hTreePlaces1087 :: hmTreePlaces1087
theorem hmTreePlaces1088_ok : ∀ x ∈ hmTreePlaces1088, HOk Try.prog x := hmemo_cons hTreePlaces1087_ok hmTreePlaces1087_ok
end Go.Proofs.Ytdmljeaigjfenaa.E
