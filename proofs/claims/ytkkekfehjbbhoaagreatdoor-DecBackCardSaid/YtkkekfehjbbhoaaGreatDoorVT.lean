/- The functions of this seat, as the evaluator has them (printed by wip/v/VG.lean). -/
import Derived.Test.YtkkekfehjbbhoaaGreatDoorChecked
import Derived.Test.YtkkekfehjbbhoaaGreatDoorV26
import Derived.Test.YtkkekfehjbbhoaaGreatDoorV35
namespace Go.Proofs.YtkkekfehjbbhoaaGreatDoor.V
open Go
def q (t : Nat) (o : VOp) : VOper := ⟨some t, o, none, []⟩
def cf (f : FuncId) : Opd := .c (.func (.func f) [] [])
def ci (z : Int) : Opd := .c (.int .i64 z)
def v (n : Nat) : Opd := .t n
set_option linter.unusedVariables false
set_option linter.unusedSimpArgs false
set_option linter.unusedSectionVars false
/- gosem.cut.init -/
/- caliper/caliperlaw03.DecMultiples -/
def f3_c : VCode :=
 (.seq (.reg false [(q 2 (.box true 3 (v 0))),
 (q 3 (.box true 3 (v 1))),
 (q 4 (.mov (.c (.bool false))))] [2, 3])
 (.seq (.seq (.reg false [(q 9 (.faddr 1 (v 2))),
 (q 10 (.load none (v 9))),
 (q 11 (.lens (v 10))),
 (q 12 (.bin .gtr (v 11) (ci 400))),
 (q 13 (.mov (v 12))),
 ⟨(some 14), .faddr 1 (v 3), (some (13, false)), []⟩,
 ⟨(some 15), .load none (v 14), (some (13, false)), []⟩,
 ⟨(some 16), .lens (v 15), (some (13, false)), []⟩,
 ⟨(some 17), .bin .gtr (v 16) (ci 400), (some (13, false)), []⟩,
 (q 18 (.pick (v 13) (.c (.bool true)) (v 17)))] [2, 3, 18])
 (.cond (v 18) (.seq (.reg false [(q 19 (.call (cf 8) [])),
 (q 4 (.mov (v 19)))] [4])
 .ret) .skip))
 (.seq (.reg false [(q 21 (.load (some 3) (v 2))),
 (q 22 (.load (some 3) (v 3))),
 (q 23 (.call (cf 9) [(v 21), (v 22)])),
 (q 20 (.mov (v 23))),
 (q 24 (.extract (v 20) 0)),
 (q 25 (.extract (v 20) 1)),
 (q 5 (.mov (v 24))),
 (q 6 (.mov (v 25)))] [2, 3, 5, 6])
 (.seq (.reg false [(q 27 (.load (some 3) (v 2))),
 (q 28 (.load (some 3) (v 3))),
 (q 29 (.call (cf 10) [(v 27), (v 28)])),
 (q 26 (.mov (v 29))),
 (q 30 (.extract (v 26) 0)),
 (q 31 (.extract (v 26) 1)),
 (q 7 (.mov (v 30))),
 (q 8 (.mov (v 31)))] [5, 6, 7, 8])
 (.seq (.reg false [(q 32 (.mov (v 5))),
 (q 33 (.mov (v 7))),
 (q 34 (.eqb false (v 32) (v 33))),
 (q 35 (.mov (v 34))),
 ⟨(some 36), .mov (v 6), (some (35, true)), []⟩,
 ⟨(some 37), .mov (v 8), (some (35, true)), []⟩,
 ⟨(some 38), .bin .eql (v 36) (v 37), (some (35, true)), []⟩,
 (q 39 (.pick (v 35) (v 38) (.c (.bool false)))),
 (q 40 (.mov (v 39))),
 ⟨(some 41), .call (cf 8) [], (some (40, true)), []⟩,
 (q 42 (.pick (v 40) (v 41) (.c (.bool false)))),
 (q 4 (.mov (v 42)))] [4])
 .ret)))))
def f3 : VFn := ⟨2, 43, f3_c, [.t 4], true, []⟩
/- caliper/caliperlaw03.DecCompares -/
def f4_c : VCode :=
 (.seq (.reg false [(q 2 (.box true 3 (v 0))),
 (q 3 (.box true 3 (v 1))),
 (q 4 (.mov (.c (.bool false))))] [2, 3])
 (.seq (.reg false [(q 10 (.load (some 3) (v 2))),
 (q 11 (.load (some 3) (v 3))),
 (q 12 (.call (cf 11) [(v 10), (v 11)])),
 (q 9 (.mov (v 12))),
 (q 13 (.extract (v 9) 0)),
 (q 14 (.extract (v 9) 1)),
 (q 5 (.mov (v 13))),
 (q 6 (.mov (v 14)))] [2, 3, 5, 6])
 (.seq (.reg false [(q 16 (.load (some 3) (v 2))),
 (q 17 (.load (some 3) (v 3))),
 (q 18 (.call (cf 12) [(v 16), (v 17)])),
 (q 15 (.mov (v 18))),
 (q 19 (.extract (v 15) 0)),
 (q 20 (.extract (v 15) 1)),
 (q 7 (.mov (v 19))),
 (q 8 (.mov (v 20)))] [5, 6, 7, 8])
 (.seq (.reg false [(q 21 (.mov (v 5))),
 (q 22 (.mov (v 7))),
 (q 23 (.bin .eql (v 21) (v 22))),
 (q 24 (.mov (v 23))),
 ⟨(some 25), .mov (v 6), (some (24, true)), []⟩,
 ⟨(some 26), .mov (v 8), (some (24, true)), []⟩,
 ⟨(some 27), .bin .eql (v 25) (v 26), (some (24, true)), []⟩,
 (q 28 (.pick (v 24) (v 27) (.c (.bool false)))),
 (q 29 (.mov (v 28))),
 ⟨(some 30), .call (cf 8) [], (some (29, true)), []⟩,
 (q 31 (.pick (v 29) (v 30) (.c (.bool false)))),
 (q 4 (.mov (v 31)))] [4])
 .ret))))
def f4 : VFn := ⟨2, 32, f4_c, [.t 4], true, []⟩
/- caliper/caliperlaw03.DecBack -/
def f5_c : VCode :=
 (.seq (.reg false [(q 2 (.box true 3 (v 0))),
 (q 4 (.mov (.c (.bool false))))] [1, 2])
 (.seq (.seq (.reg false [(q 13 (.load (some 3) (v 2))),
 (q 14 (.call (cf 13) [(v 13)])),
 (q 15 (.bin .eql (v 14) (ci 0)))] [1, 2, 15])
 (.cond (v 15) (.seq (.reg false [(q 17 (.load (some 3) (v 2))),
 (q 18 (.call (cf 14) [(v 17)])),
 (q 16 (.mov (v 18))),
 (q 19 (.extract (v 16) 0)),
 (q 20 (.extract (v 16) 1)),
 (q 5 (.mov (v 19))),
 (q 6 (.mov (v 20)))] [1, 2, 5, 6])
 (.seq (.reg false [(q 22 (.mov (v 5))),
 (q 23 (.call (cf 15) [(v 22)])),
 (q 21 (.mov (v 23))),
 (q 24 (.extract (v 21) 0)),
 (q 25 (.extract (v 21) 1)),
 (q 7 (.alloc true [(.bool false), (.str ⟨#[]⟩), (.int .i64 0)])),
 ⟨none, .store true 3 (v 7) (v 24), none, []⟩,
 (q 8 (.mov (v 25)))] [1, 2, 6, 7, 8])
 (.seq (.reg false [(q 26 (.mov (v 6))),
 (q 27 (.bin .neq (v 26) (ci 0))),
 (q 28 (.mov (v 27))),
 ⟨(some 29), .mov (v 8), (some (28, false)), []⟩,
 ⟨(some 30), .bin .neq (v 29) (ci 0), (some (28, false)), []⟩,
 (q 31 (.pick (v 28) (.c (.bool true)) (v 30))),
 (q 32 (.mov (v 31))),
 ⟨(some 33), .load (some 3) (v 7), (some (32, false)), []⟩,
 ⟨(some 34), .load (some 3) (v 2), (some (32, false)), []⟩,
 ⟨(some 35), .eqs true [.bool, .str, .int] (v 33) (v 34), (some (32, false)), []⟩,
 (q 36 (.pick (v 32) (.c (.bool true)) (v 35)))] [1, 2, 36])
 (.cond (v 36) (.seq (.reg false [(q 4 (.mov (.c (.bool false))))] [4])
 .ret) .skip)))) .skip))
 (.seq (.reg false [(q 38 (.mov (v 1))),
 (q 39 (.call (cf 15) [(v 38)])),
 (q 37 (.mov (v 39))),
 (q 40 (.extract (v 37) 0)),
 (q 41 (.extract (v 37) 1)),
 (q 9 (.alloc true [(.bool false), (.str ⟨#[]⟩), (.int .i64 0)])),
 ⟨none, .store true 3 (v 9) (v 40), none, []⟩,
 (q 10 (.mov (v 41)))] [2, 9, 10])
 (.seq (.seq (.reg false [(q 42 (.mov (v 10))),
 (q 43 (.bin .neq (v 42) (ci 0)))] [2, 9, 43])
 (.cond (v 43) (.seq (.reg false [(q 44 (.load (some 3) (v 9))),
 (q 45 (.build [(.bool false), (.str ⟨#[]⟩), (.int .i64 0)] [])),
 (q 46 (.eqs false [.bool, .str, .int] (v 44) (v 45))),
 (q 47 (.mov (v 46))),
 ⟨(some 48), .call (cf 8) [], (some (47, true)), []⟩,
 (q 49 (.pick (v 47) (v 48) (.c (.bool false)))),
 (q 4 (.mov (v 49)))] [4])
 .ret) .skip))
 (.seq (.reg false [(q 51 (.load (some 3) (v 9))),
 (q 52 (.load (some 3) (v 2))),
 (q 53 (.call (cf 11) [(v 51), (v 52)])),
 (q 50 (.mov (v 53))),
 (q 54 (.extract (v 50) 0)),
 (q 55 (.extract (v 50) 1)),
 (q 11 (.mov (v 54))),
 (q 12 (.mov (v 55)))] [2, 9, 11, 12])
 (.seq (.seq (.reg false [(q 56 (.load (some 3) (v 9))),
 (q 57 (.call (cf 13) [(v 56)])),
 (q 58 (.bin .neq (v 57) (ci 0))),
 (q 59 (.mov (v 58))),
 ⟨(some 60), .mov (v 12), (some (59, false)), []⟩,
 ⟨(some 61), .bin .eql (v 60) (ci 0), (some (59, false)), []⟩,
 ⟨(some 62), .mov (v 61), (some (59, false)), []⟩,
 ⟨(some 63), .mov (v 11), (some (62, true)), []⟩,
 ⟨(some 64), .bin .eql (v 63) (ci 0), (some (62, true)), []⟩,
 ⟨(some 65), .load (some 3) (v 9), (some (62, true)), []⟩,
 ⟨(some 66), .load (some 3) (v 2), (some (62, true)), []⟩,
 ⟨(some 67), .eqs false [.bool, .str, .int] (v 65) (v 66), (some (62, true)), []⟩,
 ⟨(some 68), .eqb true (v 64) (v 67), (some (62, true)), []⟩,
 ⟨(some 69), .pick (v 62) (v 68) (.c (.bool false)), (some (59, false)), []⟩,
 (q 70 (.pick (v 59) (.c (.bool true)) (v 69)))] [70])
 (.cond (v 70) (.seq (.reg false [(q 4 (.mov (.c (.bool false))))] [4])
 .ret) .skip))
 (.seq (.reg false [(q 71 (.call (cf 8) [])),
 (q 4 (.mov (v 71)))] [4])
 .ret)))))))
def f5 : VFn := ⟨2, 72, f5_c, [.t 4], true, []⟩
/- caliper/caliperlaw03.DecOrder -/
def f6_c : VCode :=
 (.seq (.reg false [(q 3 (.box true 3 (v 0))),
 (q 4 (.box true 3 (v 1))),
 (q 5 (.box true 3 (v 2))),
 (q 6 (.mov (.c (.bool false))))] [3, 4, 5])
 (.seq (.seq (.reg false [(q 19 (.load (some 3) (v 3))),
 (q 20 (.call (cf 13) [(v 19)])),
 (q 21 (.bin .neq (v 20) (ci 0))),
 (q 22 (.mov (v 21))),
 ⟨(some 23), .load (some 3) (v 4), (some (22, false)), []⟩,
 ⟨(some 24), .call (cf 13) [(v 23)], (some (22, false)), []⟩,
 ⟨(some 25), .bin .neq (v 24) (ci 0), (some (22, false)), []⟩,
 (q 26 (.pick (v 22) (.c (.bool true)) (v 25))),
 (q 27 (.mov (v 26))),
 ⟨(some 28), .load (some 3) (v 5), (some (27, false)), []⟩,
 ⟨(some 29), .call (cf 13) [(v 28)], (some (27, false)), []⟩,
 ⟨(some 30), .bin .neq (v 29) (ci 0), (some (27, false)), []⟩,
 (q 31 (.pick (v 27) (.c (.bool true)) (v 30)))] [3, 4, 5, 31])
 (.cond (v 31) (.seq (.reg false [(q 32 (.call (cf 8) [])),
 (q 6 (.mov (v 32)))] [6])
 .ret) .skip))
 (.seq (.reg false [(q 34 (.load (some 3) (v 3))),
 (q 35 (.load (some 3) (v 4))),
 (q 36 (.call (cf 11) [(v 34), (v 35)])),
 (q 33 (.mov (v 36))),
 (q 37 (.extract (v 33) 0)),
 (q 38 (.extract (v 33) 1)),
 (q 7 (.mov (v 37))),
 (q 8 (.mov (v 38)))] [3, 4, 5, 7])
 (.seq (.reg false [(q 40 (.load (some 3) (v 4))),
 (q 41 (.load (some 3) (v 3))),
 (q 42 (.call (cf 11) [(v 40), (v 41)])),
 (q 39 (.mov (v 42))),
 (q 43 (.extract (v 39) 0)),
 (q 44 (.extract (v 39) 1)),
 (q 9 (.mov (v 43))),
 (q 10 (.mov (v 44)))] [3, 4, 5, 7, 9])
 (.seq (.reg false [(q 46 (.load (some 3) (v 4))),
 (q 47 (.load (some 3) (v 5))),
 (q 48 (.call (cf 11) [(v 46), (v 47)])),
 (q 45 (.mov (v 48))),
 (q 49 (.extract (v 45) 0)),
 (q 50 (.extract (v 45) 1)),
 (q 11 (.mov (v 49))),
 (q 12 (.mov (v 50)))] [3, 4, 5, 7, 9, 11])
 (.seq (.reg false [(q 52 (.load (some 3) (v 3))),
 (q 53 (.load (some 3) (v 5))),
 (q 54 (.call (cf 11) [(v 52), (v 53)])),
 (q 51 (.mov (v 54))),
 (q 55 (.extract (v 51) 0)),
 (q 56 (.extract (v 51) 1)),
 (q 13 (.mov (v 55))),
 (q 14 (.mov (v 56)))] [3, 4, 7, 9, 11, 13])
 (.seq (.seq (.reg false [(q 57 (.mov (v 7))),
 (q 58 (.bin .leq (v 57) (ci 0))),
 (q 59 (.mov (v 58))),
 ⟨(some 60), .mov (v 11), (some (59, true)), []⟩,
 ⟨(some 61), .bin .leq (v 60) (ci 0), (some (59, true)), []⟩,
 (q 62 (.pick (v 59) (v 61) (.c (.bool false)))),
 (q 63 (.mov (v 62))),
 ⟨(some 64), .mov (v 13), (some (63, true)), []⟩,
 ⟨(some 65), .bin .gtr (v 64) (ci 0), (some (63, true)), []⟩,
 (q 66 (.pick (v 63) (v 65) (.c (.bool false)))),
 (q 67 (.mov (v 66))),
 ⟨(some 68), .mov (v 7), (some (67, false)), []⟩,
 ⟨(some 69), .bin .lss (v 68) (ci 0), (some (67, false)), []⟩,
 ⟨(some 70), .mov (v 69), (some (67, false)), []⟩,
 ⟨(some 71), .mov (v 11), (some (70, true)), []⟩,
 ⟨(some 72), .bin .lss (v 71) (ci 0), (some (70, true)), []⟩,
 ⟨(some 73), .pick (v 70) (v 72) (.c (.bool false)), (some (67, false)), []⟩,
 ⟨(some 74), .mov (v 73), (some (67, false)), []⟩,
 ⟨(some 75), .mov (v 13), (some (74, true)), []⟩,
 ⟨(some 76), .bin .geq (v 75) (ci 0), (some (74, true)), []⟩,
 ⟨(some 77), .pick (v 74) (v 76) (.c (.bool false)), (some (67, false)), []⟩,
 (q 78 (.pick (v 67) (.c (.bool true)) (v 77)))] [3, 4, 7, 9, 78])
 (.cond (v 78) (.seq (.reg false [(q 6 (.mov (.c (.bool false))))] [6])
 .ret) .skip))
 (.seq (.reg false [(q 79 (.load (some 3) (v 3))),
 (q 15 (.alloc true [(.bool false), (.str ⟨#[]⟩), (.int .i64 0)])),
 ⟨none, .store true 3 (v 15) (v 79), none, []⟩] [4, 7, 9, 15])
 (.seq (.seq (.reg false [(q 80 (.faddr 1 (v 15))),
 (q 81 (.load none (v 80))),
 (q 82 (.bin .neq (v 81) (.c (.str ⟨#[]⟩))))] [4, 7, 9, 15, 82])
 (.cond (v 82) (.reg false [(q 83 (.faddr 0 (v 15))),
 (q 84 (.load none (v 83))),
 (q 85 (.un .not (v 84))),
 (q 86 (.faddr 0 (v 15))),
 ⟨none, .store false 1 (v 86) (v 85), none, []⟩] [4, 7, 9, 15]) .skip))
 (.seq (.reg false [(q 87 (.load (some 3) (v 4))),
 (q 16 (.alloc true [(.bool false), (.str ⟨#[]⟩), (.int .i64 0)])),
 ⟨none, .store true 3 (v 16) (v 87), none, []⟩] [7, 9, 15, 16])
 (.seq (.seq (.reg false [(q 88 (.faddr 1 (v 16))),
 (q 89 (.load none (v 88))),
 (q 90 (.bin .neq (v 89) (.c (.str ⟨#[]⟩))))] [7, 9, 15, 16, 90])
 (.cond (v 90) (.reg false [(q 91 (.faddr 0 (v 16))),
 (q 92 (.load none (v 91))),
 (q 93 (.un .not (v 92))),
 (q 94 (.faddr 0 (v 16))),
 ⟨none, .store false 1 (v 94) (v 93), none, []⟩] [7, 9, 15, 16]) .skip))
 (.seq (.reg false [(q 96 (.load (some 3) (v 15))),
 (q 97 (.load (some 3) (v 16))),
 (q 98 (.call (cf 11) [(v 96), (v 97)])),
 (q 95 (.mov (v 98))),
 (q 99 (.extract (v 95) 0)),
 (q 100 (.extract (v 95) 1)),
 (q 17 (.mov (v 99))),
 (q 18 (.mov (v 100)))] [7, 9, 17])
 (.seq (.reg false [(q 101 (.mov (v 7))),
 (q 102 (.mov (v 9))),
 (q 103 (.un .neg (v 102))),
 (q 104 (.bin .eql (v 101) (v 103))),
 (q 105 (.mov (v 104))),
 ⟨(some 106), .mov (v 17), (some (105, true)), []⟩,
 ⟨(some 107), .mov (v 7), (some (105, true)), []⟩,
 ⟨(some 108), .un .neg (v 107), (some (105, true)), []⟩,
 ⟨(some 109), .bin .eql (v 106) (v 108), (some (105, true)), []⟩,
 (q 110 (.pick (v 105) (v 109) (.c (.bool false)))),
 (q 111 (.mov (v 110))),
 ⟨(some 112), .call (cf 8) [], (some (111, true)), []⟩,
 (q 113 (.pick (v 111) (v 112) (.c (.bool false)))),
 (q 6 (.mov (v 113)))] [6])
 .ret)))))))))))))
def f6 : VFn := ⟨3, 114, f6_c, [.t 6], true, []⟩
/- caliper/caliperlaw03.DecTimes -/
def f7_l0 : VCode :=
 (.seq (.seq (.reg false [(q 87 (.faddr 1 (v 11))),
 (q 88 (.load none (v 87))),
 (q 89 (.lens (v 88))),
 (q 90 (.bin .gtr (v 89) (ci 0))),
 (q 91 (.mov (v 90))),
 ⟨(some 92), .faddr 1 (v 11), (some (91, true)), []⟩,
 ⟨(some 93), .load none (v 92), (some (91, true)), []⟩,
 ⟨(some 94), .faddr 1 (v 11), (some (91, true)), []⟩,
 ⟨(some 95), .load none (v 94), (some (91, true)), []⟩,
 ⟨(some 96), .lens (v 95), (some (91, true)), []⟩,
 ⟨(some 97), .bin .sub (v 96) (ci 1), (some (91, true)), []⟩,
 ⟨(some 98), .idxs (v 93) (v 97), (some (91, true)), []⟩,
 ⟨(some 99), .bin .eql (v 98) (.c (.int .u8 48)), (some (91, true)), []⟩,
 (q 100 (.pick (v 91) (v 99) (.c (.bool false))))] [2, 9, 11, 100])
 (.cond (v 100) .skip (.exit 0)))
 (.block 1 (.seq (.reg false [(q 101 (.faddr 1 (v 11))),
 (q 102 (.load none (v 101))),
 (q 103 (.faddr 1 (v 11))),
 (q 104 (.load none (v 103))),
 (q 105 (.lens (v 104))),
 (q 106 (.bin .sub (v 105) (ci 1))),
 (q 107 (.slstr (v 102) none (some (v 106)))),
 (q 108 (.faddr 1 (v 11))),
 ⟨none, .store false 1 (v 108) (v 107), none, []⟩] [2, 9, 11])
 (.reg false [(q 109 (.faddr 2 (v 11))),
 (q 110 (.load none (v 109))),
 (q 111 (.bin .add (v 110) (ci 1))),
 (q 112 (.faddr 2 (v 11))),
 ⟨none, .store false 1 (v 112) (v 111), none, []⟩] [2, 9, 11]))))
def f7_c : VCode :=
 (.seq (.reg false [(q 2 (.box true 3 (v 0))),
 (q 4 (.mov (.c (.bool false))))] [1, 2])
 (.seq (.seq (.reg false [(q 17 (.load (some 3) (v 2))),
 (q 18 (.call (cf 13) [(v 17)])),
 (q 19 (.bin .neq (v 18) (ci 0))),
 (q 20 (.mov (v 19))),
 ⟨(some 21), .faddr 0 (v 2), (some (20, false)), []⟩,
 ⟨(some 22), .load none (v 21), (some (20, false)), []⟩,
 (q 23 (.pick (v 20) (.c (.bool true)) (v 22))),
 (q 24 (.mov (v 23))),
 ⟨(some 25), .faddr 1 (v 2), (some (24, false)), []⟩,
 ⟨(some 26), .load none (v 25), (some (24, false)), []⟩,
 ⟨(some 27), .bin .eql (v 26) (.c (.str ⟨#[]⟩)), (some (24, false)), []⟩,
 (q 28 (.pick (v 24) (.c (.bool true)) (v 27))),
 (q 29 (.mov (v 28))),
 ⟨(some 30), .faddr 1 (v 2), (some (29, false)), []⟩,
 ⟨(some 31), .load none (v 30), (some (29, false)), []⟩,
 ⟨(some 32), .lens (v 31), (some (29, false)), []⟩,
 ⟨(some 33), .bin .gtr (v 32) (ci 200), (some (29, false)), []⟩,
 (q 34 (.pick (v 29) (.c (.bool true)) (v 33))),
 (q 35 (.mov (v 34))),
 ⟨(some 36), .faddr 2 (v 2), (some (35, false)), []⟩,
 ⟨(some 37), .load none (v 36), (some (35, false)), []⟩,
 ⟨(some 38), .bin .lss (v 37) (ci (-100000)), (some (35, false)), []⟩,
 (q 39 (.pick (v 35) (.c (.bool true)) (v 38))),
 (q 40 (.mov (v 39))),
 ⟨(some 41), .faddr 2 (v 2), (some (40, false)), []⟩,
 ⟨(some 42), .load none (v 41), (some (40, false)), []⟩,
 ⟨(some 43), .bin .gtr (v 42) (ci 100000), (some (40, false)), []⟩,
 (q 44 (.pick (v 40) (.c (.bool true)) (v 43))),
 (q 45 (.mov (v 44))),
 ⟨(some 46), .mov (v 1), (some (45, false)), []⟩,
 ⟨(some 47), .call (cf 16) [(v 46)], (some (45, false)), []⟩,
 ⟨(some 48), .bin .neq (v 47) (ci 0), (some (45, false)), []⟩,
 (q 49 (.pick (v 45) (.c (.bool true)) (v 48))),
 (q 50 (.mov (v 49))),
 ⟨(some 51), .mov (v 1), (some (50, false)), []⟩,
 ⟨(some 52), .len (v 51), (some (50, false)), []⟩,
 ⟨(some 53), .bin .gtr (v 52) (ci 20), (some (50, false)), []⟩,
 (q 54 (.pick (v 50) (.c (.bool true)) (v 53)))] [1, 2, 54])
 (.cond (v 54) (.seq (.reg false [(q 55 (.call (cf 8) [])),
 (q 4 (.mov (v 55)))] [4])
 .ret) .skip))
 (.seq (.reg false [(q 57 (.faddr 1 (v 2))),
 (q 58 (.load none (v 57))),
 (q 59 (.call (cf 17) [(v 58)])),
 (q 56 (.mov (v 59))),
 (q 60 (.extract (v 56) 0)),
 (q 61 (.extract (v 56) 1)),
 (q 5 (.mov (v 60))),
 (q 6 (.mov (v 61)))] [1, 2, 5, 6])
 (.seq (.reg false [(q 63 (.mov (v 5))),
 (q 64 (.mov (v 1))),
 (q 65 (.call (cf 18) [(v 63), (v 64)])),
 (q 62 (.mov (v 65))),
 (q 66 (.extract (v 62) 0)),
 (q 67 (.extract (v 62) 1)),
 (q 7 (.mov (v 66))),
 (q 8 (.mov (v 67)))] [2, 6, 7, 8])
 (.seq (.reg false [(q 69 (.mov (v 7))),
 (q 70 (.call (cf 19) [(v 69)])),
 (q 68 (.mov (v 70))),
 (q 71 (.extract (v 68) 0)),
 (q 72 (.extract (v 68) 1)),
 (q 9 (.mov (v 71))),
 (q 10 (.mov (v 72)))] [2, 6, 8, 9, 10])
 (.seq (.seq (.reg false [(q 73 (.mov (v 6))),
 (q 74 (.bin .neq (v 73) (ci 0))),
 (q 75 (.mov (v 74))),
 ⟨(some 76), .mov (v 8), (some (75, false)), []⟩,
 ⟨(some 77), .bin .neq (v 76) (ci 0), (some (75, false)), []⟩,
 (q 78 (.pick (v 75) (.c (.bool true)) (v 77))),
 (q 79 (.mov (v 78))),
 ⟨(some 80), .mov (v 10), (some (79, false)), []⟩,
 ⟨(some 81), .bin .neq (v 80) (ci 0), (some (79, false)), []⟩,
 (q 82 (.pick (v 79) (.c (.bool true)) (v 81)))] [2, 9, 82])
 (.cond (v 82) (.seq (.reg false [(q 4 (.mov (.c (.bool false))))] [4])
 .ret) .skip))
 (.seq (.reg false [(q 83 (.mov (v 9))),
 (q 84 (.faddr 2 (v 2))),
 (q 85 (.load none (v 84))),
 (q 86 (.build [(.bool false), (.str ⟨#[]⟩), (.int .i64 0)] [(1, 1, (v 83)), (2, 1, (v 85))])),
 (q 11 (.alloc true [(.bool false), (.str ⟨#[]⟩), (.int .i64 0)])),
 ⟨none, .store true 3 (v 11) (v 86), none, []⟩] [2, 9, 11])
 (.seq (.block 0 (.loop [2, 9, 11] f7_l0))
 (.seq (.seq (.reg false [(q 113 (.faddr 1 (v 11))),
 (q 114 (.load none (v 113))),
 (q 115 (.bin .eql (v 114) (.c (.str ⟨#[]⟩))))] [2, 9, 11, 115])
 (.cond (v 115) (.reg false [(q 116 (.faddr 2 (v 11))),
 ⟨none, .store false 1 (v 116) (ci 0), none, []⟩] [2, 9, 11]) .skip))
 (.seq (.reg false [(q 118 (.load (some 3) (v 11))),
 (q 119 (.load (some 3) (v 2))),
 (q 120 (.call (cf 9) [(v 118), (v 119)])),
 (q 117 (.mov (v 120))),
 (q 121 (.extract (v 117) 0)),
 (q 122 (.extract (v 117) 1)),
 (q 12 (.mov (v 121))),
 (q 13 (.mov (v 122)))] [2, 9, 12, 13])
 (.seq (.reg false [(q 123 (.mov (v 9))),
 (q 124 (.bin .add (v 123) (.c (.str ⟨#[49]⟩)))),
 (q 125 (.faddr 2 (v 2))),
 (q 126 (.load none (v 125))),
 (q 127 (.bin .sub (v 126) (ci 1))),
 (q 128 (.build [(.bool false), (.str ⟨#[]⟩), (.int .i64 0)] [(1, 1, (v 124)), (2, 1, (v 127))])),
 (q 14 (.alloc true [(.bool false), (.str ⟨#[]⟩), (.int .i64 0)])),
 ⟨none, .store true 3 (v 14) (v 128), none, []⟩] [2, 9, 12, 13, 14])
 (.seq (.seq (.reg false [(q 129 (.mov (v 9))),
 (q 130 (.bin .eql (v 129) (.c (.str ⟨#[48]⟩))))] [2, 12, 13, 14, 130])
 (.cond (v 130) (.reg false [(q 131 (.faddr 1 (v 14))),
 ⟨none, .store false 1 (v 131) (.c (.str ⟨#[49]⟩)), none, []⟩] [2, 12, 13, 14]) .skip))
 (.seq (.reg false [(q 133 (.load (some 3) (v 14))),
 (q 134 (.load (some 3) (v 2))),
 (q 135 (.call (cf 9) [(v 133), (v 134)])),
 (q 132 (.mov (v 135))),
 (q 136 (.extract (v 132) 0)),
 (q 137 (.extract (v 132) 1)),
 (q 15 (.mov (v 136))),
 (q 16 (.mov (v 137)))] [12, 13, 15, 16])
 (.seq (.reg false [(q 138 (.mov (v 13))),
 (q 139 (.bin .eql (v 138) (ci 0))),
 (q 140 (.mov (v 139))),
 ⟨(some 141), .mov (v 12), (some (140, true)), []⟩,
 (q 142 (.pick (v 140) (v 141) (.c (.bool false)))),
 (q 143 (.mov (v 142))),
 ⟨(some 144), .mov (v 16), (some (143, true)), []⟩,
 ⟨(some 145), .bin .eql (v 144) (ci 0), (some (143, true)), []⟩,
 (q 146 (.pick (v 143) (v 145) (.c (.bool false)))),
 (q 147 (.mov (v 146))),
 ⟨(some 148), .mov (v 15), (some (147, true)), []⟩,
 ⟨(some 149), .un .not (v 148), (some (147, true)), []⟩,
 (q 150 (.pick (v 147) (v 149) (.c (.bool false)))),
 (q 151 (.mov (v 150))),
 ⟨(some 152), .call (cf 8) [], (some (151, true)), []⟩,
 (q 153 (.pick (v 151) (v 152) (.c (.bool false)))),
 (q 4 (.mov (v 153)))] [4])
 .ret))))))))))))))
def f7 : VFn := ⟨2, 154, f7_c, [.t 4], true, []⟩
/- caliper/caliperlaw03.heads -/
def f8_c : VCode :=
 (.seq (.reg false [(q 0 (.mov (.c (.bool false))))] [])
 (.seq (.reg false [(q 16 (.call (cf 15) [(.c (.str ⟨#[49, 46, 53, 48, 101, 50]⟩))])),
 (q 15 (.mov (v 16))),
 (q 17 (.extract (v 15) 0)),
 (q 18 (.extract (v 15) 1)),
 (q 1 (.alloc true [(.bool false), (.str ⟨#[]⟩), (.int .i64 0)])),
 ⟨none, .store true 3 (v 1) (v 17), none, []⟩,
 (q 2 (.mov (v 18)))] [1, 2])
 (.seq (.reg false [(q 20 (.call (cf 15) [(.c (.str ⟨#[45, 48, 46, 48, 101, 57]⟩))])),
 (q 19 (.mov (v 20))),
 (q 21 (.extract (v 19) 0)),
 (q 22 (.extract (v 19) 1)),
 (q 3 (.alloc true [(.bool false), (.str ⟨#[]⟩), (.int .i64 0)])),
 ⟨none, .store true 3 (v 3) (v 21), none, []⟩,
 (q 4 (.mov (v 22)))] [1, 2, 3, 4])
 (.seq (.reg false [(q 24 (.call (cf 15) [(.c (.str ⟨#[49, 101, 49, 48, 48, 48, 48, 48, 49]⟩))])),
 (q 23 (.mov (v 24))),
 (q 25 (.extract (v 23) 0)),
 (q 26 (.extract (v 23) 1)),
 (q 5 (.alloc true [(.bool false), (.str ⟨#[]⟩), (.int .i64 0)])),
 ⟨none, .store true 3 (v 5) (v 25), none, []⟩,
 (q 6 (.mov (v 26)))] [1, 2, 3, 4, 6])
 (.seq (.reg false [(q 28 (.call (cf 15) [(.c (.str ⟨#[48, 49]⟩))])),
 (q 27 (.mov (v 28))),
 (q 29 (.extract (v 27) 0)),
 (q 30 (.extract (v 27) 1)),
 (q 7 (.alloc true [(.bool false), (.str ⟨#[]⟩), (.int .i64 0)])),
 ⟨none, .store true 3 (v 7) (v 29), none, []⟩,
 (q 8 (.mov (v 30)))] [1, 2, 3, 4, 6, 8])
 (.seq (.reg false [(q 32 (.load (some 3) (v 1))),
 (q 33 (.call (cf 14) [(v 32)])),
 (q 31 (.mov (v 33))),
 (q 34 (.extract (v 31) 0)),
 (q 35 (.extract (v 31) 1)),
 (q 9 (.mov (v 34))),
 (q 10 (.mov (v 35)))] [1, 2, 3, 4, 6, 8, 9, 10])
 (.seq (.reg false [(q 37 (.build [(.bool false), (.str ⟨#[]⟩), (.int .i64 0)] [(1, 1, (.c (.str ⟨#[51]⟩))), (2, 1, (ci (-1)))])),
 (q 38 (.build [(.bool false), (.str ⟨#[]⟩), (.int .i64 0)] [(1, 1, (.c (.str ⟨#[49]⟩))), (2, 1, (ci (-1)))])),
 (q 39 (.call (cf 9) [(v 37), (v 38)])),
 (q 36 (.mov (v 39))),
 (q 40 (.extract (v 36) 0)),
 (q 41 (.extract (v 36) 1)),
 (q 11 (.mov (v 40))),
 (q 12 (.mov (v 41)))] [1, 2, 3, 4, 6, 8, 9, 10, 11, 12])
 (.seq (.reg false [(q 43 (.build [(.bool false), (.str ⟨#[]⟩), (.int .i64 0)] [(1, 1, (.c (.str ⟨#[51, 53]⟩))), (2, 1, (ci (-2)))])),
 (q 44 (.build [(.bool false), (.str ⟨#[]⟩), (.int .i64 0)] [(1, 1, (.c (.str ⟨#[49]⟩))), (2, 1, (ci (-1)))])),
 (q 45 (.call (cf 9) [(v 43), (v 44)])),
 (q 42 (.mov (v 45))),
 (q 46 (.extract (v 42) 0)),
 (q 47 (.extract (v 42) 1)),
 (q 13 (.mov (v 46))),
 (q 14 (.mov (v 47)))] [1, 2, 3, 4, 6, 8, 9, 10, 11, 12, 13])
 (.seq (.reg false [(q 48 (.mov (v 2))),
 (q 49 (.bin .eql (v 48) (ci 0))),
 (q 50 (.mov (v 49))),
 ⟨(some 51), .mov (v 4), (some (50, true)), []⟩,
 ⟨(some 52), .bin .eql (v 51) (ci 0), (some (50, true)), []⟩,
 (q 53 (.pick (v 50) (v 52) (.c (.bool false)))),
 (q 54 (.mov (v 53))),
 ⟨(some 55), .load (some 3) (v 1), (some (54, true)), []⟩,
 ⟨(some 56), .build [(.bool false), (.str ⟨#[]⟩), (.int .i64 0)] [(1, 1, (.c (.str ⟨#[49, 53]⟩))), (2, 1, (ci 1))], (some (54, true)), []⟩,
 ⟨(some 57), .eqs false [.bool, .str, .int] (v 55) (v 56), (some (54, true)), []⟩,
 (q 58 (.pick (v 54) (v 57) (.c (.bool false)))),
 (q 59 (.mov (v 58))),
 ⟨(some 60), .load (some 3) (v 3), (some (59, true)), []⟩,
 ⟨(some 61), .build [(.bool false), (.str ⟨#[]⟩), (.int .i64 0)] [], (some (59, true)), []⟩,
 ⟨(some 62), .eqs false [.bool, .str, .int] (v 60) (v 61), (some (59, true)), []⟩,
 (q 63 (.pick (v 59) (v 62) (.c (.bool false)))),
 (q 64 (.mov (v 63))),
 ⟨(some 65), .mov (v 6), (some (64, true)), []⟩,
 ⟨(some 66), .bin .eql (v 65) (ci 31), (some (64, true)), []⟩,
 (q 67 (.pick (v 64) (v 66) (.c (.bool false)))),
 (q 68 (.mov (v 67))),
 ⟨(some 69), .mov (v 8), (some (68, true)), []⟩,
 ⟨(some 70), .bin .eql (v 69) (ci 30), (some (68, true)), []⟩,
 (q 71 (.pick (v 68) (v 70) (.c (.bool false)))),
 (q 72 (.mov (v 71))),
 ⟨(some 73), .mov (v 9), (some (72, true)), []⟩,
 ⟨(some 74), .bin .eql (v 73) (.c (.str ⟨#[49, 53, 101, 49]⟩)), (some (72, true)), []⟩,
 (q 75 (.pick (v 72) (v 74) (.c (.bool false)))),
 (q 76 (.mov (v 75))),
 ⟨(some 77), .mov (v 10), (some (76, true)), []⟩,
 ⟨(some 78), .bin .eql (v 77) (ci 0), (some (76, true)), []⟩,
 (q 79 (.pick (v 76) (v 78) (.c (.bool false)))),
 (q 80 (.mov (v 79))),
 ⟨(some 81), .mov (v 11), (some (80, true)), []⟩,
 (q 82 (.pick (v 80) (v 81) (.c (.bool false)))),
 (q 83 (.mov (v 82))),
 ⟨(some 84), .mov (v 12), (some (83, true)), []⟩,
 ⟨(some 85), .bin .eql (v 84) (ci 0), (some (83, true)), []⟩,
 (q 86 (.pick (v 83) (v 85) (.c (.bool false)))),
 (q 87 (.mov (v 86))),
 ⟨(some 88), .mov (v 13), (some (87, true)), []⟩,
 ⟨(some 89), .un .not (v 88), (some (87, true)), []⟩,
 (q 90 (.pick (v 87) (v 89) (.c (.bool false)))),
 (q 0 (.mov (v 90)))] [0])
 .ret)))))))))
def f8 : VFn := ⟨0, 91, f8_c, [.t 0], true, []⟩
/- caliper/dec.Multiple -/
def f9_c : VCode :=
 (.seq (.reg false [(q 2 (.box true 3 (v 0))),
 (q 3 (.box true 3 (v 1))),
 (q 4 (.mov (.c (.bool false)))),
 (q 5 (.mov (ci 0)))] [2, 3])
 (.seq (.block 0 (.seq (.reg false [(q 18 (.load (some 3) (v 2))),
 (q 19 (.call (cf 13) [(v 18)])),
 (q 20 (.bin .neq (v 19) (ci 0))),
 (q 21 (.mov (v 20))),
 ⟨(some 22), .load (some 3) (v 3), (some (21, false)), []⟩,
 ⟨(some 23), .call (cf 13) [(v 22)], (some (21, false)), []⟩,
 ⟨(some 24), .bin .neq (v 23) (ci 0), (some (21, false)), []⟩,
 (q 25 (.pick (v 21) (.c (.bool true)) (v 24))),
 (q 17 (.mov (v 25)))] [2, 3, 17])
 (.cond (v 17) (.seq (.reg false [(q 4 (.mov (.c (.bool false)))),
 (q 5 (.mov (ci 2)))] [4, 5])
 .ret) (.seq (.reg false [(q 27 (.load (some 3) (v 3))),
 (q 28 (.call (cf 20) [(v 27)])),
 (q 29 (.bin .leq (v 28) (ci 0))),
 (q 26 (.mov (v 29)))] [2, 3, 26])
 (.cond (v 26) (.seq (.reg false [(q 4 (.mov (.c (.bool false)))),
 (q 5 (.mov (ci 20)))] [4, 5])
 .ret) (.seq (.reg false [(q 31 (.load (some 3) (v 2))),
 (q 32 (.call (cf 20) [(v 31)])),
 (q 33 (.bin .eql (v 32) (ci 0))),
 (q 30 (.mov (v 33)))] [2, 3, 30])
 (.cond (v 30) (.seq (.reg false [(q 4 (.mov (.c (.bool true)))),
 (q 5 (.mov (ci 0)))] [4, 5])
 .ret) (.seq (.reg false [(q 35 (.faddr 2 (v 2))),
 (q 36 (.load none (v 35))),
 (q 37 (.faddr 2 (v 3))),
 (q 38 (.load none (v 37))),
 (q 39 (.bin .lss (v 36) (v 38))),
 (q 34 (.mov (v 39)))] [2, 3, 34])
 (.cond (v 34) (.seq (.reg false [(q 4 (.mov (.c (.bool false)))),
 (q 5 (.mov (ci 0)))] [4, 5])
 .ret) .skip)))))))))
 (.seq (.reg false [(q 41 (.faddr 1 (v 2))),
 (q 42 (.load none (v 41))),
 (q 43 (.call (cf 17) [(v 42)])),
 (q 40 (.mov (v 43))),
 (q 44 (.extract (v 40) 0)),
 (q 45 (.extract (v 40) 1)),
 (q 6 (.mov (v 44))),
 (q 7 (.mov (v 45)))] [2, 3, 6])
 (.seq (.reg false [(q 47 (.faddr 1 (v 3))),
 (q 48 (.load none (v 47))),
 (q 49 (.call (cf 17) [(v 48)])),
 (q 46 (.mov (v 49))),
 (q 50 (.extract (v 46) 0)),
 (q 51 (.extract (v 46) 1)),
 (q 8 (.mov (v 50))),
 (q 9 (.mov (v 51)))] [2, 3, 6, 8])
 (.seq (.reg false [(q 53 (.buildRow false 1 1 [(.int .u32 0)] [(0, (.c (.int .u32 10)))])),
 (q 54 (.faddr 2 (v 2))),
 (q 55 (.load none (v 54))),
 (q 56 (.faddr 2 (v 3))),
 (q 57 (.load none (v 56))),
 (q 58 (.bin .sub (v 55) (v 57))),
 (q 59 (.mov (v 8))),
 (q 60 (.call (cf 21) [(v 53), (v 58), (v 59)])),
 (q 52 (.mov (v 60))),
 (q 61 (.extract (v 52) 0)),
 (q 62 (.extract (v 52) 1)),
 (q 10 (.mov (v 61))),
 (q 11 (.mov (v 62)))] [6, 8, 10])
 (.seq (.reg false [(q 64 (.mov (v 6))),
 (q 65 (.mov (v 10))),
 (q 66 (.call (cf 18) [(v 64), (v 65)])),
 (q 63 (.mov (v 66))),
 (q 67 (.extract (v 63) 0)),
 (q 68 (.extract (v 63) 1)),
 (q 12 (.mov (v 67))),
 (q 13 (.mov (v 68)))] [8, 12])
 (.seq (.reg false [(q 70 (.mov (v 12))),
 (q 71 (.mov (v 8))),
 (q 72 (.call (cf 22) [(v 70), (v 71)])),
 (q 69 (.mov (v 72))),
 (q 73 (.extract (v 69) 0)),
 (q 74 (.extract (v 69) 1)),
 (q 75 (.extract (v 69) 2)),
 (q 14 (.mov (v 73))),
 (q 15 (.mov (v 74))),
 (q 16 (.mov (v 75)))] [15])
 (.seq (.reg false [(q 76 (.mov (v 15))),
 (q 77 (.len (v 76))),
 (q 78 (.bin .eql (v 77) (ci 0))),
 (q 4 (.mov (v 78))),
 (q 5 (.mov (ci 0)))] [4, 5])
 .ret))))))))
def f9 : VFn := ⟨2, 79, f9_c, [.t 4, .t 5], true, []⟩
/- caliper/caliperref03.Multiple -/
def f10_c : VCode :=
 (.seq (.reg false [(q 2 (.box true 3 (v 0))),
 (q 3 (.box true 3 (v 1))),
 (q 4 (.mov (.c (.bool false)))),
 (q 5 (.mov (ci 0)))] [2, 3])
 (.seq (.seq (.reg false [(q 17 (.load (some 3) (v 2))),
 (q 18 (.call (cf 23) [(v 17)])),
 (q 19 (.bin .neq (v 18) (ci 0))),
 (q 20 (.mov (v 19))),
 ⟨(some 21), .load (some 3) (v 3), (some (20, false)), []⟩,
 ⟨(some 22), .call (cf 23) [(v 21)], (some (20, false)), []⟩,
 ⟨(some 23), .bin .neq (v 22) (ci 0), (some (20, false)), []⟩,
 (q 24 (.pick (v 20) (.c (.bool true)) (v 23)))] [2, 3, 24])
 (.cond (v 24) (.seq (.reg false [(q 4 (.mov (.c (.bool false)))),
 (q 5 (.mov (ci 2)))] [4, 5])
 .ret) .skip))
 (.seq (.seq (.reg false [(q 25 (.load (some 3) (v 3))),
 (q 26 (.call (cf 24) [(v 25)])),
 (q 27 (.bin .leq (v 26) (ci 0)))] [2, 3, 27])
 (.cond (v 27) (.seq (.reg false [(q 4 (.mov (.c (.bool false)))),
 (q 5 (.mov (ci 20)))] [4, 5])
 .ret) .skip))
 (.seq (.seq (.reg false [(q 28 (.faddr 1 (v 2))),
 (q 29 (.load none (v 28))),
 (q 30 (.bin .eql (v 29) (.c (.str ⟨#[]⟩))))] [2, 3, 30])
 (.cond (v 30) (.seq (.reg false [(q 4 (.mov (.c (.bool true)))),
 (q 5 (.mov (ci 0)))] [4, 5])
 .ret) .skip))
 (.seq (.seq (.reg false [(q 31 (.faddr 2 (v 2))),
 (q 32 (.load none (v 31))),
 (q 33 (.faddr 2 (v 3))),
 (q 34 (.load none (v 33))),
 (q 35 (.bin .lss (v 32) (v 34)))] [2, 3, 35])
 (.cond (v 35) (.seq (.reg false [(q 4 (.mov (.c (.bool false)))),
 (q 5 (.mov (ci 0)))] [4, 5])
 .ret) .skip))
 (.seq (.reg false [(q 37 (.faddr 1 (v 2))),
 (q 38 (.load none (v 37))),
 (q 39 (.call (cf 25) [(v 38)])),
 (q 36 (.mov (v 39))),
 (q 40 (.extract (v 36) 0)),
 (q 41 (.extract (v 36) 1)),
 (q 6 (.mov (v 40))),
 (q 7 (.mov (v 41)))] [2, 3, 6])
 (.seq (.reg false [(q 43 (.faddr 1 (v 3))),
 (q 44 (.load none (v 43))),
 (q 45 (.call (cf 25) [(v 44)])),
 (q 42 (.mov (v 45))),
 (q 46 (.extract (v 42) 0)),
 (q 47 (.extract (v 42) 1)),
 (q 8 (.mov (v 46))),
 (q 9 (.mov (v 47)))] [2, 3, 6, 8])
 (.seq (.reg false [(q 49 (.buildRow false 1 1 [(.int .u32 0)] [(0, (.c (.int .u32 10)))])),
 (q 50 (.faddr 2 (v 2))),
 (q 51 (.load none (v 50))),
 (q 52 (.faddr 2 (v 3))),
 (q 53 (.load none (v 52))),
 (q 54 (.bin .sub (v 51) (v 53))),
 (q 55 (.mov (v 8))),
 (q 56 (.call (cf 26) [(v 49), (v 54), (v 55)])),
 (q 48 (.mov (v 56))),
 (q 57 (.extract (v 48) 0)),
 (q 58 (.extract (v 48) 1)),
 (q 10 (.mov (v 57))),
 (q 11 (.mov (v 58)))] [6, 8, 10])
 (.seq (.reg false [(q 60 (.mov (v 6))),
 (q 61 (.mov (v 10))),
 (q 62 (.call (cf 27) [(v 60), (v 61)])),
 (q 59 (.mov (v 62))),
 (q 63 (.extract (v 59) 0)),
 (q 64 (.extract (v 59) 1)),
 (q 12 (.mov (v 63))),
 (q 13 (.mov (v 64)))] [8, 12])
 (.seq (.reg false [(q 66 (.mov (v 12))),
 (q 67 (.mov (v 8))),
 (q 68 (.call (cf 28) [(v 66), (v 67)])),
 (q 65 (.mov (v 68))),
 (q 69 (.extract (v 65) 0)),
 (q 70 (.extract (v 65) 1)),
 (q 71 (.extract (v 65) 2)),
 (q 14 (.mov (v 69))),
 (q 15 (.mov (v 70))),
 (q 16 (.mov (v 71)))] [15])
 (.seq (.reg false [(q 72 (.mov (v 15))),
 (q 73 (.len (v 72))),
 (q 74 (.bin .eql (v 73) (ci 0))),
 (q 4 (.mov (v 74))),
 (q 5 (.mov (ci 0)))] [4, 5])
 .ret)))))))))))
def f10 : VFn := ⟨2, 75, f10_c, [.t 4, .t 5], true, []⟩
/- caliper/dec.Compare -/
def f11_c : VCode :=
 (.seq (.reg false [(q 2 (.box true 3 (v 0))),
 (q 3 (.box true 3 (v 1))),
 (q 4 (.mov (ci 0))),
 (q 5 (.mov (ci 0)))] [2, 3])
 (.seq (.seq (.reg false [(q 8 (.load (some 3) (v 2))),
 (q 9 (.call (cf 13) [(v 8)])),
 (q 10 (.bin .neq (v 9) (ci 0))),
 (q 11 (.mov (v 10))),
 ⟨(some 12), .load (some 3) (v 3), (some (11, false)), []⟩,
 ⟨(some 13), .call (cf 13) [(v 12)], (some (11, false)), []⟩,
 ⟨(some 14), .bin .neq (v 13) (ci 0), (some (11, false)), []⟩,
 (q 15 (.pick (v 11) (.c (.bool true)) (v 14)))] [2, 3, 15])
 (.cond (v 15) (.seq (.reg false [(q 4 (.mov (ci 0))),
 (q 5 (.mov (ci 2)))] [4, 5])
 .ret) .skip))
 (.seq (.seq (.reg true [(q 16 (.load (some 3) (v 2))),
 (q 17 (.call (cf 20) [(v 16)])),
 (q 18 (.load (some 3) (v 3))),
 (q 19 (.call (cf 20) [(v 18)])),
 (q 20 (.call (cf 29) [(v 17), (v 19)])),
 (q 6 (.mov (v 20)))] [2, 3, 6])
 (.seq (.reg false [(q 21 (.mov (v 6))),
 (q 22 (.bin .neq (v 21) (ci 0))),
 (q 23 (.mov (v 22))),
 ⟨(some 24), .load (some 3) (v 2), (some (23, false)), []⟩,
 ⟨(some 25), .load (some 3) (v 3), (some (23, false)), []⟩,
 ⟨(some 26), .eqs false [.bool, .str, .int] (v 24) (v 25), (some (23, false)), []⟩,
 (q 27 (.pick (v 23) (.c (.bool true)) (v 26)))] [2, 3, 6, 27])
 (.cond (v 27) (.seq (.reg false [(q 28 (.mov (v 6))),
 (q 4 (.mov (v 28))),
 (q 5 (.mov (ci 0)))] [4, 5])
 .ret) .skip)))
 (.seq (.reg true [(q 29 (.faddr 1 (v 2))),
 (q 30 (.load none (v 29))),
 (q 31 (.lens (v 30))),
 (q 32 (.faddr 2 (v 2))),
 (q 33 (.load none (v 32))),
 (q 34 (.bin .add (v 31) (v 33))),
 (q 35 (.faddr 1 (v 3))),
 (q 36 (.load none (v 35))),
 (q 37 (.lens (v 36))),
 (q 38 (.faddr 2 (v 3))),
 (q 39 (.load none (v 38))),
 (q 40 (.bin .add (v 37) (v 39))),
 (q 41 (.call (cf 29) [(v 34), (v 40)])),
 (q 42 (.faddr 1 (v 2))),
 (q 43 (.load none (v 42))),
 (q 44 (.faddr 1 (v 3))),
 (q 45 (.load none (v 44))),
 (q 46 (.call (cf 31) [(v 43), (v 45)])),
 (q 47 (.buildRow false 1 2 [(.int .i64 0)] [(0, (v 41)), (1, (v 46))])),
 (q 48 (.call (cf 30) [(v 47)])),
 (q 7 (.mov (v 48)))] [2, 7])
 (.seq (.reg false [(q 49 (.mov (v 7))),
 (q 50 (.load (some 3) (v 2))),
 (q 51 (.call (cf 20) [(v 50)])),
 (q 52 (.bin .mul (v 49) (v 51))),
 (q 4 (.mov (v 52))),
 (q 5 (.mov (ci 0)))] [4, 5])
 .ret)))))
def f11 : VFn := ⟨2, 53, f11_c, [.t 4, .t 5], true, []⟩
/- caliper/caliperref03.Compare -/
def f12_c : VCode :=
 (.seq (.reg false [(q 2 (.box true 3 (v 0))),
 (q 3 (.box true 3 (v 1))),
 (q 4 (.mov (ci 0))),
 (q 5 (.mov (ci 0)))] [2, 3])
 (.seq (.seq (.reg false [(q 8 (.load (some 3) (v 2))),
 (q 9 (.call (cf 23) [(v 8)])),
 (q 10 (.bin .neq (v 9) (ci 0))),
 (q 11 (.mov (v 10))),
 ⟨(some 12), .load (some 3) (v 3), (some (11, false)), []⟩,
 ⟨(some 13), .call (cf 23) [(v 12)], (some (11, false)), []⟩,
 ⟨(some 14), .bin .neq (v 13) (ci 0), (some (11, false)), []⟩,
 (q 15 (.pick (v 11) (.c (.bool true)) (v 14)))] [2, 3, 15])
 (.cond (v 15) (.seq (.reg false [(q 4 (.mov (ci 0))),
 (q 5 (.mov (ci 2)))] [4, 5])
 .ret) .skip))
 (.seq (.reg true [(q 16 (.load (some 3) (v 2))),
 (q 17 (.call (cf 24) [(v 16)])),
 (q 18 (.load (some 3) (v 3))),
 (q 19 (.call (cf 24) [(v 18)])),
 (q 6 (.mov (v 17))),
 (q 7 (.mov (v 19)))] [2, 3, 6, 7])
 (.seq (.block 0 (.seq (.reg false [(q 21 (.mov (v 6))),
 (q 22 (.mov (v 7))),
 (q 23 (.bin .lss (v 21) (v 22))),
 (q 20 (.mov (v 23)))] [2, 3, 6, 7, 20])
 (.cond (v 20) (.seq (.reg false [(q 4 (.mov (ci (-1)))),
 (q 5 (.mov (ci 0)))] [4, 5])
 .ret) (.seq (.reg false [(q 25 (.mov (v 6))),
 (q 26 (.mov (v 7))),
 (q 27 (.bin .gtr (v 25) (v 26))),
 (q 24 (.mov (v 27)))] [2, 3, 6, 24])
 (.cond (v 24) (.seq (.reg false [(q 4 (.mov (ci 1))),
 (q 5 (.mov (ci 0)))] [4, 5])
 .ret) (.seq (.reg false [(q 29 (.mov (v 6))),
 (q 30 (.bin .eql (v 29) (ci 0))),
 (q 28 (.mov (v 30)))] [2, 3, 6, 28])
 (.cond (v 28) (.seq (.reg false [(q 4 (.mov (ci 0))),
 (q 5 (.mov (ci 0)))] [4, 5])
 .ret) .skip)))))))
 (.seq (.reg false [(q 31 (.mov (v 6))),
 (q 32 (.load (some 3) (v 2))),
 (q 33 (.load (some 3) (v 3))),
 (q 34 (.call (cf 32) [(v 32), (v 33)])),
 (q 35 (.bin .mul (v 31) (v 34))),
 (q 4 (.mov (v 35))),
 (q 5 (.mov (ci 0)))] [4, 5])
 .ret)))))
def f12 : VFn := ⟨2, 36, f12_c, [.t 4, .t 5], true, []⟩
/- caliper/dec.Check -/
def f13_c : VCode :=
 (.seq (.reg false [(q 1 (.box true 3 (v 0))),
 (q 2 (.mov (ci 0)))] [1])
 (.seq (.reg false [(q 4 (.faddr 1 (v 1))),
 (q 5 (.load none (v 4))),
 (q 6 (.lens (v 5))),
 (q 3 (.mov (v 6)))] [1, 3])
 (.seq (.seq (.reg false [(q 7 (.mov (v 3))),
 (q 8 (.bin .eql (v 7) (ci 0)))] [1, 3, 8])
 (.cond (v 8) (.seq (.seq (.reg false [(q 9 (.load (some 3) (v 1))),
 (q 10 (.build [(.bool false), (.str ⟨#[]⟩), (.int .i64 0)] [])),
 (q 11 (.eqs true [.bool, .str, .int] (v 9) (v 10)))] [11])
 (.cond (v 11) (.seq (.reg false [(q 2 (.mov (ci 2)))] [2])
 .ret) .skip))
 (.seq (.reg false [(q 2 (.mov (ci 0)))] [2])
 .ret)) .skip))
 (.seq (.seq (.reg false [(q 12 (.mov (v 3))),
 (q 13 (.bin .gtr (v 12) (ci 65536))),
 (q 14 (.mov (v 13))),
 ⟨(some 15), .faddr 1 (v 1), (some (14, false)), []⟩,
 ⟨(some 16), .load none (v 15), (some (14, false)), []⟩,
 ⟨(some 17), .idxs (v 16) (ci 0), (some (14, false)), []⟩,
 ⟨(some 18), .bin .eql (v 17) (.c (.int .u8 48)), (some (14, false)), []⟩,
 (q 19 (.pick (v 14) (.c (.bool true)) (v 18))),
 (q 20 (.mov (v 19))),
 ⟨(some 21), .faddr 1 (v 1), (some (20, false)), []⟩,
 ⟨(some 22), .load none (v 21), (some (20, false)), []⟩,
 ⟨(some 23), .mov (v 3), (some (20, false)), []⟩,
 ⟨(some 24), .bin .sub (v 23) (ci 1), (some (20, false)), []⟩,
 ⟨(some 25), .idxs (v 22) (v 24), (some (20, false)), []⟩,
 ⟨(some 26), .bin .eql (v 25) (.c (.int .u8 48)), (some (20, false)), []⟩,
 (q 27 (.pick (v 20) (.c (.bool true)) (v 26))),
 (q 28 (.mov (v 27))),
 ⟨(some 29), .faddr 1 (v 1), (some (28, false)), []⟩,
 ⟨(some 30), .load none (v 29), (some (28, false)), []⟩,
 ⟨(some 31), .call (cf 33) [(v 30), (.c (.str ⟨#[48, 49, 50, 51, 52, 53, 54, 55, 56, 57]⟩))], (some (28, false)), []⟩,
 ⟨(some 32), .bin .neq (v 31) (.c (.str ⟨#[]⟩)), (some (28, false)), []⟩,
 (q 33 (.pick (v 28) (.c (.bool true)) (v 32))),
 (q 34 (.mov (v 33))),
 ⟨(some 35), .faddr 2 (v 1), (some (34, false)), []⟩,
 ⟨(some 36), .load none (v 35), (some (34, false)), []⟩,
 ⟨(some 37), .bin .lss (v 36) (ci (-1000000)), (some (34, false)), []⟩,
 (q 38 (.pick (v 34) (.c (.bool true)) (v 37))),
 (q 39 (.mov (v 38))),
 ⟨(some 40), .faddr 2 (v 1), (some (39, false)), []⟩,
 ⟨(some 41), .load none (v 40), (some (39, false)), []⟩,
 ⟨(some 42), .bin .gtr (v 41) (ci 1000000), (some (39, false)), []⟩,
 (q 43 (.pick (v 39) (.c (.bool true)) (v 42)))] [43])
 (.cond (v 43) (.seq (.reg false [(q 2 (.mov (ci 2)))] [2])
 .ret) .skip))
 (.seq (.reg false [(q 2 (.mov (ci 0)))] [2])
 .ret)))))
def f13 : VFn := ⟨1, 44, f13_c, [.t 2], true, []⟩
/- caliper/dec.Text -/
def f14_c : VCode :=
 (.seq (.reg false [(q 1 (.box true 3 (v 0))),
 (q 2 (.mov (.c (.str ⟨#[]⟩)))),
 (q 3 (.mov (ci 0)))] [1])
 (.seq (.seq (.reg false [(q 6 (.load (some 3) (v 1))),
 (q 7 (.call (cf 13) [(v 6)])),
 (q 4 (.mov (v 7)))] [1, 4])
 (.seq (.reg false [(q 8 (.mov (v 4))),
 (q 9 (.bin .neq (v 8) (ci 0)))] [1, 4, 9])
 (.cond (v 9) (.seq (.reg false [(q 10 (.mov (v 4))),
 (q 2 (.mov (.c (.str ⟨#[]⟩)))),
 (q 3 (.mov (v 10)))] [2, 3])
 .ret) .skip)))
 (.seq (.seq (.reg false [(q 11 (.faddr 1 (v 1))),
 (q 12 (.load none (v 11))),
 (q 13 (.bin .eql (v 12) (.c (.str ⟨#[]⟩))))] [1, 13])
 (.cond (v 13) (.seq (.reg false [(q 2 (.mov (.c (.str ⟨#[48]⟩)))),
 (q 3 (.mov (ci 0)))] [2, 3])
 .ret) .skip))
 (.seq (.reg false [(q 14 (.faddr 1 (v 1))),
 (q 15 (.load none (v 14))),
 (q 5 (.mov (v 15)))] [1, 5])
 (.seq (.seq (.reg false [(q 16 (.faddr 0 (v 1))),
 (q 17 (.load none (v 16)))] [1, 5, 17])
 (.cond (v 17) (.reg false [(q 18 (.mov (v 5))),
 (q 19 (.bin .add (.c (.str ⟨#[45]⟩)) (v 18))),
 (q 5 (.mov (v 19)))] [1, 5]) .skip))
 (.seq (.seq (.reg false [(q 20 (.faddr 2 (v 1))),
 (q 21 (.load none (v 20))),
 (q 22 (.bin .neq (v 21) (ci 0)))] [1, 5, 22])
 (.cond (v 22) (.reg false [(q 23 (.mov (v 5))),
 (q 24 (.faddr 2 (v 1))),
 (q 25 (.load none (v 24))),
 (q 26 (.call (cf 34) [(v 25)])),
 (q 27 (.bin .add (.c (.str ⟨#[101]⟩)) (v 26))),
 (q 28 (.bin .add (v 23) (v 27))),
 (q 5 (.mov (v 28)))] [5]) .skip))
 (.seq (.reg false [(q 29 (.mov (v 5))),
 (q 2 (.mov (v 29))),
 (q 3 (.mov (ci 0)))] [2, 3])
 .ret)))))))
def f14 : VFn := ⟨1, 30, f14_c, [.t 2, .t 3], true, []⟩
/- caliper/dec.Parse -/
def f15_c : VCode :=
 (.seq (.reg false [(q 2 (.alloc true [(.bool false), (.str ⟨#[]⟩), (.int .i64 0)])),
 (q 3 (.mov (ci 0)))] [0, 2])
 (.seq (.reg false [(q 8 (.mov (v 0))),
 (q 9 (.call (cf 35) [(v 8)])),
 (q 7 (.mov (v 9))),
 (q 10 (.extract (v 7) 0)),
 (q 11 (.extract (v 7) 1)),
 (q 12 (.extract (v 7) 2)),
 (q 4 (.alloc true [(.bool false), (.str ⟨#[]⟩), (.int .i64 0)])),
 ⟨none, .store true 3 (v 4) (v 10), none, []⟩,
 (q 5 (.mov (v 11))),
 (q 6 (.mov (v 12)))] [2, 4, 5, 6])
 (.seq (.seq (.reg false [(q 13 (.mov (v 6))),
 (q 14 (.isnil .iface true (v 13)))] [2, 4, 5, 6, 14])
 (.cond (v 14) (.seq (.reg false [(q 15 (.build [(.bool false), (.str ⟨#[]⟩), (.int .i64 0)] [])),
 (q 16 (.mov (v 6))),
 (q 17 (.call (cf 36) [(v 16)])),
 ⟨none, .store true 3 (v 2) (v 15), none, []⟩,
 (q 3 (.mov (v 17)))] [2, 3])
 .ret) .skip))
 (.seq (.seq (.reg false [(q 18 (.mov (v 5))),
 (q 19 (.bin .gtr (v 18) (ci 65536))),
 (q 20 (.mov (v 19))),
 ⟨(some 21), .faddr 2 (v 4), (some (20, false)), []⟩,
 ⟨(some 22), .load none (v 21), (some (20, false)), []⟩,
 ⟨(some 23), .bin .lss (v 22) (ci (-1000000)), (some (20, false)), []⟩,
 (q 24 (.pick (v 20) (.c (.bool true)) (v 23))),
 (q 25 (.mov (v 24))),
 ⟨(some 26), .faddr 2 (v 4), (some (25, false)), []⟩,
 ⟨(some 27), .load none (v 26), (some (25, false)), []⟩,
 ⟨(some 28), .bin .gtr (v 27) (ci 1000000), (some (25, false)), []⟩,
 (q 29 (.pick (v 25) (.c (.bool true)) (v 28)))] [2, 4, 29])
 (.cond (v 29) (.seq (.reg false [(q 30 (.build [(.bool false), (.str ⟨#[]⟩), (.int .i64 0)] [])),
 ⟨none, .store true 3 (v 2) (v 30), none, []⟩,
 (q 3 (.mov (ci 31)))] [2, 3])
 .ret) .skip))
 (.seq (.reg false [(q 31 (.load (some 3) (v 4))),
 ⟨none, .store true 3 (v 2) (v 31), none, []⟩,
 (q 3 (.mov (ci 0)))] [2, 3])
 .ret)))))
def f15 : VFn := ⟨1, 32, f15_c, [.c 2 (some 3), .t 3], true, []⟩
/- caliper/nat.Check -/
def f16_c : VCode :=
 (.seq (.reg false [(q 2 (.mov (ci 0)))] [0])
 (.seq (.seq (.reg false [(q 3 (.mov (v 0))),
 (q 4 (.call (cf 37) [(v 3)])),
 (q 5 (.un .not (v 4)))] [5])
 (.cond (v 5) (.seq (.reg false [(q 2 (.mov (ci 2)))] [2])
 .ret) .skip))
 (.seq (.reg false [(q 2 (.mov (ci 0)))] [2])
 .ret)))
def f16 : VFn := ⟨1, 6, f16_c, [.t 2], true, []⟩
/- caliper/nat.Of -/
def f17_l0 : VCode :=
 (.seq (.reg false [(q 33 (.bin .lss (v 32) (v 31)))] [0, 4, 5, 6, 30, 31, 32, 33])
 (.seq (.cond (v 33) .skip (.exit 2))
 (.seq (.block 3 (.seq (.reg false [(q 34 (.iaddr 1 (v 30) (v 32))),
 (q 35 (.load none (v 34))),
 (q 8 (.mov (v 35)))] [0, 4, 5, 6, 8, 30, 31, 32])
 (.reg false [(q 36 (.mov (v 6))),
 (q 37 (.bin .mul (v 36) (.c (.int .u32 10)))),
 (q 38 (.mov (v 8))),
 (q 39 (.bin .sub (v 38) (.c (.int .u8 48)))),
 (q 40 (.conv (.toInt .u32) (v 39))),
 (q 41 (.bin .add (v 37) (v 40))),
 (q 6 (.mov (v 41)))] [0, 4, 5, 6, 30, 31, 32])))
 (.reg false [(q 42 (.bin .add (v 32) (ci 1))),
 (q 32 (.mov (v 42)))] [0, 4, 5, 6, 30, 31, 32]))))
def f17_l1 : VCode :=
 (.seq (.seq (.reg false [(q 21 (.mov (v 0))),
 (q 22 (.bin .neq (v 21) (.c (.str ⟨#[]⟩))))] [0, 4, 22])
 (.cond (v 22) .skip (.exit 0)))
 (.block 1 (.seq (.reg false [(q 23 (.mov (v 0))),
 (q 24 (.lens (v 23))),
 (q 25 (.bin .sub (v 24) (ci 9))),
 (q 26 (.max [(ci 0), (v 25)])),
 (q 5 (.mov (v 26)))] [0, 4, 5])
 (.seq (.reg false [(q 6 (.mov (.c (.int .u32 0))))] [0, 4, 5, 6])
 (.seq (.seq (.reg false [(q 27 (.mov (v 0))),
 (q 28 (.mov (v 5))),
 (q 29 (.slstr (v 27) (some (v 28)) none)),
 (q 30 (.conv .strToBytes (v 29))),
 (q 31 (.len (v 30))),
 (q 32 (.mov (ci 0)))] [0, 4, 5, 6, 30, 31, 32])
 (.block 2 (.loop [0, 4, 5, 6, 30, 31, 32] f17_l0)))
 (.seq (.reg false [(q 43 (.mov (v 4))),
 (q 44 (.mov (v 6))),
 (q 45 (.buildRow false 1 1 [(.int .u32 0)] [(0, (v 44))])),
 (q 46 (.append 1 4 (v 43) (v 45))),
 (q 4 (.mov (v 46)))] [0, 4, 5])
 (.reg false [(q 47 (.mov (v 0))),
 (q 48 (.mov (v 5))),
 (q 49 (.slstr (v 47) none (some (v 48)))),
 (q 0 (.mov (v 49)))] [0, 4])))))))
def f17_c : VCode :=
 (.seq (.reg false [(q 2 (.nilrow 1)),
 (q 3 (.mov (ci 0)))] [0])
 (.seq (.seq (.reg false [(q 9 (.mov (v 0))),
 (q 10 (.bin .eql (v 9) (.c (.str ⟨#[]⟩)))),
 (q 11 (.mov (v 10))),
 ⟨(some 12), .mov (v 0), (some (11, false)), []⟩,
 ⟨(some 13), .lens (v 12), (some (11, false)), []⟩,
 ⟨(some 14), .bin .gtr (v 13) (ci 1048576), (some (11, false)), []⟩,
 (q 15 (.pick (v 11) (.c (.bool true)) (v 14))),
 (q 16 (.mov (v 15))),
 ⟨(some 17), .mov (v 0), (some (16, false)), []⟩,
 ⟨(some 18), .call (cf 33) [(v 17), (.c (.str ⟨#[48, 49, 50, 51, 52, 53, 54, 55, 56, 57]⟩))], (some (16, false)), []⟩,
 ⟨(some 19), .bin .neq (v 18) (.c (.str ⟨#[]⟩)), (some (16, false)), []⟩,
 (q 20 (.pick (v 16) (.c (.bool true)) (v 19)))] [0, 20])
 (.cond (v 20) (.seq (.reg false [(q 2 (.nilrow 1)),
 (q 3 (.mov (ci 2)))] [2, 3])
 .ret) .skip))
 (.seq (.reg false [(q 4 (.nilrow 1))] [0, 4])
 (.seq (.block 0 (.loop [0, 4] f17_l1))
 (.seq (.reg false [(q 50 (.mov (v 4))),
 (q 51 (.call (cf 38) [(v 50)])),
 (q 2 (.mov (v 51))),
 (q 3 (.mov (ci 0)))] [2, 3])
 .ret)))))
def f17 : VFn := ⟨1, 52, f17_c, [.t 2, .t 3], true, []⟩
/- caliper/nat.Mul -/
def f18_c : VCode :=
 (.seq (.reg false [(q 4 (.nilrow 1)),
 (q 5 (.mov (ci 0)))] [0, 1])
 (.seq (.seq (.reg false [(q 7 (.mov (v 0))),
 (q 8 (.mov (v 1))),
 (q 9 (.call (cf 39) [(v 7), (v 8)])),
 (q 6 (.mov (v 9)))] [0, 1, 6])
 (.seq (.reg false [(q 10 (.mov (v 6))),
 (q 11 (.bin .neq (v 10) (ci 0)))] [0, 1, 6, 11])
 (.cond (v 11) (.seq (.reg false [(q 12 (.mov (v 6))),
 (q 4 (.nilrow 1)),
 (q 5 (.mov (v 12)))] [4, 5])
 .ret) .skip)))
 (.seq (.reg false [(q 13 (.mov (v 0))),
 (q 14 (.mov (v 1))),
 (q 15 (.call (cf 40) [(v 13), (v 14)])),
 (q 4 (.mov (v 15))),
 (q 5 (.mov (ci 0)))] [4, 5])
 .ret)))
def f18 : VFn := ⟨2, 16, f18_c, [.t 4, .t 5], true, []⟩
/- caliper/nat.Text -/
def f19_l0 : VCode :=
 (.seq (.reg false [(q 24 (.bin .lss (v 23) (ci 9)))] [4, 5, 6, 16, 17, 18, 23, 24])
 (.seq (.cond (v 24) .skip (.exit 2))
 (.seq (.block 3 (.seq (.reg false [(q 25 (.mov (v 23))),
 (q 7 (.mov (v 25)))] [4, 5, 6, 7, 16, 17, 18, 23])
 (.seq (.reg false [(q 26 (.mov (v 4))),
 (q 27 (.mov (v 4))),
 (q 28 (.len (v 27))),
 (q 29 (.bin .sub (v 28) (ci 1))),
 (q 30 (.mov (v 5))),
 (q 31 (.bin .mul (v 30) (ci 9))),
 (q 32 (.bin .sub (v 29) (v 31))),
 (q 33 (.mov (v 7))),
 (q 34 (.bin .sub (v 32) (v 33))),
 (q 35 (.mov (v 6))),
 (q 36 (.bin .rem (v 35) (.c (.int .u32 10)))),
 (q 37 (.conv (.toInt .u8) (v 36))),
 (q 38 (.bin .add (.c (.int .u8 48)) (v 37))),
 (q 39 (.iaddr 1 (v 26) (v 34))),
 ⟨none, .store false 1 (v 39) (v 38), none, []⟩] [4, 5, 6, 16, 17, 18, 23])
 (.reg false [(q 40 (.mov (v 6))),
 (q 41 (.bin .quo (v 40) (.c (.int .u32 10)))),
 (q 6 (.mov (v 41)))] [4, 5, 6, 16, 17, 18, 23]))))
 (.reg false [(q 42 (.bin .add (v 23) (ci 1))),
 (q 23 (.mov (v 42)))] [4, 5, 6, 16, 17, 18, 23]))))
def f19_l1 : VCode :=
 (.seq (.reg false [(q 19 (.bin .lss (v 18) (v 17)))] [4, 16, 17, 18, 19])
 (.seq (.cond (v 19) .skip (.exit 0))
 (.seq (.block 1 (.seq (.reg false [(q 20 (.mov (v 18))),
 (q 21 (.iaddr 1 (v 16) (v 18))),
 (q 22 (.load none (v 21))),
 (q 5 (.mov (v 20))),
 (q 6 (.mov (v 22)))] [4, 5, 6, 16, 17, 18])
 (.seq (.reg false [(q 23 (.mov (ci 0)))] [4, 5, 6, 16, 17, 18, 23])
 (.block 2 (.loop [4, 5, 6, 16, 17, 18, 23] f19_l0)))))
 (.reg false [(q 43 (.bin .add (v 18) (ci 1))),
 (q 18 (.mov (v 43)))] [4, 16, 17, 18]))))
def f19_c : VCode :=
 (.seq (.reg false [(q 2 (.mov (.c (.str ⟨#[]⟩)))),
 (q 3 (.mov (ci 0)))] [0])
 (.seq (.seq (.reg false [(q 9 (.mov (v 0))),
 (q 10 (.call (cf 37) [(v 9)])),
 (q 11 (.un .not (v 10)))] [0, 11])
 (.cond (v 11) (.seq (.reg false [(q 2 (.mov (.c (.str ⟨#[]⟩)))),
 (q 3 (.mov (ci 2)))] [2, 3])
 .ret) .skip))
 (.seq (.reg false [(q 12 (.mov (v 0))),
 (q 13 (.len (v 12))),
 (q 14 (.bin .mul (v 13) (ci 9))),
 (q 15 (.mkslice false 1 1 [(.int .u8 0)] (v 14) (v 14))),
 (q 4 (.mov (v 15)))] [0, 4])
 (.seq (.seq (.reg false [(q 16 (.mov (v 0))),
 (q 17 (.len (v 16))),
 (q 18 (.mov (ci 0)))] [4, 16, 17, 18])
 (.block 0 (.loop [4, 16, 17, 18] f19_l1)))
 (.seq (.reg false [(q 44 (.mov (v 4))),
 (q 45 (.conv .bytesToStr (v 44))),
 (q 46 (.call (cf 41) [(v 45), (.c (.str ⟨#[48]⟩))])),
 (q 8 (.mov (v 46)))] [8])
 (.seq (.seq (.reg false [(q 47 (.mov (v 8))),
 (q 48 (.bin .eql (v 47) (.c (.str ⟨#[]⟩))))] [8, 48])
 (.cond (v 48) (.reg false [(q 8 (.mov (.c (.str ⟨#[48]⟩))))] [8]) .skip))
 (.seq (.reg false [(q 49 (.mov (v 8))),
 (q 2 (.mov (v 49))),
 (q 3 (.mov (ci 0)))] [2, 3])
 .ret)))))))
def f19 : VFn := ⟨1, 50, f19_c, [.t 2, .t 3], true, []⟩
/- caliper/dec.sign -/
def f20_c : VCode :=
 (.seq (.reg false [(q 1 (.box true 3 (v 0))),
 (q 2 (.mov (ci 0)))] [1])
 (.seq (.block 0 (.seq (.reg false [(q 4 (.faddr 1 (v 1))),
 (q 5 (.load none (v 4))),
 (q 6 (.bin .eql (v 5) (.c (.str ⟨#[]⟩)))),
 (q 3 (.mov (v 6)))] [1, 3])
 (.cond (v 3) (.seq (.reg false [(q 2 (.mov (ci 0)))] [2])
 .ret) (.seq (.reg false [(q 8 (.faddr 0 (v 1))),
 (q 9 (.load none (v 8))),
 (q 7 (.mov (v 9)))] [7])
 (.cond (v 7) (.seq (.reg false [(q 2 (.mov (ci (-1))))] [2])
 .ret) .skip)))))
 (.seq (.reg false [(q 2 (.mov (ci 1)))] [2])
 .ret)))
def f20 : VFn := ⟨1, 10, f20_c, [.t 2], true, []⟩
/- caliper/nat.Power -/
def f21_l0 : VCode :=
 (.seq (.seq (.reg false [(q 32 (.mov (v 1))),
 (q 33 (.bin .gtr (v 32) (ci 0)))] [1, 9, 10, 11, 33])
 (.cond (v 33) .skip (.exit 1)))
 (.seq (.block 2 (.seq (.seq (.reg false [(q 36 (.mov (v 1))),
 (q 37 (.bin .and (v 36) (ci 1))),
 (q 38 (.bin .gtr (v 37) (ci 0)))] [1, 9, 10, 11, 38])
 (.cond (v 38) (.reg false [(q 39 (.mov (v 9))),
 (q 40 (.mov (v 10))),
 (q 41 (.mov (v 11))),
 (q 42 (.call (cf 40) [(v 40), (v 41)])),
 (q 43 (.call (v 39) [(v 42)])),
 (q 10 (.mov (v 43)))] [1, 9, 10, 11]) .skip))
 (.seq (.reg false [(q 44 (.mov (v 1))),
 (q 45 (.bin .gtr (v 44) (ci 1)))] [1, 9, 10, 11, 45])
 (.cond (v 45) (.reg false [(q 46 (.mov (v 9))),
 (q 47 (.mov (v 11))),
 (q 48 (.mov (v 11))),
 (q 49 (.call (cf 40) [(v 47), (v 48)])),
 (q 50 (.call (v 46) [(v 49)])),
 (q 11 (.mov (v 50)))] [1, 9, 10, 11]) .skip))))
 (.reg false [(q 34 (.mov (v 1))),
 (q 35 (.bin .shr (v 34) (.c (.int .u64 1)))),
 (q 1 (.mov (v 35)))] [1, 9, 10, 11])))
def f21_c : VCode :=
 (.seq (.reg false [(q 5 (.box false 1 (v 2))),
 (q 6 (.nilrow 1)),
 (q 7 (.mov (ci 0)))] [0, 1, 5])
 (.seq (.seq (.reg false [(q 12 (.mov (v 0))),
 (q 13 (.load none (v 5))),
 (q 14 (.call (cf 39) [(v 12), (v 13)])),
 (q 8 (.mov (v 14)))] [0, 1, 5, 8])
 (.seq (.reg false [(q 15 (.mov (v 8))),
 (q 16 (.bin .neq (v 15) (ci 0)))] [0, 1, 5, 8, 16])
 (.cond (v 16) (.seq (.reg false [(q 17 (.mov (v 8))),
 (q 6 (.nilrow 1)),
 (q 7 (.mov (v 17)))] [6, 7])
 .ret) .skip)))
 (.seq (.block 0 (.seq (.reg false [(q 19 (.load none (v 5))),
 (q 20 (.len (v 19))),
 (q 21 (.bin .eql (v 20) (ci 0))),
 (q 18 (.mov (v 21)))] [0, 1, 5, 18])
 (.cond (v 18) (.seq (.reg false [(q 6 (.nilrow 1)),
 (q 7 (.mov (ci 20)))] [6, 7])
 .ret) (.seq (.reg false [(q 23 (.mov (v 1))),
 (q 24 (.bin .lss (v 23) (ci 0))),
 (q 22 (.mov (v 24)))] [0, 1, 5, 22])
 (.cond (v 22) (.seq (.reg false [(q 6 (.nilrow 1)),
 (q 7 (.mov (ci 2)))] [6, 7])
 .ret) .skip)))))
 (.seq (.reg false [(q 25 (.mkfunc (.func 42) [] [(v 5)])),
 (q 9 (.mov (v 25)))] [0, 1, 9])
 (.seq (.reg false [(q 26 (.mov (v 9))),
 (q 27 (.buildRow false 1 1 [(.int .u32 0)] [(0, (.c (.int .u32 1)))])),
 (q 28 (.call (v 26) [(v 27)])),
 (q 29 (.mov (v 9))),
 (q 30 (.mov (v 0))),
 (q 31 (.call (v 29) [(v 30)])),
 (q 10 (.mov (v 28))),
 (q 11 (.mov (v 31)))] [1, 9, 10, 11])
 (.seq (.block 1 (.loop [1, 9, 10, 11] f21_l0))
 (.seq (.reg false [(q 51 (.mov (v 10))),
 (q 6 (.mov (v 51))),
 (q 7 (.mov (ci 0)))] [6, 7])
 .ret)))))))
def f21 : VFn := ⟨3, 52, f21_c, [.t 6, .t 7], true, []⟩
/- caliper/nat.Div -/
def f22_c : VCode :=
 (.seq (.reg false [(q 4 (.nilrow 1)),
 (q 5 (.nilrow 1)),
 (q 6 (.mov (ci 0)))] [0, 1])
 (.seq (.seq (.reg false [(q 10 (.mov (v 0))),
 (q 11 (.mov (v 1))),
 (q 12 (.call (cf 39) [(v 10), (v 11)])),
 (q 7 (.mov (v 12)))] [0, 1, 7])
 (.seq (.reg false [(q 13 (.mov (v 7))),
 (q 14 (.bin .neq (v 13) (ci 0)))] [0, 1, 7, 14])
 (.cond (v 14) (.seq (.reg false [(q 15 (.mov (v 7))),
 (q 4 (.nilrow 1)),
 (q 5 (.nilrow 1)),
 (q 6 (.mov (v 15)))] [4, 5, 6])
 .ret) .skip)))
 (.seq (.seq (.reg false [(q 16 (.mov (v 1))),
 (q 17 (.len (v 16))),
 (q 18 (.bin .eql (v 17) (ci 0)))] [0, 1, 18])
 (.cond (v 18) (.seq (.reg false [(q 4 (.nilrow 1)),
 (q 5 (.nilrow 1)),
 (q 6 (.mov (ci 20)))] [4, 5, 6])
 .ret) .skip))
 (.seq (.reg false [(q 20 (.mov (v 0))),
 (q 21 (.mov (v 1))),
 (q 22 (.call (cf 43) [(v 20), (v 21)])),
 (q 19 (.mov (v 22))),
 (q 23 (.extract (v 19) 0)),
 (q 24 (.extract (v 19) 1)),
 (q 8 (.mov (v 23))),
 (q 9 (.mov (v 24)))] [8, 9])
 (.seq (.reg false [(q 25 (.mov (v 8))),
 (q 26 (.mov (v 9))),
 (q 4 (.mov (v 25))),
 (q 5 (.mov (v 26))),
 (q 6 (.mov (ci 0)))] [4, 5, 6])
 .ret)))))
def f22 : VFn := ⟨2, 27, f22_c, [.t 4, .t 5, .t 6], true, []⟩
/- caliper/caliperref03.Check -/
def f23_l0 : VCode :=
 (.seq (.seq (.reg false [(q 17 (.mov (v 4))),
 (q 18 (.mov (v 3))),
 (q 19 (.bin .lss (v 17) (v 18)))] [1, 3, 4, 19])
 (.cond (v 19) .skip (.exit 0)))
 (.seq (.block 1 (.seq (.reg false [(q 22 (.faddr 1 (v 1))),
 (q 23 (.load none (v 22))),
 (q 24 (.mov (v 4))),
 (q 25 (.idxs (v 23) (v 24))),
 (q 26 (.call (cf 44) [(v 25)])),
 (q 27 (.un .not (v 26)))] [1, 3, 4, 27])
 (.cond (v 27) (.seq (.reg false [(q 2 (.mov (ci 2)))] [2])
 .ret) .skip)))
 (.reg false [(q 20 (.mov (v 4))),
 (q 21 (.bin .add (v 20) (ci 1))),
 (q 4 (.mov (v 21)))] [1, 3, 4])))
def f23_c : VCode :=
 (.seq (.reg false [(q 1 (.box true 3 (v 0))),
 (q 2 (.mov (ci 0)))] [1])
 (.seq (.reg false [(q 5 (.faddr 1 (v 1))),
 (q 6 (.load none (v 5))),
 (q 7 (.lens (v 6))),
 (q 3 (.mov (v 7)))] [1, 3])
 (.seq (.seq (.reg false [(q 8 (.mov (v 3))),
 (q 9 (.bin .eql (v 8) (ci 0)))] [1, 3, 9])
 (.cond (v 9) (.seq (.seq (.reg false [(q 10 (.faddr 0 (v 1))),
 (q 11 (.load none (v 10))),
 (q 12 (.mov (v 11))),
 ⟨(some 13), .faddr 2 (v 1), (some (12, false)), []⟩,
 ⟨(some 14), .load none (v 13), (some (12, false)), []⟩,
 ⟨(some 15), .bin .neq (v 14) (ci 0), (some (12, false)), []⟩,
 (q 16 (.pick (v 12) (.c (.bool true)) (v 15)))] [16])
 (.cond (v 16) (.seq (.reg false [(q 2 (.mov (ci 2)))] [2])
 .ret) .skip))
 (.seq (.reg false [(q 2 (.mov (ci 0)))] [2])
 .ret)) .skip))
 (.seq (.seq (.reg false [(q 4 (.mov (ci 0)))] [1, 3, 4])
 (.block 0 (.loop [1, 3, 4] f23_l0)))
 (.seq (.seq (.reg false [(q 28 (.mov (v 3))),
 (q 29 (.bin .gtr (v 28) (ci 65536))),
 (q 30 (.mov (v 29))),
 ⟨(some 31), .faddr 1 (v 1), (some (30, false)), []⟩,
 ⟨(some 32), .load none (v 31), (some (30, false)), []⟩,
 ⟨(some 33), .idxs (v 32) (ci 0), (some (30, false)), []⟩,
 ⟨(some 34), .bin .eql (v 33) (.c (.int .u8 48)), (some (30, false)), []⟩,
 (q 35 (.pick (v 30) (.c (.bool true)) (v 34))),
 (q 36 (.mov (v 35))),
 ⟨(some 37), .faddr 1 (v 1), (some (36, false)), []⟩,
 ⟨(some 38), .load none (v 37), (some (36, false)), []⟩,
 ⟨(some 39), .mov (v 3), (some (36, false)), []⟩,
 ⟨(some 40), .bin .sub (v 39) (ci 1), (some (36, false)), []⟩,
 ⟨(some 41), .idxs (v 38) (v 40), (some (36, false)), []⟩,
 ⟨(some 42), .bin .eql (v 41) (.c (.int .u8 48)), (some (36, false)), []⟩,
 (q 43 (.pick (v 36) (.c (.bool true)) (v 42))),
 (q 44 (.mov (v 43))),
 ⟨(some 45), .faddr 2 (v 1), (some (44, false)), []⟩,
 ⟨(some 46), .load none (v 45), (some (44, false)), []⟩,
 ⟨(some 47), .bin .lss (v 46) (ci (-1000000)), (some (44, false)), []⟩,
 (q 48 (.pick (v 44) (.c (.bool true)) (v 47))),
 (q 49 (.mov (v 48))),
 ⟨(some 50), .faddr 2 (v 1), (some (49, false)), []⟩,
 ⟨(some 51), .load none (v 50), (some (49, false)), []⟩,
 ⟨(some 52), .bin .gtr (v 51) (ci 1000000), (some (49, false)), []⟩,
 (q 53 (.pick (v 49) (.c (.bool true)) (v 52)))] [53])
 (.cond (v 53) (.seq (.reg false [(q 2 (.mov (ci 2)))] [2])
 .ret) .skip))
 (.seq (.reg false [(q 2 (.mov (ci 0)))] [2])
 .ret))))))
def f23 : VFn := ⟨1, 54, f23_c, [.t 2], true, []⟩
/- caliper/caliperref03.sign -/
def f24_c : VCode :=
 (.seq (.reg false [(q 1 (.box true 3 (v 0))),
 (q 2 (.mov (ci 0)))] [1])
 (.seq (.seq (.reg false [(q 3 (.faddr 1 (v 1))),
 (q 4 (.load none (v 3))),
 (q 5 (.bin .eql (v 4) (.c (.str ⟨#[]⟩))))] [1, 5])
 (.cond (v 5) (.seq (.reg false [(q 2 (.mov (ci 0)))] [2])
 .ret) .skip))
 (.seq (.seq (.reg false [(q 6 (.faddr 0 (v 1))),
 (q 7 (.load none (v 6)))] [7])
 (.cond (v 7) (.seq (.reg false [(q 2 (.mov (ci (-1))))] [2])
 .ret) .skip))
 (.seq (.reg false [(q 2 (.mov (ci 1)))] [2])
 .ret))))
def f24 : VFn := ⟨1, 8, f24_c, [.t 2], true, []⟩
/- caliper/caliperref02.Of -/
def f25_l0 : VCode :=
 (.seq (.seq (.reg false [(q 17 (.mov (v 4))),
 (q 18 (.mov (v 0))),
 (q 19 (.lens (v 18))),
 (q 20 (.bin .lss (v 17) (v 19)))] [0, 4, 20])
 (.cond (v 20) .skip (.exit 0)))
 (.seq (.block 1 (.seq (.reg false [(q 23 (.mov (v 0))),
 (q 24 (.mov (v 4))),
 (q 25 (.idxs (v 23) (v 24))),
 (q 26 (.bin .lss (v 25) (.c (.int .u8 48)))),
 (q 27 (.mov (v 26))),
 ⟨(some 28), .mov (v 0), (some (27, false)), []⟩,
 ⟨(some 29), .mov (v 4), (some (27, false)), []⟩,
 ⟨(some 30), .idxs (v 28) (v 29), (some (27, false)), []⟩,
 ⟨(some 31), .bin .gtr (v 30) (.c (.int .u8 57)), (some (27, false)), []⟩,
 (q 32 (.pick (v 27) (.c (.bool true)) (v 31)))] [0, 4, 32])
 (.cond (v 32) (.seq (.reg false [(q 2 (.nilrow 1)),
 (q 3 (.mov (ci 2)))] [2, 3])
 .ret) .skip)))
 (.reg false [(q 21 (.mov (v 4))),
 (q 22 (.bin .add (v 21) (ci 1))),
 (q 4 (.mov (v 22)))] [0, 4])))
def f25_l1 : VCode :=
 (.seq (.seq (.reg false [(q 42 (.mov (v 8))),
 (q 43 (.mov (v 6))),
 (q 44 (.bin .lss (v 42) (v 43)))] [0, 5, 6, 7, 8, 44])
 (.cond (v 44) .skip (.exit 4)))
 (.seq (.block 5 (.reg false [(q 47 (.mov (v 7))),
 (q 48 (.bin .mul (.c (.int .u32 10)) (v 47))),
 (q 49 (.mov (v 0))),
 (q 50 (.mov (v 8))),
 (q 51 (.idxs (v 49) (v 50))),
 (q 52 (.bin .sub (v 51) (.c (.int .u8 48)))),
 (q 53 (.conv (.toInt .u32) (v 52))),
 (q 54 (.bin .add (v 48) (v 53))),
 (q 7 (.mov (v 54)))] [0, 5, 6, 7, 8]))
 (.reg false [(q 45 (.mov (v 8))),
 (q 46 (.bin .add (v 45) (ci 1))),
 (q 8 (.mov (v 46)))] [0, 5, 6, 7, 8])))
def f25_l2 : VCode :=
 (.seq (.seq (.reg false [(q 35 (.mov (v 6))),
 (q 36 (.bin .gtr (v 35) (ci 0)))] [0, 5, 6, 36])
 (.cond (v 36) .skip (.exit 2)))
 (.seq (.block 3 (.seq (.reg false [(q 7 (.mov (.c (.int .u32 0))))] [0, 5, 6, 7])
 (.seq (.seq (.reg false [(q 39 (.mov (v 6))),
 (q 40 (.bin .sub (v 39) (ci 9))),
 (q 41 (.max [(ci 0), (v 40)])),
 (q 8 (.mov (v 41)))] [0, 5, 6, 7, 8])
 (.block 4 (.loop [0, 5, 6, 7, 8] f25_l1)))
 (.reg false [(q 55 (.mov (v 5))),
 (q 56 (.mov (v 7))),
 (q 57 (.buildRow false 1 1 [(.int .u32 0)] [(0, (v 56))])),
 (q 58 (.append 1 4 (v 55) (v 57))),
 (q 5 (.mov (v 58)))] [0, 5, 6]))))
 (.reg false [(q 37 (.mov (v 6))),
 (q 38 (.bin .sub (v 37) (ci 9))),
 (q 6 (.mov (v 38)))] [0, 5, 6])))
def f25_c : VCode :=
 (.seq (.reg false [(q 2 (.nilrow 1)),
 (q 3 (.mov (ci 0)))] [0])
 (.seq (.seq (.reg false [(q 9 (.mov (v 0))),
 (q 10 (.lens (v 9))),
 (q 11 (.bin .lss (v 10) (ci 1))),
 (q 12 (.mov (v 11))),
 ⟨(some 13), .mov (v 0), (some (12, false)), []⟩,
 ⟨(some 14), .lens (v 13), (some (12, false)), []⟩,
 ⟨(some 15), .bin .gtr (v 14) (ci 1048576), (some (12, false)), []⟩,
 (q 16 (.pick (v 12) (.c (.bool true)) (v 15)))] [0, 16])
 (.cond (v 16) (.seq (.reg false [(q 2 (.nilrow 1)),
 (q 3 (.mov (ci 2)))] [2, 3])
 .ret) .skip))
 (.seq (.seq (.reg false [(q 4 (.mov (ci 0)))] [0, 4])
 (.block 0 (.loop [0, 4] f25_l0)))
 (.seq (.reg false [(q 5 (.nilrow 1))] [0, 5])
 (.seq (.seq (.reg false [(q 33 (.mov (v 0))),
 (q 34 (.lens (v 33))),
 (q 6 (.mov (v 34)))] [0, 5, 6])
 (.block 2 (.loop [0, 5, 6] f25_l2)))
 (.seq (.reg false [(q 59 (.mov (v 5))),
 (q 60 (.call (cf 45) [(v 59)])),
 (q 2 (.mov (v 60))),
 (q 3 (.mov (ci 0)))] [2, 3])
 .ret))))))
def f25 : VFn := ⟨1, 61, f25_c, [.t 2, .t 3], true, []⟩
/- caliper/caliperref02.Power -/
def f26_l0 : VCode :=
 (.seq (.seq (.reg false [(q 37 (.mov (v 1))),
 (q 38 (.bin .gtr (v 37) (ci 0)))] [1, 2, 9, 11, 38])
 (.cond (v 38) .skip (.exit 0)))
 (.block 1 (.seq (.seq (.reg false [(q 39 (.mov (v 1))),
 (q 40 (.bin .rem (v 39) (ci 2))),
 (q 41 (.bin .eql (v 40) (ci 1)))] [1, 2, 9, 11, 41])
 (.cond (v 41) (.reg false [(q 43 (.mov (v 9))),
 (q 44 (.mov (v 11))),
 (q 45 (.call (cf 48) [(v 43), (v 44)])),
 (q 46 (.mov (v 2))),
 (q 47 (.call (cf 47) [(v 45), (v 46)])),
 (q 42 (.mov (v 47))),
 (q 48 (.extract (v 42) 0)),
 (q 49 (.extract (v 42) 1)),
 (q 9 (.mov (v 49)))] [1, 2, 9, 11]) .skip))
 (.seq (.reg false [(q 51 (.mov (v 11))),
 (q 52 (.mov (v 11))),
 (q 53 (.call (cf 48) [(v 51), (v 52)])),
 (q 54 (.mov (v 2))),
 (q 55 (.call (cf 47) [(v 53), (v 54)])),
 (q 50 (.mov (v 55))),
 (q 56 (.extract (v 50) 0)),
 (q 57 (.extract (v 50) 1)),
 (q 11 (.mov (v 57)))] [1, 2, 9, 11])
 (.reg false [(q 58 (.mov (v 1))),
 (q 59 (.bin .quo (v 58) (ci 2))),
 (q 1 (.mov (v 59)))] [1, 2, 9, 11])))))
def f26_c : VCode :=
 (.seq (.reg false [(q 6 (.nilrow 1)),
 (q 7 (.mov (ci 0)))] [0, 1, 2])
 (.seq (.seq (.reg false [(q 12 (.mov (v 0))),
 (q 13 (.call (cf 46) [(v 12)])),
 (q 14 (.bin .neq (v 13) (ci 0))),
 (q 15 (.mov (v 14))),
 ⟨(some 16), .mov (v 2), (some (15, false)), []⟩,
 ⟨(some 17), .call (cf 46) [(v 16)], (some (15, false)), []⟩,
 ⟨(some 18), .bin .neq (v 17) (ci 0), (some (15, false)), []⟩,
 (q 19 (.pick (v 15) (.c (.bool true)) (v 18)))] [0, 1, 2, 19])
 (.cond (v 19) (.seq (.reg false [(q 6 (.nilrow 1)),
 (q 7 (.mov (ci 2)))] [6, 7])
 .ret) .skip))
 (.seq (.seq (.reg false [(q 20 (.mov (v 2))),
 (q 21 (.len (v 20))),
 (q 22 (.bin .eql (v 21) (ci 0)))] [0, 1, 2, 22])
 (.cond (v 22) (.seq (.reg false [(q 6 (.nilrow 1)),
 (q 7 (.mov (ci 20)))] [6, 7])
 .ret) .skip))
 (.seq (.seq (.reg false [(q 23 (.mov (v 1))),
 (q 24 (.bin .lss (v 23) (ci 0)))] [0, 1, 2, 24])
 (.cond (v 24) (.seq (.reg false [(q 6 (.nilrow 1)),
 (q 7 (.mov (ci 2)))] [6, 7])
 .ret) .skip))
 (.seq (.reg false [(q 26 (.buildRow false 1 1 [(.int .u32 0)] [(0, (.c (.int .u32 1)))])),
 (q 27 (.mov (v 2))),
 (q 28 (.call (cf 47) [(v 26), (v 27)])),
 (q 25 (.mov (v 28))),
 (q 29 (.extract (v 25) 0)),
 (q 30 (.extract (v 25) 1)),
 (q 8 (.mov (v 29))),
 (q 9 (.mov (v 30)))] [0, 1, 2, 9])
 (.seq (.reg false [(q 32 (.mov (v 0))),
 (q 33 (.mov (v 2))),
 (q 34 (.call (cf 47) [(v 32), (v 33)])),
 (q 31 (.mov (v 34))),
 (q 35 (.extract (v 31) 0)),
 (q 36 (.extract (v 31) 1)),
 (q 10 (.mov (v 35))),
 (q 11 (.mov (v 36)))] [1, 2, 9, 11])
 (.seq (.block 0 (.loop [1, 2, 9, 11] f26_l0))
 (.seq (.reg false [(q 60 (.mov (v 9))),
 (q 6 (.mov (v 60))),
 (q 7 (.mov (ci 0)))] [6, 7])
 .ret))))))))
def f26 : VFn := ⟨3, 61, f26_c, [.t 6, .t 7], true, []⟩
/- caliper/caliperref02.Mul -/
def f27_c : VCode :=
 (.seq (.reg false [(q 4 (.nilrow 1)),
 (q 5 (.mov (ci 0)))] [0, 1])
 (.seq (.seq (.reg false [(q 6 (.mov (v 0))),
 (q 7 (.call (cf 46) [(v 6)])),
 (q 8 (.bin .neq (v 7) (ci 0))),
 (q 9 (.mov (v 8))),
 ⟨(some 10), .mov (v 1), (some (9, false)), []⟩,
 ⟨(some 11), .call (cf 46) [(v 10)], (some (9, false)), []⟩,
 ⟨(some 12), .bin .neq (v 11) (ci 0), (some (9, false)), []⟩,
 (q 13 (.pick (v 9) (.c (.bool true)) (v 12)))] [0, 1, 13])
 (.cond (v 13) (.seq (.reg false [(q 4 (.nilrow 1)),
 (q 5 (.mov (ci 2)))] [4, 5])
 .ret) .skip))
 (.seq (.reg false [(q 14 (.mov (v 0))),
 (q 15 (.mov (v 1))),
 (q 16 (.call (cf 48) [(v 14), (v 15)])),
 (q 4 (.mov (v 16))),
 (q 5 (.mov (ci 0)))] [4, 5])
 .ret)))
def f27 : VFn := ⟨2, 17, f27_c, [.t 4, .t 5], true, []⟩
/- caliper/caliperref02.Div -/
def f28_c : VCode :=
 (.seq (.reg false [(q 4 (.nilrow 1)),
 (q 5 (.nilrow 1)),
 (q 6 (.mov (ci 0)))] [0, 1])
 (.seq (.seq (.reg false [(q 9 (.mov (v 0))),
 (q 10 (.call (cf 46) [(v 9)])),
 (q 11 (.bin .neq (v 10) (ci 0))),
 (q 12 (.mov (v 11))),
 ⟨(some 13), .mov (v 1), (some (12, false)), []⟩,
 ⟨(some 14), .call (cf 46) [(v 13)], (some (12, false)), []⟩,
 ⟨(some 15), .bin .neq (v 14) (ci 0), (some (12, false)), []⟩,
 (q 16 (.pick (v 12) (.c (.bool true)) (v 15)))] [0, 1, 16])
 (.cond (v 16) (.seq (.reg false [(q 4 (.nilrow 1)),
 (q 5 (.nilrow 1)),
 (q 6 (.mov (ci 2)))] [4, 5, 6])
 .ret) .skip))
 (.seq (.seq (.reg false [(q 17 (.mov (v 1))),
 (q 18 (.len (v 17))),
 (q 19 (.bin .eql (v 18) (ci 0)))] [0, 1, 19])
 (.cond (v 19) (.seq (.reg false [(q 4 (.nilrow 1)),
 (q 5 (.nilrow 1)),
 (q 6 (.mov (ci 20)))] [4, 5, 6])
 .ret) .skip))
 (.seq (.reg false [(q 21 (.mov (v 0))),
 (q 22 (.mov (v 1))),
 (q 23 (.call (cf 47) [(v 21), (v 22)])),
 (q 20 (.mov (v 23))),
 (q 24 (.extract (v 20) 0)),
 (q 25 (.extract (v 20) 1)),
 (q 7 (.mov (v 24))),
 (q 8 (.mov (v 25)))] [7, 8])
 (.seq (.reg false [(q 26 (.mov (v 7))),
 (q 27 (.mov (v 8))),
 (q 4 (.mov (v 26))),
 (q 5 (.mov (v 27))),
 (q 6 (.mov (ci 0)))] [4, 5, 6])
 .ret)))))
def f28 : VFn := ⟨2, 28, f28_c, [.t 4, .t 5, .t 6], true, []⟩
/- cmp.Compare[int] -/
def f29_c : VCode :=
 (.seq (.reg false [(q 4 (.mov (ci 0)))] [0, 1])
 (.seq (.reg false [(q 7 (.mov (v 0))),
 (q 8 (.call (cf 49) [(v 7)])),
 (q 5 (.mov (v 8)))] [0, 1, 5])
 (.seq (.reg false [(q 9 (.mov (v 1))),
 (q 10 (.call (cf 49) [(v 9)])),
 (q 6 (.mov (v 10)))] [0, 1, 5, 6])
 (.seq (.seq (.reg false [(q 11 (.mov (v 5)))] [0, 1, 6, 11])
 (.cond (v 11) (.seq (.seq (.reg false [(q 12 (.mov (v 6)))] [12])
 (.cond (v 12) (.seq (.reg false [(q 4 (.mov (ci 0)))] [4])
 .ret) .skip))
 (.seq (.reg false [(q 4 (.mov (ci (-1))))] [4])
 .ret)) .skip))
 (.seq (.seq (.reg false [(q 13 (.mov (v 6)))] [0, 1, 13])
 (.cond (v 13) (.seq (.reg false [(q 4 (.mov (ci 1)))] [4])
 .ret) .skip))
 (.seq (.seq (.reg false [(q 14 (.mov (v 0))),
 (q 15 (.mov (v 1))),
 (q 16 (.bin .lss (v 14) (v 15)))] [0, 1, 16])
 (.cond (v 16) (.seq (.reg false [(q 4 (.mov (ci (-1))))] [4])
 .ret) .skip))
 (.seq (.seq (.reg false [(q 17 (.mov (v 0))),
 (q 18 (.mov (v 1))),
 (q 19 (.bin .gtr (v 17) (v 18)))] [19])
 (.cond (v 19) (.seq (.reg false [(q 4 (.mov (ci 1)))] [4])
 .ret) .skip))
 (.seq (.reg false [(q 4 (.mov (ci 0)))] [4])
 .ret))))))))
def f29 : VFn := ⟨2, 20, f29_c, [.t 4], true, []⟩
/- cmp.Or[int] -/
def f30_l0 : VCode :=
 (.seq (.reg false [(q 9 (.bin .lss (v 8) (v 7)))] [3, 6, 7, 8, 9])
 (.seq (.cond (v 9) .skip (.exit 0))
 (.seq (.block 1 (.seq (.reg false [(q 10 (.iaddr 1 (v 6) (v 8))),
 (q 11 (.load none (v 10))),
 (q 5 (.mov (v 11)))] [3, 5, 6, 7, 8])
 (.seq (.reg false [(q 12 (.mov (v 5))),
 (q 13 (.mov (v 3))),
 (q 14 (.bin .neq (v 12) (v 13)))] [3, 5, 6, 7, 8, 14])
 (.cond (v 14) (.seq (.reg false [(q 15 (.mov (v 5))),
 (q 2 (.mov (v 15)))] [2])
 .ret) .skip))))
 (.reg false [(q 16 (.bin .add (v 8) (ci 1))),
 (q 8 (.mov (v 16)))] [3, 6, 7, 8]))))
def f30_c : VCode :=
 (.seq (.reg false [(q 2 (.mov (ci 0)))] [0])
 (.seq (.reg false [(q 3 (.mov (ci 0)))] [0, 3])
 (.seq (.seq (.reg false [(q 6 (.mov (v 0))),
 (q 7 (.len (v 6))),
 (q 8 (.mov (ci 0)))] [3, 6, 7, 8])
 (.block 0 (.loop [3, 6, 7, 8] f30_l0)))
 (.seq (.reg false [(q 17 (.mov (v 3))),
 (q 2 (.mov (v 17)))] [2])
 .ret))))
def f30 : VFn := ⟨1, 18, f30_c, [.t 2], true, []⟩
/- cmp.Compare[string] -/
def f31_c : VCode :=
 (.seq (.reg false [(q 4 (.mov (ci 0)))] [0, 1])
 (.seq (.reg false [(q 7 (.mov (v 0))),
 (q 8 (.call (cf 50) [(v 7)])),
 (q 5 (.mov (v 8)))] [0, 1, 5])
 (.seq (.reg false [(q 9 (.mov (v 1))),
 (q 10 (.call (cf 50) [(v 9)])),
 (q 6 (.mov (v 10)))] [0, 1, 5, 6])
 (.seq (.seq (.reg false [(q 11 (.mov (v 5)))] [0, 1, 6, 11])
 (.cond (v 11) (.seq (.seq (.reg false [(q 12 (.mov (v 6)))] [12])
 (.cond (v 12) (.seq (.reg false [(q 4 (.mov (ci 0)))] [4])
 .ret) .skip))
 (.seq (.reg false [(q 4 (.mov (ci (-1))))] [4])
 .ret)) .skip))
 (.seq (.seq (.reg false [(q 13 (.mov (v 6)))] [0, 1, 13])
 (.cond (v 13) (.seq (.reg false [(q 4 (.mov (ci 1)))] [4])
 .ret) .skip))
 (.seq (.seq (.reg false [(q 14 (.mov (v 0))),
 (q 15 (.mov (v 1))),
 (q 16 (.bin .lss (v 14) (v 15)))] [0, 1, 16])
 (.cond (v 16) (.seq (.reg false [(q 4 (.mov (ci (-1))))] [4])
 .ret) .skip))
 (.seq (.seq (.reg false [(q 17 (.mov (v 0))),
 (q 18 (.mov (v 1))),
 (q 19 (.bin .gtr (v 17) (v 18)))] [19])
 (.cond (v 19) (.seq (.reg false [(q 4 (.mov (ci 1)))] [4])
 .ret) .skip))
 (.seq (.reg false [(q 4 (.mov (ci 0)))] [4])
 .ret))))))))
def f31 : VFn := ⟨2, 20, f31_c, [.t 4], true, []⟩
/- caliper/caliperref03.size -/
def f32_l0 : VCode :=
 (.seq (.seq (.reg false [(q 28 (.mov (v 7))),
 (q 29 (.faddr 1 (v 2))),
 (q 30 (.load none (v 29))),
 (q 31 (.lens (v 30))),
 (q 32 (.bin .lss (v 28) (v 31))),
 (q 33 (.mov (v 32))),
 ⟨(some 34), .mov (v 7), (some (33, false)), []⟩,
 ⟨(some 35), .faddr 1 (v 3), (some (33, false)), []⟩,
 ⟨(some 36), .load none (v 35), (some (33, false)), []⟩,
 ⟨(some 37), .lens (v 36), (some (33, false)), []⟩,
 ⟨(some 38), .bin .lss (v 34) (v 37), (some (33, false)), []⟩,
 (q 39 (.pick (v 33) (.c (.bool true)) (v 38)))] [2, 3, 7, 39])
 (.cond (v 39) .skip (.exit 0)))
 (.seq (.block 1 (.seq (.reg false [(q 8 (.mov (.c (.int .u8 48)))),
 (q 9 (.mov (.c (.int .u8 48))))] [2, 3, 7, 8, 9])
 (.seq (.seq (.reg false [(q 42 (.mov (v 7))),
 (q 43 (.faddr 1 (v 2))),
 (q 44 (.load none (v 43))),
 (q 45 (.lens (v 44))),
 (q 46 (.bin .lss (v 42) (v 45)))] [2, 3, 7, 8, 9, 46])
 (.cond (v 46) (.reg false [(q 47 (.faddr 1 (v 2))),
 (q 48 (.load none (v 47))),
 (q 49 (.mov (v 7))),
 (q 50 (.idxs (v 48) (v 49))),
 (q 8 (.mov (v 50)))] [2, 3, 7, 8, 9]) .skip))
 (.seq (.seq (.reg false [(q 51 (.mov (v 7))),
 (q 52 (.faddr 1 (v 3))),
 (q 53 (.load none (v 52))),
 (q 54 (.lens (v 53))),
 (q 55 (.bin .lss (v 51) (v 54)))] [2, 3, 7, 8, 9, 55])
 (.cond (v 55) (.reg false [(q 56 (.faddr 1 (v 3))),
 (q 57 (.load none (v 56))),
 (q 58 (.mov (v 7))),
 (q 59 (.idxs (v 57) (v 58))),
 (q 9 (.mov (v 59)))] [2, 3, 7, 8, 9]) .skip))
 (.seq (.reg false [(q 60 (.mov (v 8))),
 (q 61 (.mov (v 9))),
 (q 62 (.bin .neq (v 60) (v 61)))] [2, 3, 7, 8, 9, 62])
 (.cond (v 62) (.seq (.seq (.reg false [(q 63 (.mov (v 8))),
 (q 64 (.mov (v 9))),
 (q 65 (.bin .lss (v 63) (v 64)))] [65])
 (.cond (v 65) (.seq (.reg false [(q 4 (.mov (ci (-1))))] [4])
 .ret) .skip))
 (.seq (.reg false [(q 4 (.mov (ci 1)))] [4])
 .ret)) .skip))))))
 (.reg false [(q 40 (.mov (v 7))),
 (q 41 (.bin .add (v 40) (ci 1))),
 (q 7 (.mov (v 41)))] [2, 3, 7])))
def f32_c : VCode :=
 (.seq (.reg false [(q 2 (.box true 3 (v 0))),
 (q 3 (.box true 3 (v 1))),
 (q 4 (.mov (ci 0)))] [2, 3])
 (.seq (.reg true [(q 10 (.faddr 1 (v 2))),
 (q 11 (.load none (v 10))),
 (q 12 (.lens (v 11))),
 (q 13 (.faddr 2 (v 2))),
 (q 14 (.load none (v 13))),
 (q 15 (.bin .add (v 12) (v 14))),
 (q 16 (.faddr 1 (v 3))),
 (q 17 (.load none (v 16))),
 (q 18 (.lens (v 17))),
 (q 19 (.faddr 2 (v 3))),
 (q 20 (.load none (v 19))),
 (q 21 (.bin .add (v 18) (v 20))),
 (q 5 (.mov (v 15))),
 (q 6 (.mov (v 21)))] [2, 3, 5, 6])
 (.seq (.seq (.reg false [(q 22 (.mov (v 5))),
 (q 23 (.mov (v 6))),
 (q 24 (.bin .neq (v 22) (v 23)))] [2, 3, 5, 6, 24])
 (.cond (v 24) (.seq (.seq (.reg false [(q 25 (.mov (v 5))),
 (q 26 (.mov (v 6))),
 (q 27 (.bin .lss (v 25) (v 26)))] [27])
 (.cond (v 27) (.seq (.reg false [(q 4 (.mov (ci (-1))))] [4])
 .ret) .skip))
 (.seq (.reg false [(q 4 (.mov (ci 1)))] [4])
 .ret)) .skip))
 (.seq (.seq (.reg false [(q 7 (.mov (ci 0)))] [2, 3, 7])
 (.block 0 (.loop [2, 3, 7] f32_l0)))
 (.seq (.reg false [(q 4 (.mov (ci 0)))] [4])
 .ret)))))
def f32 : VFn := ⟨2, 66, f32_c, [.t 4], true, []⟩
/- strings.Trim -/
def f33_c : VCode :=
 (.seq (.reg false [(q 4 (.mov (.c (.str ⟨#[]⟩))))] [0, 1])
 (.seq (.seq (.reg false [(q 7 (.mov (v 0))),
 (q 8 (.bin .eql (v 7) (.c (.str ⟨#[]⟩)))),
 (q 9 (.mov (v 8))),
 ⟨(some 10), .mov (v 1), (some (9, false)), []⟩,
 ⟨(some 11), .bin .eql (v 10) (.c (.str ⟨#[]⟩)), (some (9, false)), []⟩,
 (q 12 (.pick (v 9) (.c (.bool true)) (v 11)))] [0, 1, 12])
 (.cond (v 12) (.seq (.reg false [(q 13 (.mov (v 0))),
 (q 4 (.mov (v 13)))] [4])
 .ret) .skip))
 (.seq (.seq (.reg false [(q 14 (.mov (v 1))),
 (q 15 (.lens (v 14))),
 (q 16 (.bin .eql (v 15) (ci 1))),
 (q 17 (.mov (v 16))),
 ⟨(some 18), .mov (v 1), (some (17, true)), []⟩,
 ⟨(some 19), .idxs (v 18) (ci 0), (some (17, true)), []⟩,
 ⟨(some 20), .bin .lss (v 19) (.c (.int .u8 128)), (some (17, true)), []⟩,
 (q 21 (.pick (v 17) (v 20) (.c (.bool false))))] [0, 1, 21])
 (.cond (v 21) (.seq (.reg true [(q 22 (.mov (v 0))),
 (q 23 (.mov (v 1))),
 (q 24 (.idxs (v 23) (ci 0))),
 (q 25 (.call (cf 52) [(v 22), (v 24)])),
 (q 26 (.mov (v 1))),
 (q 27 (.idxs (v 26) (ci 0))),
 (q 28 (.call (cf 51) [(v 25), (v 27)])),
 (q 4 (.mov (v 28)))] [4])
 .ret) .skip))
 (.seq (.seq (.reg false [(q 30 (.mov (v 1))),
 (q 31 (.call (cf 53) [(v 30)])),
 (q 29 (.mov (v 31))),
 (q 32 (.extract (v 29) 0)),
 (q 33 (.extract (v 29) 1)),
 (q 5 (.alloc true [(.bool false), (.bool false), (.bool false), (.bool false), (.bool false), (.bool false), (.bool false), (.bool false), (.bool false), (.bool false), (.bool false), (.bool false), (.bool false), (.bool false), (.bool false), (.bool false), (.bool false), (.bool false), (.bool false), (.bool false), (.bool false), (.bool false), (.bool false), (.bool false), (.bool false), (.bool false), (.bool false), (.bool false), (.bool false), (.bool false), (.bool false), (.bool false), (.bool false), (.bool false), (.bool false), (.bool false), (.bool false), (.bool false), (.bool false), (.bool false), (.bool false), (.bool false), (.bool false), (.bool false), (.bool false), (.bool false), (.bool false), (.bool false), (.bool false), (.bool false), (.bool false), (.bool false), (.bool false), (.bool false), (.bool false), (.bool false), (.bool false), (.bool false), (.bool false), (.bool false), (.bool false), (.bool false), (.bool false), (.bool false), (.bool false), (.bool false), (.bool false), (.bool false), (.bool false), (.bool false), (.bool false), (.bool false), (.bool false), (.bool false), (.bool false), (.bool false), (.bool false), (.bool false), (.bool false), (.bool false), (.bool false), (.bool false), (.bool false), (.bool false), (.bool false), (.bool false), (.bool false), (.bool false), (.bool false), (.bool false), (.bool false), (.bool false), (.bool false), (.bool false), (.bool false), (.bool false), (.bool false), (.bool false), (.bool false), (.bool false), (.bool false), (.bool false), (.bool false), (.bool false), (.bool false), (.bool false), (.bool false), (.bool false), (.bool false), (.bool false), (.bool false), (.bool false), (.bool false), (.bool false), (.bool false), (.bool false), (.bool false), (.bool false), (.bool false), (.bool false), (.bool false), (.bool false), (.bool false), (.bool false), (.bool false), (.bool false), (.bool false), (.bool false), (.bool false), (.bool false), (.bool false), (.bool false), (.bool false), (.bool false), (.bool false), (.bool false), (.bool false), (.bool false), (.bool false), (.bool false), (.bool false), (.bool false), (.bool false), (.bool false), (.bool false), (.bool false), (.bool false), (.bool false), (.bool false), (.bool false), (.bool false), (.bool false), (.bool false), (.bool false), (.bool false), (.bool false), (.bool false), (.bool false), (.bool false), (.bool false), (.bool false), (.bool false), (.bool false), (.bool false), (.bool false), (.bool false), (.bool false), (.bool false), (.bool false), (.bool false), (.bool false), (.bool false), (.bool false), (.bool false), (.bool false), (.bool false), (.bool false), (.bool false), (.bool false), (.bool false), (.bool false), (.bool false), (.bool false), (.bool false), (.bool false), (.bool false), (.bool false), (.bool false), (.bool false), (.bool false), (.bool false), (.bool false), (.bool false), (.bool false), (.bool false), (.bool false), (.bool false), (.bool false), (.bool false), (.bool false), (.bool false), (.bool false), (.bool false), (.bool false), (.bool false), (.bool false), (.bool false), (.bool false), (.bool false), (.bool false), (.bool false), (.bool false), (.bool false), (.bool false), (.bool false), (.bool false), (.bool false), (.bool false), (.bool false), (.bool false), (.bool false), (.bool false), (.bool false), (.bool false), (.bool false), (.bool false), (.bool false), (.bool false), (.bool false), (.bool false), (.bool false), (.bool false), (.bool false), (.bool false), (.bool false), (.bool false), (.bool false), (.bool false), (.bool false), (.bool false), (.bool false), (.bool false), (.bool false), (.bool false), (.bool false), (.bool false), (.bool false), (.bool false), (.bool false), (.bool false), (.bool false), (.bool false), (.bool false), (.bool false), (.bool false), (.bool false)])),
 ⟨none, .store true 256 (v 5) (v 32), none, []⟩,
 (q 6 (.mov (v 33)))] [0, 1, 5, 6])
 (.seq (.reg false [(q 34 (.mov (v 6)))] [0, 1, 5, 34])
 (.cond (v 34) (.seq (.reg false [(q 35 (.mov (v 0))),
 (q 36 (.call (cf 55) [(v 35), (v 5)])),
 (q 37 (.call (cf 54) [(v 36), (v 5)])),
 (q 4 (.mov (v 37)))] [4])
 .ret) .skip)))
 (.seq (.reg false [(q 38 (.mov (v 0))),
 (q 39 (.mov (v 1))),
 (q 40 (.call (cf 57) [(v 38), (v 39)])),
 (q 41 (.mov (v 1))),
 (q 42 (.call (cf 56) [(v 40), (v 41)])),
 (q 4 (.mov (v 42)))] [4])
 .ret)))))
def f33 : VFn := ⟨2, 43, f33_c, [.t 4], true, []⟩
/- strconv.Itoa -/
def f34_c : VCode :=
 (.seq (.reg false [(q 2 (.mov (.c (.str ⟨#[]⟩))))] [0])
 (.seq (.reg false [(q 3 (.mov (v 0))),
 (q 4 (.call (cf 58) [(v 3)])),
 (q 2 (.mov (v 4)))] [2])
 .ret))
def f34 : VFn := ⟨1, 5, f34_c, [.t 2], true, []⟩
/- caliper/dec.parsed -/
def f35_c : VCode :=
 (.seq (.reg false [(q 2 (.alloc true [(.bool false), (.str ⟨#[]⟩), (.int .i64 0)])),
 (q 3 (.mov (ci 0))),
 (q 4 (.mov (.c .nili)))] [0, 2])
 (.seq (.reg false [(q 15 (.mov (v 0))),
 (q 16 (.call (cf 59) [(v 15), (.c (.str ⟨#[45]⟩))])),
 (q 14 (.mov (v 16))),
 (q 17 (.extract (v 14) 0)),
 (q 18 (.extract (v 14) 1)),
 (q 0 (.mov (v 17))),
 (q 5 (.mov (v 18)))] [0, 2, 5])
 (.seq (.reg false [(q 20 (.mov (v 0))),
 (q 21 (.call (cf 60) [(v 20)])),
 (q 19 (.mov (v 21))),
 (q 22 (.extract (v 19) 0)),
 (q 23 (.extract (v 19) 1)),
 (q 24 (.extract (v 19) 2)),
 (q 6 (.mov (v 22))),
 (q 7 (.mov (v 23))),
 (q 8 (.mov (v 24)))] [2, 5, 6, 7, 8])
 (.seq (.seq (.reg false [(q 25 (.mov (v 8))),
 (q 26 (.isnil .iface true (v 25))),
 (q 27 (.mov (v 26))),
 ⟨(some 28), .mov (v 6), (some (27, false)), []⟩,
 ⟨(some 29), .lens (v 28), (some (27, false)), []⟩,
 ⟨(some 30), .bin .gtr (v 29) (ci 1), (some (27, false)), []⟩,
 ⟨(some 31), .mov (v 30), (some (27, false)), []⟩,
 ⟨(some 32), .mov (v 6), (some (31, true)), []⟩,
 ⟨(some 33), .idxs (v 32) (ci 0), (some (31, true)), []⟩,
 ⟨(some 34), .bin .eql (v 33) (.c (.int .u8 48)), (some (31, true)), []⟩,
 ⟨(some 35), .pick (v 31) (v 34) (.c (.bool false)), (some (27, false)), []⟩,
 (q 36 (.pick (v 27) (.c (.bool true)) (v 35)))] [2, 5, 6, 7, 36])
 (.cond (v 36) (.seq (.reg false [(q 37 (.build [(.bool false), (.str ⟨#[]⟩), (.int .i64 0)] [])),
 (q 38 (.build [(.int .i64 0)] [(0, 1, (ci 30))])),
 (q 39 (.box true 1 (v 38))),
 (q 40 (.mkiface 95 (v 39))),
 ⟨none, .store true 3 (v 2) (v 37), none, []⟩,
 (q 3 (.mov (ci 0))),
 (q 4 (.mov (v 40)))] [2, 3, 4])
 .ret) .skip))
 (.seq (.reg false [(q 9 (.mov (.c (.str ⟨#[]⟩))))] [2, 5, 6, 7, 9])
 (.seq (.seq (.reg false [(q 41 (.mov (v 7))),
 (q 42 (.call (cf 61) [(v 41), (.c (.str ⟨#[46]⟩))]))] [2, 5, 6, 7, 9, 42])
 (.cond (v 42) (.seq (.reg false [(q 44 (.mov (v 7))),
 (q 45 (.slstr (v 44) (some (ci 1)) none)),
 (q 46 (.call (cf 60) [(v 45)])),
 (q 43 (.mov (v 46))),
 (q 47 (.extract (v 43) 0)),
 (q 48 (.extract (v 43) 1)),
 (q 49 (.extract (v 43) 2)),
 (q 9 (.mov (v 47))),
 (q 7 (.mov (v 48))),
 (q 8 (.mov (v 49)))] [2, 5, 6, 7, 8, 9])
 (.seq (.reg false [(q 50 (.mov (v 8))),
 (q 51 (.isnil .iface true (v 50)))] [2, 5, 6, 7, 8, 9, 51])
 (.cond (v 51) (.seq (.reg false [(q 52 (.build [(.bool false), (.str ⟨#[]⟩), (.int .i64 0)] [])),
 (q 53 (.mov (v 8))),
 ⟨none, .store true 3 (v 2) (v 52), none, []⟩,
 (q 3 (.mov (ci 0))),
 (q 4 (.mov (v 53)))] [2, 3, 4])
 .ret) .skip))) .skip))
 (.seq (.reg false [(q 55 (.mov (v 7))),
 (q 56 (.call (cf 62) [(v 55)])),
 (q 54 (.mov (v 56))),
 (q 57 (.extract (v 54) 0)),
 (q 58 (.extract (v 54) 1)),
 (q 10 (.mov (v 57))),
 (q 8 (.mov (v 58)))] [2, 5, 6, 8, 9, 10])
 (.seq (.seq (.reg false [(q 59 (.mov (v 8))),
 (q 60 (.isnil .iface true (v 59)))] [2, 5, 6, 8, 9, 10, 60])
 (.cond (v 60) (.seq (.reg false [(q 61 (.build [(.bool false), (.str ⟨#[]⟩), (.int .i64 0)] [])),
 (q 62 (.mov (v 8))),
 ⟨none, .store true 3 (v 2) (v 61), none, []⟩,
 (q 3 (.mov (ci 0))),
 (q 4 (.mov (v 62)))] [2, 3, 4])
 .ret) .skip))
 (.seq (.reg false [(q 63 (.mov (v 6))),
 (q 64 (.mov (v 9))),
 (q 65 (.bin .add (v 63) (v 64))),
 (q 11 (.mov (v 65)))] [2, 5, 9, 10, 11])
 (.seq (.reg false [(q 66 (.mov (v 11))),
 (q 67 (.call (cf 63) [(v 66), (.c (.str ⟨#[48]⟩))])),
 (q 12 (.mov (v 67)))] [2, 5, 9, 10, 11, 12])
 (.seq (.reg false [(q 68 (.mov (v 5))),
 (q 69 (.mov (v 12))),
 (q 70 (.call (cf 41) [(v 69), (.c (.str ⟨#[48]⟩))])),
 (q 71 (.mov (v 10))),
 (q 72 (.mov (v 9))),
 (q 73 (.lens (v 72))),
 (q 74 (.bin .sub (v 71) (v 73))),
 (q 75 (.mov (v 11))),
 (q 76 (.lens (v 75))),
 (q 77 (.bin .add (v 74) (v 76))),
 (q 78 (.mov (v 12))),
 (q 79 (.lens (v 78))),
 (q 80 (.bin .sub (v 77) (v 79))),
 (q 81 (.build [(.bool false), (.str ⟨#[]⟩), (.int .i64 0)] [(0, 1, (v 68)), (1, 1, (v 70)), (2, 1, (v 80))])),
 (q 13 (.alloc true [(.bool false), (.str ⟨#[]⟩), (.int .i64 0)])),
 ⟨none, .store true 3 (v 13) (v 81), none, []⟩] [2, 11, 13])
 (.seq (.seq (.reg false [(q 82 (.faddr 1 (v 13))),
 (q 83 (.load none (v 82))),
 (q 84 (.bin .eql (v 83) (.c (.str ⟨#[]⟩))))] [2, 11, 13, 84])
 (.cond (v 84) (.reg false [(q 85 (.build [(.bool false), (.str ⟨#[]⟩), (.int .i64 0)] [])),
 ⟨none, .store true 3 (v 13) (v 85), none, []⟩] [2, 11, 13]) .skip))
 (.seq (.reg false [(q 86 (.load (some 3) (v 13))),
 (q 87 (.mov (v 11))),
 (q 88 (.lens (v 87))),
 ⟨none, .store true 3 (v 2) (v 86), none, []⟩,
 (q 3 (.mov (v 88))),
 (q 4 (.mov (.c .nili)))] [2, 3, 4])
 .ret)))))))))))))
def f35 : VFn := ⟨1, 89, f35_c, [.c 2 (some 3), .t 3, .t 4], true, []⟩
/- caliper/dec.number -/
def f36_c : VCode :=
 (.seq (.reg false [(q 2 (.mov (ci 0)))] [0])
 (.seq (.reg false [(q 3 (.alloc false [.nilp]))] [0, 3])
 (.seq (.seq (.reg false [(q 4 (.mov (v 0))),
 (q 5 (.mkiface 102 (v 3))),
 (q 6 (.call (cf 64) [(v 4), (v 5)]))] [3, 6])
 (.cond (v 6) (.seq (.reg false [(q 7 (.load none (v 3))),
 (q 8 (.nilck (v 7))),
 (q 9 (.faddr 0 (v 8))),
 (q 10 (.load none (v 9))),
 (q 2 (.mov (v 10)))] [2])
 .ret) .skip))
 (.seq (.reg false [(q 2 (.mov (ci 0)))] [2])
 .ret))))
def f36 : VFn := ⟨1, 11, f36_c, [.t 2], true, []⟩
/- caliper/nat.fits -/
def f37_c : VCode :=
 (.seq (.reg false [(q 2 (.mov (.c (.bool false))))] [0])
 (.seq (.reg false [(q 3 (.mov (v 0))),
 (q 4 (.len (v 3))),
 (q 5 (.bin .eql (v 4) (ci 0))),
 (q 6 (.mov (v 5))),
 ⟨(some 7), .mov (v 0), (some (6, false)), []⟩,
 ⟨(some 8), .mov (v 0), (some (6, false)), []⟩,
 ⟨(some 9), .len (v 8), (some (6, false)), []⟩,
 ⟨(some 10), .bin .sub (v 9) (ci 1), (some (6, false)), []⟩,
 ⟨(some 11), .iaddr 1 (v 7) (v 10), (some (6, false)), []⟩,
 ⟨(some 12), .load none (v 11), (some (6, false)), []⟩,
 ⟨(some 13), .bin .neq (v 12) (.c (.int .u32 0)), (some (6, false)), []⟩,
 ⟨(some 14), .mov (v 13), (some (6, false)), []⟩,
 ⟨(some 15), .mov (v 0), (some (14, true)), []⟩,
 ⟨(some 16), .call (cf 65) [(v 15)], (some (14, true)), []⟩,
 ⟨(some 17), .bin .lss (v 16) (.c (.int .u32 1000000000)), (some (14, true)), []⟩,
 ⟨(some 18), .pick (v 14) (v 17) (.c (.bool false)), (some (6, false)), []⟩,
 (q 19 (.pick (v 6) (.c (.bool true)) (v 18))),
 (q 2 (.mov (v 19)))] [2])
 .ret))
def f37 : VFn := ⟨1, 20, f37_c, [.t 2], true, []⟩
/- caliper/nat.trim -/
def f38_l0 : VCode :=
 (.seq (.seq (.reg false [(q 6 (.mov (v 3))),
 (q 7 (.bin .gtr (v 6) (ci 0))),
 (q 8 (.mov (v 7))),
 ⟨(some 9), .mov (v 0), (some (8, true)), []⟩,
 ⟨(some 10), .mov (v 3), (some (8, true)), []⟩,
 ⟨(some 11), .bin .sub (v 10) (ci 1), (some (8, true)), []⟩,
 ⟨(some 12), .iaddr 1 (v 9) (v 11), (some (8, true)), []⟩,
 ⟨(some 13), .load none (v 12), (some (8, true)), []⟩,
 ⟨(some 14), .bin .eql (v 13) (.c (.int .u32 0)), (some (8, true)), []⟩,
 (q 15 (.pick (v 8) (v 14) (.c (.bool false))))] [0, 3, 15])
 (.cond (v 15) .skip (.exit 0)))
 (.block 1 (.reg false [(q 16 (.mov (v 3))),
 (q 17 (.bin .sub (v 16) (ci 1))),
 (q 3 (.mov (v 17)))] [0, 3])))
def f38_c : VCode :=
 (.seq (.reg false [(q 2 (.nilrow 1))] [0])
 (.seq (.reg false [(q 4 (.mov (v 0))),
 (q 5 (.len (v 4))),
 (q 3 (.mov (v 5)))] [0, 3])
 (.seq (.block 0 (.loop [0, 3] f38_l0))
 (.seq (.reg false [(q 18 (.mov (v 0))),
 (q 19 (.mov (v 3))),
 (q 20 (.mov (v 3))),
 (q 21 (.sl 1 (v 18) none (some (v 19)) (some (v 20)))),
 (q 2 (.mov (v 21)))] [2])
 .ret))))
def f38 : VFn := ⟨1, 22, f38_c, [.t 2], true, []⟩
/- caliper/nat.both -/
def f39_c : VCode :=
 (.seq (.reg false [(q 4 (.mov (ci 0)))] [0, 1])
 (.seq (.seq (.reg false [(q 5 (.mov (v 0))),
 (q 6 (.call (cf 37) [(v 5)])),
 (q 7 (.un .not (v 6))),
 (q 8 (.mov (v 7))),
 ⟨(some 9), .mov (v 1), (some (8, false)), []⟩,
 ⟨(some 10), .call (cf 37) [(v 9)], (some (8, false)), []⟩,
 ⟨(some 11), .un .not (v 10), (some (8, false)), []⟩,
 (q 12 (.pick (v 8) (.c (.bool true)) (v 11)))] [12])
 (.cond (v 12) (.seq (.reg false [(q 4 (.mov (ci 2)))] [4])
 .ret) .skip))
 (.seq (.reg false [(q 4 (.mov (ci 0)))] [4])
 .ret)))
def f39 : VFn := ⟨2, 13, f39_c, [.t 4], true, []⟩
/- caliper/nat.times -/
def f40_l0 : VCode :=
 (.seq (.reg false [(q 28 (.bin .lss (v 27) (v 26)))] [1, 5, 6, 7, 8, 18, 19, 20, 25, 26, 27, 28])
 (.seq (.cond (v 28) .skip (.exit 2))
 (.seq (.block 3 (.seq (.reg false [(q 29 (.mov (v 27))),
 (q 30 (.iaddr 1 (v 25) (v 27))),
 (q 31 (.load none (v 30))),
 (q 9 (.mov (v 29))),
 (q 10 (.mov (v 31)))] [1, 5, 6, 7, 8, 9, 10, 18, 19, 20, 25, 26, 27])
 (.seq (.reg false [(q 32 (.mov (v 7))),
 (q 33 (.conv (.toInt .u64) (v 32))),
 (q 34 (.mov (v 10))),
 (q 35 (.conv (.toInt .u64) (v 34))),
 (q 36 (.bin .mul (v 33) (v 35))),
 (q 37 (.mov (v 5))),
 (q 38 (.mov (v 6))),
 (q 39 (.mov (v 9))),
 (q 40 (.bin .add (v 38) (v 39))),
 (q 41 (.iaddr 1 (v 37) (v 40))),
 (q 42 (.load none (v 41))),
 (q 43 (.conv (.toInt .u64) (v 42))),
 (q 44 (.bin .add (v 36) (v 43))),
 (q 45 (.mov (v 8))),
 (q 46 (.bin .add (v 44) (v 45))),
 (q 11 (.mov (v 46)))] [1, 5, 6, 7, 9, 11, 18, 19, 20, 25, 26, 27])
 (.reg false [(q 47 (.mov (v 5))),
 (q 48 (.mov (v 6))),
 (q 49 (.mov (v 9))),
 (q 50 (.bin .add (v 48) (v 49))),
 (q 51 (.mov (v 11))),
 (q 52 (.bin .rem (v 51) (.c (.int .u64 1000000000)))),
 (q 53 (.conv (.toInt .u32) (v 52))),
 (q 54 (.mov (v 11))),
 (q 55 (.bin .quo (v 54) (.c (.int .u64 1000000000)))),
 (q 56 (.iaddr 1 (v 47) (v 50))),
 ⟨none, .store false 1 (v 56) (v 53), none, []⟩,
 (q 8 (.mov (v 55)))] [1, 5, 6, 7, 8, 18, 19, 20, 25, 26, 27]))))
 (.reg false [(q 57 (.bin .add (v 27) (ci 1))),
 (q 27 (.mov (v 57)))] [1, 5, 6, 7, 8, 18, 19, 20, 25, 26, 27]))))
def f40_l1 : VCode :=
 (.seq (.reg false [(q 21 (.bin .lss (v 20) (v 19)))] [1, 5, 18, 19, 20, 21])
 (.seq (.cond (v 21) .skip (.exit 0))
 (.seq (.block 1 (.seq (.reg false [(q 22 (.mov (v 20))),
 (q 23 (.iaddr 1 (v 18) (v 20))),
 (q 24 (.load none (v 23))),
 (q 6 (.mov (v 22))),
 (q 7 (.mov (v 24)))] [1, 5, 6, 7, 18, 19, 20])
 (.seq (.reg false [(q 8 (.mov (.c (.int .u64 0))))] [1, 5, 6, 7, 8, 18, 19, 20])
 (.seq (.seq (.reg false [(q 25 (.mov (v 1))),
 (q 26 (.len (v 25))),
 (q 27 (.mov (ci 0)))] [1, 5, 6, 7, 8, 18, 19, 20, 25, 26, 27])
 (.block 2 (.loop [1, 5, 6, 7, 8, 18, 19, 20, 25, 26, 27] f40_l0)))
 (.seq (.reg false [(q 58 (.mov (v 1))),
 (q 59 (.len (v 58))),
 (q 60 (.bin .gtr (v 59) (ci 0)))] [1, 5, 6, 8, 18, 19, 20, 60])
 (.cond (v 60) (.reg false [(q 61 (.mov (v 5))),
 (q 62 (.mov (v 6))),
 (q 63 (.mov (v 1))),
 (q 64 (.len (v 63))),
 (q 65 (.bin .add (v 62) (v 64))),
 (q 66 (.mov (v 8))),
 (q 67 (.conv (.toInt .u32) (v 66))),
 (q 68 (.iaddr 1 (v 61) (v 65))),
 ⟨none, .store false 1 (v 68) (v 67), none, []⟩] [1, 5, 18, 19, 20]) .skip))))))
 (.reg false [(q 69 (.bin .add (v 20) (ci 1))),
 (q 20 (.mov (v 69)))] [1, 5, 18, 19, 20]))))
def f40_c : VCode :=
 (.seq (.reg false [(q 4 (.nilrow 1))] [0, 1])
 (.seq (.reg false [(q 12 (.mov (v 0))),
 (q 13 (.len (v 12))),
 (q 14 (.mov (v 1))),
 (q 15 (.len (v 14))),
 (q 16 (.bin .add (v 13) (v 15))),
 (q 17 (.mkslice false 1 4 [(.int .u32 0)] (v 16) (v 16))),
 (q 5 (.mov (v 17)))] [0, 1, 5])
 (.seq (.seq (.reg false [(q 18 (.mov (v 0))),
 (q 19 (.len (v 18))),
 (q 20 (.mov (ci 0)))] [1, 5, 18, 19, 20])
 (.block 0 (.loop [1, 5, 18, 19, 20] f40_l1)))
 (.seq (.reg false [(q 70 (.mov (v 5))),
 (q 71 (.call (cf 38) [(v 70)])),
 (q 4 (.mov (v 71)))] [4])
 .ret))))
def f40 : VFn := ⟨2, 72, f40_c, [.t 4], true, []⟩
/- strings.TrimLeft -/
def f41_c : VCode :=
 (.seq (.reg false [(q 4 (.mov (.c (.str ⟨#[]⟩))))] [0, 1])
 (.seq (.seq (.reg false [(q 7 (.mov (v 0))),
 (q 8 (.bin .eql (v 7) (.c (.str ⟨#[]⟩)))),
 (q 9 (.mov (v 8))),
 ⟨(some 10), .mov (v 1), (some (9, false)), []⟩,
 ⟨(some 11), .bin .eql (v 10) (.c (.str ⟨#[]⟩)), (some (9, false)), []⟩,
 (q 12 (.pick (v 9) (.c (.bool true)) (v 11)))] [0, 1, 12])
 (.cond (v 12) (.seq (.reg false [(q 13 (.mov (v 0))),
 (q 4 (.mov (v 13)))] [4])
 .ret) .skip))
 (.seq (.seq (.reg false [(q 14 (.mov (v 1))),
 (q 15 (.lens (v 14))),
 (q 16 (.bin .eql (v 15) (ci 1))),
 (q 17 (.mov (v 16))),
 ⟨(some 18), .mov (v 1), (some (17, true)), []⟩,
 ⟨(some 19), .idxs (v 18) (ci 0), (some (17, true)), []⟩,
 ⟨(some 20), .bin .lss (v 19) (.c (.int .u8 128)), (some (17, true)), []⟩,
 (q 21 (.pick (v 17) (v 20) (.c (.bool false))))] [0, 1, 21])
 (.cond (v 21) (.seq (.reg false [(q 22 (.mov (v 0))),
 (q 23 (.mov (v 1))),
 (q 24 (.idxs (v 23) (ci 0))),
 (q 25 (.call (cf 51) [(v 22), (v 24)])),
 (q 4 (.mov (v 25)))] [4])
 .ret) .skip))
 (.seq (.seq (.reg false [(q 27 (.mov (v 1))),
 (q 28 (.call (cf 53) [(v 27)])),
 (q 26 (.mov (v 28))),
 (q 29 (.extract (v 26) 0)),
 (q 30 (.extract (v 26) 1)),
 (q 5 (.alloc true [(.bool false), (.bool false), (.bool false), (.bool false), (.bool false), (.bool false), (.bool false), (.bool false), (.bool false), (.bool false), (.bool false), (.bool false), (.bool false), (.bool false), (.bool false), (.bool false), (.bool false), (.bool false), (.bool false), (.bool false), (.bool false), (.bool false), (.bool false), (.bool false), (.bool false), (.bool false), (.bool false), (.bool false), (.bool false), (.bool false), (.bool false), (.bool false), (.bool false), (.bool false), (.bool false), (.bool false), (.bool false), (.bool false), (.bool false), (.bool false), (.bool false), (.bool false), (.bool false), (.bool false), (.bool false), (.bool false), (.bool false), (.bool false), (.bool false), (.bool false), (.bool false), (.bool false), (.bool false), (.bool false), (.bool false), (.bool false), (.bool false), (.bool false), (.bool false), (.bool false), (.bool false), (.bool false), (.bool false), (.bool false), (.bool false), (.bool false), (.bool false), (.bool false), (.bool false), (.bool false), (.bool false), (.bool false), (.bool false), (.bool false), (.bool false), (.bool false), (.bool false), (.bool false), (.bool false), (.bool false), (.bool false), (.bool false), (.bool false), (.bool false), (.bool false), (.bool false), (.bool false), (.bool false), (.bool false), (.bool false), (.bool false), (.bool false), (.bool false), (.bool false), (.bool false), (.bool false), (.bool false), (.bool false), (.bool false), (.bool false), (.bool false), (.bool false), (.bool false), (.bool false), (.bool false), (.bool false), (.bool false), (.bool false), (.bool false), (.bool false), (.bool false), (.bool false), (.bool false), (.bool false), (.bool false), (.bool false), (.bool false), (.bool false), (.bool false), (.bool false), (.bool false), (.bool false), (.bool false), (.bool false), (.bool false), (.bool false), (.bool false), (.bool false), (.bool false), (.bool false), (.bool false), (.bool false), (.bool false), (.bool false), (.bool false), (.bool false), (.bool false), (.bool false), (.bool false), (.bool false), (.bool false), (.bool false), (.bool false), (.bool false), (.bool false), (.bool false), (.bool false), (.bool false), (.bool false), (.bool false), (.bool false), (.bool false), (.bool false), (.bool false), (.bool false), (.bool false), (.bool false), (.bool false), (.bool false), (.bool false), (.bool false), (.bool false), (.bool false), (.bool false), (.bool false), (.bool false), (.bool false), (.bool false), (.bool false), (.bool false), (.bool false), (.bool false), (.bool false), (.bool false), (.bool false), (.bool false), (.bool false), (.bool false), (.bool false), (.bool false), (.bool false), (.bool false), (.bool false), (.bool false), (.bool false), (.bool false), (.bool false), (.bool false), (.bool false), (.bool false), (.bool false), (.bool false), (.bool false), (.bool false), (.bool false), (.bool false), (.bool false), (.bool false), (.bool false), (.bool false), (.bool false), (.bool false), (.bool false), (.bool false), (.bool false), (.bool false), (.bool false), (.bool false), (.bool false), (.bool false), (.bool false), (.bool false), (.bool false), (.bool false), (.bool false), (.bool false), (.bool false), (.bool false), (.bool false), (.bool false), (.bool false), (.bool false), (.bool false), (.bool false), (.bool false), (.bool false), (.bool false), (.bool false), (.bool false), (.bool false), (.bool false), (.bool false), (.bool false), (.bool false), (.bool false), (.bool false), (.bool false), (.bool false), (.bool false), (.bool false), (.bool false), (.bool false), (.bool false), (.bool false), (.bool false), (.bool false), (.bool false), (.bool false), (.bool false), (.bool false), (.bool false), (.bool false), (.bool false), (.bool false), (.bool false), (.bool false)])),
 ⟨none, .store true 256 (v 5) (v 29), none, []⟩,
 (q 6 (.mov (v 30)))] [0, 1, 5, 6])
 (.seq (.reg false [(q 31 (.mov (v 6)))] [0, 1, 5, 31])
 (.cond (v 31) (.seq (.reg false [(q 32 (.mov (v 0))),
 (q 33 (.call (cf 54) [(v 32), (v 5)])),
 (q 4 (.mov (v 33)))] [4])
 .ret) .skip)))
 (.seq (.reg false [(q 34 (.mov (v 0))),
 (q 35 (.mov (v 1))),
 (q 36 (.call (cf 56) [(v 34), (v 35)])),
 (q 4 (.mov (v 36)))] [4])
 .ret)))))
def f41 : VFn := ⟨2, 37, f41_c, [.t 4], true, []⟩
/- caliper/nat.Power$1 -/
def f42_c : VCode :=
 (.seq (.reg false [(q 3 (.nilrow 1))] [0, 1])
 (.seq (.reg false [(q 7 (.mov (v 0))),
 (q 8 (.load none (v 1))),
 (q 9 (.call (cf 43) [(v 7), (v 8)])),
 (q 6 (.mov (v 9))),
 (q 10 (.extract (v 6) 0)),
 (q 11 (.extract (v 6) 1)),
 (q 4 (.mov (v 10))),
 (q 5 (.mov (v 11)))] [5])
 (.seq (.reg false [(q 12 (.mov (v 5))),
 (q 3 (.mov (v 12)))] [3])
 .ret)))
def f42 : VFn := ⟨2, 13, f42_c, [.t 3], true, []⟩
/- caliper/nat.divided -/
def f43_l0 : VCode :=
 (.seq (.seq (.reg false [(q 59 (.mov (v 11))),
 (q 60 (.bin .geq (v 59) (ci 0)))] [6, 7, 8, 9, 10, 11, 60])
 (.cond (v 60) .skip (.exit 0)))
 (.seq (.block 1 (.reg false [(q 63 (.mov (v 10))),
 (q 64 (.mov (v 11))),
 (q 65 (.mov (v 7))),
 (q 66 (.mov (v 8))),
 (q 67 (.mov (v 11))),
 (q 68 (.call (cf 70) [(v 65), (v 66), (v 67)])),
 (q 69 (.iaddr 1 (v 63) (v 64))),
 ⟨none, .store false 1 (v 69) (v 68), none, []⟩] [6, 7, 8, 9, 10, 11]))
 (.reg false [(q 61 (.mov (v 11))),
 (q 62 (.bin .sub (v 61) (ci 1))),
 (q 11 (.mov (v 62)))] [6, 7, 8, 9, 10, 11])))
def f43_c : VCode :=
 (.seq (.reg false [(q 4 (.nilrow 1)),
 (q 5 (.nilrow 1))] [0, 1])
 (.seq (.seq (.reg false [(q 14 (.mov (v 0))),
 (q 15 (.mov (v 1))),
 (q 16 (.call (cf 66) [(v 14), (v 15)])),
 (q 17 (.bin .lss (v 16) (ci 0)))] [0, 1, 17])
 (.cond (v 17) (.seq (.reg false [(q 18 (.mov (v 0))),
 (q 19 (.call (cf 67) [(v 18)])),
 (q 4 (.nilrow 1)),
 (q 5 (.mov (v 19)))] [4, 5])
 .ret) .skip))
 (.seq (.seq (.reg false [(q 20 (.mov (v 1))),
 (q 21 (.len (v 20))),
 (q 22 (.bin .eql (v 21) (ci 1)))] [0, 1, 22])
 (.cond (v 22) (.seq (.reg false [(q 23 (.mov (v 0))),
 (q 24 (.mov (v 1))),
 (q 25 (.iaddr 1 (v 24) (ci 0))),
 (q 26 (.load none (v 25))),
 (q 27 (.call (cf 68) [(v 23), (v 26)])),
 (q 28 (.extract (v 27) 0)),
 (q 29 (.extract (v 27) 1)),
 (q 4 (.mov (v 28))),
 (q 5 (.mov (v 29)))] [4, 5])
 .ret) .skip))
 (.seq (.reg false [(q 30 (.mov (v 1))),
 (q 31 (.mov (v 1))),
 (q 32 (.len (v 31))),
 (q 33 (.bin .sub (v 32) (ci 1))),
 (q 34 (.iaddr 1 (v 30) (v 33))),
 (q 35 (.load none (v 34))),
 (q 36 (.bin .add (v 35) (.c (.int .u32 1)))),
 (q 37 (.bin .quo (.c (.int .u32 1000000000)) (v 36))),
 (q 6 (.mov (v 37)))] [0, 1, 6])
 (.seq (.reg false [(q 38 (.mov (v 0))),
 (q 39 (.mov (v 6))),
 (q 40 (.call (cf 69) [(v 38), (v 39)])),
 (q 41 (.buildRow false 1 1 [(.int .u32 0)] [(0, (.c (.int .u32 0)))])),
 (q 42 (.append 1 4 (v 40) (v 41))),
 (q 43 (.mov (v 1))),
 (q 44 (.mov (v 6))),
 (q 45 (.call (cf 69) [(v 43), (v 44)])),
 (q 46 (.call (cf 38) [(v 45)])),
 (q 7 (.mov (v 42))),
 (q 8 (.mov (v 46)))] [6, 7, 8])
 (.seq (.reg false [(q 47 (.mov (v 8))),
 (q 48 (.len (v 47))),
 (q 9 (.mov (v 48)))] [6, 7, 8, 9])
 (.seq (.reg false [(q 49 (.mov (v 7))),
 (q 50 (.len (v 49))),
 (q 51 (.mov (v 9))),
 (q 52 (.bin .sub (v 50) (v 51))),
 (q 53 (.mkslice false 1 4 [(.int .u32 0)] (v 52) (v 52))),
 (q 10 (.mov (v 53)))] [6, 7, 8, 9, 10])
 (.seq (.seq (.reg false [(q 54 (.mov (v 7))),
 (q 55 (.len (v 54))),
 (q 56 (.mov (v 9))),
 (q 57 (.bin .sub (v 55) (v 56))),
 (q 58 (.bin .sub (v 57) (ci 1))),
 (q 11 (.mov (v 58)))] [6, 7, 8, 9, 10, 11])
 (.block 0 (.loop [6, 7, 8, 9, 10, 11] f43_l0)))
 (.seq (.reg false [(q 71 (.mov (v 7))),
 (q 72 (.mov (v 9))),
 (q 73 (.sl 1 (v 71) none (some (v 72)) none)),
 (q 74 (.call (cf 38) [(v 73)])),
 (q 75 (.mov (v 6))),
 (q 76 (.call (cf 68) [(v 74), (v 75)])),
 (q 70 (.mov (v 76))),
 (q 77 (.extract (v 70) 0)),
 (q 78 (.extract (v 70) 1)),
 (q 12 (.mov (v 77))),
 (q 13 (.mov (v 78)))] [10, 12])
 (.seq (.reg false [(q 79 (.mov (v 10))),
 (q 80 (.call (cf 38) [(v 79)])),
 (q 81 (.mov (v 12))),
 (q 4 (.mov (v 80))),
 (q 5 (.mov (v 81)))] [4, 5])
 .ret))))))))))
def f43 : VFn := ⟨2, 82, f43_c, [.t 4, .t 5], true, []⟩
/- caliper/caliperref03.digit -/
def f44_c : VCode :=
 (.seq (.reg false [(q 2 (.mov (.c (.bool false))))] [0])
 (.seq (.reg false [(q 3 (.mov (v 0))),
 (q 4 (.bin .geq (v 3) (.c (.int .u8 48)))),
 (q 5 (.mov (v 4))),
 ⟨(some 6), .mov (v 0), (some (5, true)), []⟩,
 ⟨(some 7), .bin .leq (v 6) (.c (.int .u8 57)), (some (5, true)), []⟩,
 (q 8 (.pick (v 5) (v 7) (.c (.bool false)))),
 (q 2 (.mov (v 8)))] [2])
 .ret))
def f44 : VFn := ⟨1, 9, f44_c, [.t 2], true, []⟩
/- caliper/caliperref02.Trim -/
def f45_l0 : VCode :=
 (.seq (.seq (.reg false [(q 6 (.mov (v 3))),
 (q 7 (.bin .gtr (v 6) (ci 0))),
 (q 8 (.mov (v 7))),
 ⟨(some 9), .mov (v 0), (some (8, true)), []⟩,
 ⟨(some 10), .mov (v 3), (some (8, true)), []⟩,
 ⟨(some 11), .bin .sub (v 10) (ci 1), (some (8, true)), []⟩,
 ⟨(some 12), .iaddr 1 (v 9) (v 11), (some (8, true)), []⟩,
 ⟨(some 13), .load none (v 12), (some (8, true)), []⟩,
 ⟨(some 14), .bin .eql (v 13) (.c (.int .u32 0)), (some (8, true)), []⟩,
 (q 15 (.pick (v 8) (v 14) (.c (.bool false))))] [0, 3, 15])
 (.cond (v 15) .skip (.exit 0)))
 (.block 1 (.reg false [(q 16 (.mov (v 3))),
 (q 17 (.bin .sub (v 16) (ci 1))),
 (q 3 (.mov (v 17)))] [0, 3])))
def f45_c : VCode :=
 (.seq (.reg false [(q 2 (.nilrow 1))] [0])
 (.seq (.reg false [(q 4 (.mov (v 0))),
 (q 5 (.len (v 4))),
 (q 3 (.mov (v 5)))] [0, 3])
 (.seq (.block 0 (.loop [0, 3] f45_l0))
 (.seq (.reg false [(q 18 (.buildRow false 1 0 [(.int .u32 0)] [])),
 (q 19 (.mov (v 0))),
 (q 20 (.mov (v 3))),
 (q 21 (.sl 1 (v 19) none (some (v 20)) none)),
 (q 22 (.append 1 4 (v 18) (v 21))),
 (q 2 (.mov (v 22)))] [2])
 .ret))))
def f45 : VFn := ⟨1, 23, f45_c, [.t 2], true, []⟩
/- caliper/caliperref02.Check -/
def f46_l0 : VCode :=
 (.seq (.seq (.reg false [(q 4 (.mov (v 3))),
 (q 5 (.mov (v 0))),
 (q 6 (.len (v 5))),
 (q 7 (.bin .lss (v 4) (v 6)))] [0, 3, 7])
 (.cond (v 7) .skip (.exit 0)))
 (.seq (.block 1 (.seq (.reg false [(q 10 (.mov (v 0))),
 (q 11 (.mov (v 3))),
 (q 12 (.iaddr 1 (v 10) (v 11))),
 (q 13 (.load none (v 12))),
 (q 14 (.bin .geq (v 13) (.c (.int .u32 1000000000))))] [0, 3, 14])
 (.cond (v 14) (.seq (.reg false [(q 2 (.mov (ci 2)))] [2])
 .ret) .skip)))
 (.reg false [(q 8 (.mov (v 3))),
 (q 9 (.bin .add (v 8) (ci 1))),
 (q 3 (.mov (v 9)))] [0, 3])))
def f46_c : VCode :=
 (.seq (.reg false [(q 2 (.mov (ci 0)))] [0])
 (.seq (.seq (.reg false [(q 3 (.mov (ci 0)))] [0, 3])
 (.block 0 (.loop [0, 3] f46_l0)))
 (.seq (.seq (.reg false [(q 15 (.mov (v 0))),
 (q 16 (.len (v 15))),
 (q 17 (.bin .gtr (v 16) (ci 0))),
 (q 18 (.mov (v 17))),
 ⟨(some 19), .mov (v 0), (some (18, true)), []⟩,
 ⟨(some 20), .mov (v 0), (some (18, true)), []⟩,
 ⟨(some 21), .len (v 20), (some (18, true)), []⟩,
 ⟨(some 22), .bin .sub (v 21) (ci 1), (some (18, true)), []⟩,
 ⟨(some 23), .iaddr 1 (v 19) (v 22), (some (18, true)), []⟩,
 ⟨(some 24), .load none (v 23), (some (18, true)), []⟩,
 ⟨(some 25), .bin .eql (v 24) (.c (.int .u32 0)), (some (18, true)), []⟩,
 (q 26 (.pick (v 18) (v 25) (.c (.bool false))))] [26])
 (.cond (v 26) (.seq (.reg false [(q 2 (.mov (ci 2)))] [2])
 .ret) .skip))
 (.seq (.reg false [(q 2 (.mov (ci 0)))] [2])
 .ret))))
def f46 : VFn := ⟨1, 27, f46_c, [.t 2], true, []⟩
/- caliper/caliperref02.div -/
def f47_l0 : VCode :=
 (.seq (.seq (.reg false [(q 30 (.mov (v 9))),
 (q 31 (.mov (v 10))),
 (q 32 (.bin .lss (v 30) (v 31)))] [0, 1, 6, 7, 8, 9, 10, 32])
 (.cond (v 32) .skip (.exit 2)))
 (.block 3 (.seq (.reg false [(q 33 (.mov (v 9))),
 (q 34 (.mov (v 10))),
 (q 35 (.mov (v 9))),
 (q 36 (.bin .sub (v 34) (v 35))),
 (q 37 (.bin .add (v 36) (.c (.int .u32 1)))),
 (q 38 (.bin .quo (v 37) (.c (.int .u32 2)))),
 (q 39 (.bin .add (v 33) (v 38))),
 (q 11 (.mov (v 39)))] [0, 1, 6, 7, 8, 9, 10, 11])
 (.seq (.reg false [(q 40 (.mov (v 1))),
 (q 41 (.mov (v 11))),
 (q 42 (.buildRow false 1 1 [(.int .u32 0)] [(0, (v 41))])),
 (q 43 (.call (cf 45) [(v 42)])),
 (q 44 (.call (cf 48) [(v 40), (v 43)])),
 (q 45 (.mov (v 7))),
 (q 46 (.call (cf 71) [(v 44), (v 45)])),
 (q 47 (.bin .leq (v 46) (ci 0)))] [0, 1, 6, 7, 8, 9, 10, 11, 47])
 (.cond (v 47) (.reg false [(q 48 (.mov (v 11))),
 (q 9 (.mov (v 48)))] [0, 1, 6, 7, 8, 9, 10]) (.reg false [(q 49 (.mov (v 11))),
 (q 50 (.bin .sub (v 49) (.c (.int .u32 1)))),
 (q 10 (.mov (v 50)))] [0, 1, 6, 7, 8, 9, 10]))))))
def f47_l1 : VCode :=
 (.seq (.seq (.reg false [(q 18 (.mov (v 8))),
 (q 19 (.bin .geq (v 18) (ci 0)))] [0, 1, 6, 7, 8, 19])
 (.cond (v 19) .skip (.exit 0)))
 (.seq (.block 1 (.seq (.reg false [(q 22 (.mov (v 0))),
 (q 23 (.mov (v 8))),
 (q 24 (.iaddr 1 (v 22) (v 23))),
 (q 25 (.load none (v 24))),
 (q 26 (.buildRow false 1 1 [(.int .u32 0)] [(0, (v 25))])),
 (q 27 (.mov (v 7))),
 (q 28 (.append 1 4 (v 26) (v 27))),
 (q 29 (.call (cf 45) [(v 28)])),
 (q 7 (.mov (v 29)))] [0, 1, 6, 7, 8])
 (.seq (.reg false [(q 9 (.mov (.c (.int .u32 0)))),
 (q 10 (.mov (.c (.int .u32 999999999))))] [0, 1, 6, 7, 8, 9, 10])
 (.seq (.block 2 (.loop [0, 1, 6, 7, 8, 9, 10] f47_l0))
 (.seq (.reg false [(q 51 (.mov (v 6))),
 (q 52 (.mov (v 8))),
 (q 53 (.mov (v 9))),
 (q 54 (.iaddr 1 (v 51) (v 52))),
 ⟨none, .store false 1 (v 54) (v 53), none, []⟩] [0, 1, 6, 7, 8, 9])
 (.reg false [(q 55 (.mov (v 7))),
 (q 56 (.mov (v 1))),
 (q 57 (.mov (v 9))),
 (q 58 (.buildRow false 1 1 [(.int .u32 0)] [(0, (v 57))])),
 (q 59 (.call (cf 45) [(v 58)])),
 (q 60 (.call (cf 48) [(v 56), (v 59)])),
 (q 61 (.call (cf 72) [(v 55), (v 60)])),
 (q 7 (.mov (v 61)))] [0, 1, 6, 7, 8]))))))
 (.reg false [(q 20 (.mov (v 8))),
 (q 21 (.bin .sub (v 20) (ci 1))),
 (q 8 (.mov (v 21)))] [0, 1, 6, 7, 8])))
def f47_c : VCode :=
 (.seq (.reg false [(q 4 (.nilrow 1)),
 (q 5 (.nilrow 1))] [0, 1])
 (.seq (.reg false [(q 12 (.mov (v 0))),
 (q 13 (.len (v 12))),
 (q 14 (.mkslice false 1 4 [(.int .u32 0)] (v 13) (v 13))),
 (q 6 (.mov (v 14)))] [0, 1, 6])
 (.seq (.reg false [(q 7 (.nilrow 1))] [0, 1, 6, 7])
 (.seq (.seq (.reg false [(q 15 (.mov (v 0))),
 (q 16 (.len (v 15))),
 (q 17 (.bin .sub (v 16) (ci 1))),
 (q 8 (.mov (v 17)))] [0, 1, 6, 7, 8])
 (.block 0 (.loop [0, 1, 6, 7, 8] f47_l1)))
 (.seq (.reg false [(q 62 (.mov (v 6))),
 (q 63 (.call (cf 45) [(v 62)])),
 (q 64 (.mov (v 7))),
 (q 4 (.mov (v 63))),
 (q 5 (.mov (v 64)))] [4, 5])
 .ret)))))
def f47 : VFn := ⟨2, 65, f47_c, [.t 4, .t 5], true, []⟩
/- caliper/caliperref02.mul -/
def f48_l0 : VCode :=
 (.seq (.seq (.reg false [(q 23 (.mov (v 8))),
 (q 24 (.mov (v 1))),
 (q 25 (.len (v 24))),
 (q 26 (.bin .lss (v 23) (v 25))),
 (q 27 (.mov (v 26))),
 ⟨(some 28), .mov (v 7), (some (27, false)), []⟩,
 ⟨(some 29), .bin .gtr (v 28) (.c (.int .u64 0)), (some (27, false)), []⟩,
 (q 30 (.pick (v 27) (.c (.bool true)) (v 29)))] [0, 1, 5, 6, 7, 8, 30])
 (.cond (v 30) .skip (.exit 2)))
 (.seq (.block 3 (.seq (.reg false [(q 33 (.mov (v 7))),
 (q 34 (.mov (v 5))),
 (q 35 (.mov (v 6))),
 (q 36 (.mov (v 8))),
 (q 37 (.bin .add (v 35) (v 36))),
 (q 38 (.iaddr 1 (v 34) (v 37))),
 (q 39 (.load none (v 38))),
 (q 40 (.conv (.toInt .u64) (v 39))),
 (q 41 (.bin .add (v 33) (v 40))),
 (q 9 (.mov (v 41)))] [0, 1, 5, 6, 8, 9])
 (.seq (.seq (.reg false [(q 42 (.mov (v 8))),
 (q 43 (.mov (v 1))),
 (q 44 (.len (v 43))),
 (q 45 (.bin .lss (v 42) (v 44)))] [0, 1, 5, 6, 8, 9, 45])
 (.cond (v 45) (.reg true [(q 46 (.mov (v 9))),
 (q 47 (.mov (v 0))),
 (q 48 (.mov (v 6))),
 (q 49 (.iaddr 1 (v 47) (v 48))),
 (q 50 (.load none (v 49))),
 (q 51 (.conv (.toInt .u64) (v 50))),
 (q 52 (.mov (v 1))),
 (q 53 (.mov (v 8))),
 (q 54 (.iaddr 1 (v 52) (v 53))),
 (q 55 (.load none (v 54))),
 (q 56 (.conv (.toInt .u64) (v 55))),
 (q 57 (.bin .mul (v 51) (v 56))),
 (q 58 (.bin .add (v 46) (v 57))),
 (q 9 (.mov (v 58)))] [0, 1, 5, 6, 8, 9]) .skip))
 (.seq (.reg false [(q 59 (.mov (v 5))),
 (q 60 (.mov (v 6))),
 (q 61 (.mov (v 8))),
 (q 62 (.bin .add (v 60) (v 61))),
 (q 63 (.mov (v 9))),
 (q 64 (.bin .rem (v 63) (.c (.int .u64 1000000000)))),
 (q 65 (.conv (.toInt .u32) (v 64))),
 (q 66 (.iaddr 1 (v 59) (v 62))),
 ⟨none, .store false 1 (v 66) (v 65), none, []⟩] [0, 1, 5, 6, 8, 9])
 (.reg false [(q 67 (.mov (v 9))),
 (q 68 (.bin .quo (v 67) (.c (.int .u64 1000000000)))),
 (q 7 (.mov (v 68)))] [0, 1, 5, 6, 7, 8])))))
 (.reg false [(q 31 (.mov (v 8))),
 (q 32 (.bin .add (v 31) (ci 1))),
 (q 8 (.mov (v 32)))] [0, 1, 5, 6, 7, 8])))
def f48_l1 : VCode :=
 (.seq (.seq (.reg false [(q 17 (.mov (v 6))),
 (q 18 (.mov (v 0))),
 (q 19 (.len (v 18))),
 (q 20 (.bin .lss (v 17) (v 19)))] [0, 1, 5, 6, 20])
 (.cond (v 20) .skip (.exit 0)))
 (.seq (.block 1 (.seq (.reg false [(q 7 (.mov (.c (.int .u64 0))))] [0, 1, 5, 6, 7])
 (.seq (.reg false [(q 8 (.mov (ci 0)))] [0, 1, 5, 6, 7, 8])
 (.block 2 (.loop [0, 1, 5, 6, 7, 8] f48_l0)))))
 (.reg false [(q 21 (.mov (v 6))),
 (q 22 (.bin .add (v 21) (ci 1))),
 (q 6 (.mov (v 22)))] [0, 1, 5, 6])))
def f48_c : VCode :=
 (.seq (.reg false [(q 4 (.nilrow 1))] [0, 1])
 (.seq (.reg false [(q 10 (.mov (v 0))),
 (q 11 (.len (v 10))),
 (q 12 (.mov (v 1))),
 (q 13 (.len (v 12))),
 (q 14 (.bin .add (v 11) (v 13))),
 (q 15 (.bin .add (v 14) (ci 1))),
 (q 16 (.mkslice false 1 4 [(.int .u32 0)] (v 15) (v 15))),
 (q 5 (.mov (v 16)))] [0, 1, 5])
 (.seq (.seq (.reg false [(q 6 (.mov (ci 0)))] [0, 1, 5, 6])
 (.block 0 (.loop [0, 1, 5, 6] f48_l1)))
 (.seq (.reg false [(q 69 (.mov (v 5))),
 (q 70 (.call (cf 45) [(v 69)])),
 (q 4 (.mov (v 70)))] [4])
 .ret))))
def f48 : VFn := ⟨2, 71, f48_c, [.t 4], true, []⟩
/- cmp.isNaN[int] -/
def f49_c : VCode :=
 (.seq (.reg false [(q 2 (.mov (.c (.bool false))))] [0])
 (.seq (.reg false [(q 3 (.mov (v 0))),
 (q 4 (.mov (v 0))),
 (q 5 (.bin .neq (v 3) (v 4))),
 (q 2 (.mov (v 5)))] [2])
 .ret))
def f49 : VFn := ⟨1, 6, f49_c, [.t 2], true, []⟩
/- cmp.isNaN[string] -/
def f50_c : VCode :=
 (.seq (.reg false [(q 2 (.mov (.c (.bool false))))] [0])
 (.seq (.reg false [(q 3 (.mov (v 0))),
 (q 4 (.mov (v 0))),
 (q 5 (.bin .neq (v 3) (v 4))),
 (q 2 (.mov (v 5)))] [2])
 .ret))
def f50 : VFn := ⟨1, 6, f50_c, [.t 2], true, []⟩
/- strings.trimLeftByte -/
/- strings.trimRightByte -/
def f52_l0 : VCode :=
 (.seq (.seq (.reg false [(q 5 (.mov (v 0))),
 (q 6 (.lens (v 5))),
 (q 7 (.bin .gtr (v 6) (ci 0))),
 (q 8 (.mov (v 7))),
 ⟨(some 9), .mov (v 0), (some (8, true)), []⟩,
 ⟨(some 10), .mov (v 0), (some (8, true)), []⟩,
 ⟨(some 11), .lens (v 10), (some (8, true)), []⟩,
 ⟨(some 12), .bin .sub (v 11) (ci 1), (some (8, true)), []⟩,
 ⟨(some 13), .idxs (v 9) (v 12), (some (8, true)), []⟩,
 ⟨(some 14), .mov (v 1), (some (8, true)), []⟩,
 ⟨(some 15), .bin .eql (v 13) (v 14), (some (8, true)), []⟩,
 (q 16 (.pick (v 8) (v 15) (.c (.bool false))))] [0, 1, 16])
 (.cond (v 16) .skip (.exit 0)))
 (.block 1 (.reg false [(q 17 (.mov (v 0))),
 (q 18 (.mov (v 0))),
 (q 19 (.lens (v 18))),
 (q 20 (.bin .sub (v 19) (ci 1))),
 (q 21 (.slstr (v 17) none (some (v 20)))),
 (q 0 (.mov (v 21)))] [0, 1])))
def f52_c : VCode :=
 (.seq (.reg false [(q 4 (.mov (.c (.str ⟨#[]⟩))))] [0, 1])
 (.seq (.block 0 (.loop [0, 1] f52_l0))
 (.seq (.reg false [(q 22 (.mov (v 0))),
 (q 4 (.mov (v 22)))] [4])
 .ret)))
def f52 : VFn := ⟨2, 23, f52_c, [.t 4], true, []⟩
/- strings.makeASCIISet -/
def f53_l0 : VCode :=
 (.seq (.seq (.reg false [(q 6 (.mov (v 4))),
 (q 7 (.mov (v 0))),
 (q 8 (.lens (v 7))),
 (q 9 (.bin .lss (v 6) (v 8)))] [0, 2, 4, 9])
 (.cond (v 9) .skip (.exit 0)))
 (.seq (.block 1 (.seq (.reg false [(q 12 (.mov (v 0))),
 (q 13 (.mov (v 4))),
 (q 14 (.idxs (v 12) (v 13))),
 (q 5 (.mov (v 14)))] [0, 2, 4, 5])
 (.seq (.seq (.reg false [(q 15 (.mov (v 5))),
 (q 16 (.bin .geq (v 15) (.c (.int .u8 128))))] [0, 2, 4, 5, 16])
 (.cond (v 16) (.seq (.reg false [(q 17 (.load (some 256) (v 2))),
 ⟨none, .store true 256 (v 2) (v 17), none, []⟩,
 (q 3 (.mov (.c (.bool false))))] [2, 3])
 .ret) .skip))
 (.reg false [(q 18 (.mov (v 5))),
 (q 19 (.iaddra 256 1 (v 2) (v 18))),
 ⟨none, .store false 1 (v 19) (.c (.bool true)), none, []⟩] [0, 2, 4]))))
 (.reg false [(q 10 (.mov (v 4))),
 (q 11 (.bin .add (v 10) (ci 1))),
 (q 4 (.mov (v 11)))] [0, 2, 4])))
def f53_c : VCode :=
 (.seq (.reg false [(q 2 (.alloc true [(.bool false), (.bool false), (.bool false), (.bool false), (.bool false), (.bool false), (.bool false), (.bool false), (.bool false), (.bool false), (.bool false), (.bool false), (.bool false), (.bool false), (.bool false), (.bool false), (.bool false), (.bool false), (.bool false), (.bool false), (.bool false), (.bool false), (.bool false), (.bool false), (.bool false), (.bool false), (.bool false), (.bool false), (.bool false), (.bool false), (.bool false), (.bool false), (.bool false), (.bool false), (.bool false), (.bool false), (.bool false), (.bool false), (.bool false), (.bool false), (.bool false), (.bool false), (.bool false), (.bool false), (.bool false), (.bool false), (.bool false), (.bool false), (.bool false), (.bool false), (.bool false), (.bool false), (.bool false), (.bool false), (.bool false), (.bool false), (.bool false), (.bool false), (.bool false), (.bool false), (.bool false), (.bool false), (.bool false), (.bool false), (.bool false), (.bool false), (.bool false), (.bool false), (.bool false), (.bool false), (.bool false), (.bool false), (.bool false), (.bool false), (.bool false), (.bool false), (.bool false), (.bool false), (.bool false), (.bool false), (.bool false), (.bool false), (.bool false), (.bool false), (.bool false), (.bool false), (.bool false), (.bool false), (.bool false), (.bool false), (.bool false), (.bool false), (.bool false), (.bool false), (.bool false), (.bool false), (.bool false), (.bool false), (.bool false), (.bool false), (.bool false), (.bool false), (.bool false), (.bool false), (.bool false), (.bool false), (.bool false), (.bool false), (.bool false), (.bool false), (.bool false), (.bool false), (.bool false), (.bool false), (.bool false), (.bool false), (.bool false), (.bool false), (.bool false), (.bool false), (.bool false), (.bool false), (.bool false), (.bool false), (.bool false), (.bool false), (.bool false), (.bool false), (.bool false), (.bool false), (.bool false), (.bool false), (.bool false), (.bool false), (.bool false), (.bool false), (.bool false), (.bool false), (.bool false), (.bool false), (.bool false), (.bool false), (.bool false), (.bool false), (.bool false), (.bool false), (.bool false), (.bool false), (.bool false), (.bool false), (.bool false), (.bool false), (.bool false), (.bool false), (.bool false), (.bool false), (.bool false), (.bool false), (.bool false), (.bool false), (.bool false), (.bool false), (.bool false), (.bool false), (.bool false), (.bool false), (.bool false), (.bool false), (.bool false), (.bool false), (.bool false), (.bool false), (.bool false), (.bool false), (.bool false), (.bool false), (.bool false), (.bool false), (.bool false), (.bool false), (.bool false), (.bool false), (.bool false), (.bool false), (.bool false), (.bool false), (.bool false), (.bool false), (.bool false), (.bool false), (.bool false), (.bool false), (.bool false), (.bool false), (.bool false), (.bool false), (.bool false), (.bool false), (.bool false), (.bool false), (.bool false), (.bool false), (.bool false), (.bool false), (.bool false), (.bool false), (.bool false), (.bool false), (.bool false), (.bool false), (.bool false), (.bool false), (.bool false), (.bool false), (.bool false), (.bool false), (.bool false), (.bool false), (.bool false), (.bool false), (.bool false), (.bool false), (.bool false), (.bool false), (.bool false), (.bool false), (.bool false), (.bool false), (.bool false), (.bool false), (.bool false), (.bool false), (.bool false), (.bool false), (.bool false), (.bool false), (.bool false), (.bool false), (.bool false), (.bool false), (.bool false), (.bool false), (.bool false), (.bool false), (.bool false), (.bool false), (.bool false), (.bool false), (.bool false), (.bool false), (.bool false), (.bool false), (.bool false), (.bool false), (.bool false), (.bool false)])),
 (q 3 (.mov (.c (.bool false))))] [0, 2])
 (.seq (.seq (.reg false [(q 4 (.mov (ci 0)))] [0, 2, 4])
 (.block 0 (.loop [0, 2, 4] f53_l0)))
 (.seq (.reg false [(q 20 (.load (some 256) (v 2))),
 ⟨none, .store true 256 (v 2) (v 20), none, []⟩,
 (q 3 (.mov (.c (.bool true))))] [2, 3])
 .ret)))
def f53 : VFn := ⟨1, 21, f53_c, [.c 2 (some 256), .t 3], true, []⟩
/- strings.trimLeftASCII -/
/- strings.trimRightASCII -/
def f55_l0 : VCode :=
 (.seq (.seq (.reg false [(q 5 (.mov (v 0))),
 (q 6 (.lens (v 5))),
 (q 7 (.bin .gtr (v 6) (ci 0)))] [0, 1, 7])
 (.cond (v 7) .skip (.exit 0)))
 (.block 1 (.seq (.seq (.reg false [(q 8 (.mov (v 1))),
 (q 9 (.mov (v 0))),
 (q 10 (.mov (v 0))),
 (q 11 (.lens (v 10))),
 (q 12 (.bin .sub (v 11) (ci 1))),
 (q 13 (.idxs (v 9) (v 12))),
 (q 14 (.call (cf 73) [(v 8), (v 13)])),
 (q 15 (.un .not (v 14)))] [0, 1, 15])
 (.cond (v 15) (.exit 0) .skip))
 (.reg false [(q 16 (.mov (v 0))),
 (q 17 (.mov (v 0))),
 (q 18 (.lens (v 17))),
 (q 19 (.bin .sub (v 18) (ci 1))),
 (q 20 (.slstr (v 16) none (some (v 19)))),
 (q 0 (.mov (v 20)))] [0, 1]))))
def f55_c : VCode :=
 (.seq (.reg false [(q 4 (.mov (.c (.str ⟨#[]⟩))))] [0, 1])
 (.seq (.block 0 (.loop [0, 1] f55_l0))
 (.seq (.reg false [(q 21 (.mov (v 0))),
 (q 4 (.mov (v 21)))] [4])
 .ret)))
def f55 : VFn := ⟨2, 22, f55_c, [.t 4], true, []⟩
/- strings.trimLeftUnicode -/
/- strings.trimRightUnicode -/
def f57_l0 : VCode :=
 (.seq (.seq (.reg false [(q 7 (.mov (v 0))),
 (q 8 (.lens (v 7))),
 (q 9 (.bin .gtr (v 8) (ci 0)))] [0, 1, 9])
 (.cond (v 9) .skip (.exit 0)))
 (.block 1 (.seq (.reg false [(q 10 (.mov (v 0))),
 (q 11 (.mov (v 0))),
 (q 12 (.lens (v 11))),
 (q 13 (.bin .sub (v 12) (ci 1))),
 (q 14 (.idxs (v 10) (v 13))),
 (q 15 (.conv (.toInt .i32) (v 14))),
 (q 5 (.mov (v 15))),
 (q 6 (.mov (ci 1)))] [0, 1, 5, 6])
 (.seq (.seq (.reg false [(q 16 (.mov (v 5))),
 (q 17 (.bin .geq (v 16) (.c (.int .i32 128))))] [0, 1, 5, 6, 17])
 (.cond (v 17) (.reg false [(q 19 (.mov (v 0))),
 (q 20 (.call (cf 76) [(v 19)])),
 (q 18 (.mov (v 20))),
 (q 21 (.extract (v 18) 0)),
 (q 22 (.extract (v 18) 1)),
 (q 5 (.mov (v 21))),
 (q 6 (.mov (v 22)))] [0, 1, 5, 6]) .skip))
 (.seq (.seq (.reg false [(q 23 (.mov (v 1))),
 (q 24 (.mov (v 5))),
 (q 25 (.call (cf 75) [(v 23), (v 24)])),
 (q 26 (.un .not (v 25)))] [0, 1, 6, 26])
 (.cond (v 26) (.exit 0) .skip))
 (.reg false [(q 27 (.mov (v 0))),
 (q 28 (.mov (v 0))),
 (q 29 (.lens (v 28))),
 (q 30 (.mov (v 6))),
 (q 31 (.bin .sub (v 29) (v 30))),
 (q 32 (.slstr (v 27) none (some (v 31)))),
 (q 0 (.mov (v 32)))] [0, 1]))))))
def f57_c : VCode :=
 (.seq (.reg false [(q 4 (.mov (.c (.str ⟨#[]⟩))))] [0, 1])
 (.seq (.block 0 (.loop [0, 1] f57_l0))
 (.seq (.reg false [(q 33 (.mov (v 0))),
 (q 4 (.mov (v 33)))] [4])
 .ret)))
def f57 : VFn := ⟨2, 34, f57_c, [.t 4], true, []⟩
/- internal/strconv.Itoa -/
def f58_c : VCode :=
 (.seq (.reg false [(q 2 (.mov (.c (.str ⟨#[]⟩))))] [0])
 (.seq (.reg false [(q 3 (.mov (v 0))),
 (q 4 (.call (cf 77) [(v 3), (ci 10)])),
 (q 2 (.mov (v 4)))] [2])
 .ret))
def f58 : VFn := ⟨1, 5, f58_c, [.t 2], true, []⟩
/- strings.CutPrefix -/
def f59_c : VCode :=
 (.seq (.reg false [(q 4 (.mov (.c (.str ⟨#[]⟩)))),
 (q 5 (.mov (.c (.bool false))))] [0, 1])
 (.seq (.reg false [(q 6 (.mov (v 0))),
 (q 7 (.mov (v 1))),
 (q 8 (.call (cf 78) [(v 6), (v 7)])),
 (q 9 (.extract (v 8) 0)),
 (q 10 (.extract (v 8) 1)),
 (q 4 (.mov (v 9))),
 (q 5 (.mov (v 10)))] [4, 5])
 .ret))
def f59 : VFn := ⟨2, 11, f59_c, [.t 4, .t 5], true, []⟩
/- caliper/dec.digits -/
def f60_l0 : VCode :=
 (.seq (.seq (.reg false [(q 6 (.mov (v 5))),
 (q 7 (.mov (v 0))),
 (q 8 (.lens (v 7))),
 (q 9 (.bin .lss (v 6) (v 8))),
 (q 10 (.mov (v 9))),
 ⟨(some 11), .mov (v 0), (some (10, true)), []⟩,
 ⟨(some 12), .mov (v 5), (some (10, true)), []⟩,
 ⟨(some 13), .idxs (v 11) (v 12), (some (10, true)), []⟩,
 ⟨(some 14), .bin .geq (v 13) (.c (.int .u8 48)), (some (10, true)), []⟩,
 (q 15 (.pick (v 10) (v 14) (.c (.bool false)))),
 (q 16 (.mov (v 15))),
 ⟨(some 17), .mov (v 0), (some (16, true)), []⟩,
 ⟨(some 18), .mov (v 5), (some (16, true)), []⟩,
 ⟨(some 19), .idxs (v 17) (v 18), (some (16, true)), []⟩,
 ⟨(some 20), .bin .leq (v 19) (.c (.int .u8 57)), (some (16, true)), []⟩,
 (q 21 (.pick (v 16) (v 20) (.c (.bool false))))] [0, 5, 21])
 (.cond (v 21) .skip (.exit 0)))
 (.block 1 (.reg false [(q 22 (.mov (v 5))),
 (q 23 (.bin .add (v 22) (ci 1))),
 (q 5 (.mov (v 23)))] [0, 5])))
def f60_c : VCode :=
 (.seq (.reg false [(q 2 (.mov (.c (.str ⟨#[]⟩)))),
 (q 3 (.mov (.c (.str ⟨#[]⟩)))),
 (q 4 (.mov (.c .nili)))] [0])
 (.seq (.reg false [(q 5 (.mov (ci 0)))] [0, 5])
 (.seq (.block 0 (.loop [0, 5] f60_l0))
 (.seq (.seq (.reg false [(q 24 (.mov (v 5))),
 (q 25 (.bin .eql (v 24) (ci 0)))] [0, 5, 25])
 (.cond (v 25) (.seq (.reg false [(q 26 (.build [(.int .i64 0)] [(0, 1, (ci 30))])),
 (q 27 (.box true 1 (v 26))),
 (q 28 (.mkiface 95 (v 27))),
 (q 2 (.mov (.c (.str ⟨#[]⟩)))),
 (q 3 (.mov (.c (.str ⟨#[]⟩)))),
 (q 4 (.mov (v 28)))] [2, 3, 4])
 .ret) .skip))
 (.seq (.reg true [(q 29 (.mov (v 0))),
 (q 30 (.mov (v 5))),
 (q 31 (.slstr (v 29) none (some (v 30)))),
 (q 32 (.mov (v 0))),
 (q 33 (.mov (v 5))),
 (q 34 (.slstr (v 32) (some (v 33)) none)),
 (q 2 (.mov (v 31))),
 (q 3 (.mov (v 34))),
 (q 4 (.mov (.c .nili)))] [2, 3, 4])
 .ret)))))
def f60 : VFn := ⟨1, 35, f60_c, [.t 2, .t 3, .t 4], true, []⟩
/- strings.HasPrefix -/
def f61_c : VCode :=
 (.seq (.reg false [(q 4 (.mov (.c (.bool false))))] [0, 1])
 (.seq (.reg false [(q 5 (.mov (v 0))),
 (q 6 (.mov (v 1))),
 (q 7 (.call (cf 79) [(v 5), (v 6)])),
 (q 4 (.mov (v 7)))] [4])
 .ret))
def f61 : VFn := ⟨2, 8, f61_c, [.t 4], true, []⟩
/- caliper/dec.exponent -/
def f62_l0 : VCode :=
 (.seq (.reg false [(q 62 (.bin .lss (v 61) (v 60)))] [4, 8, 59, 60, 61, 62])
 (.seq (.cond (v 62) .skip (.exit 0))
 (.seq (.block 1 (.seq (.reg false [(q 63 (.iaddr 1 (v 59) (v 61))),
 (q 64 (.load none (v 63))),
 (q 10 (.mov (v 64)))] [4, 8, 10, 59, 60, 61])
 (.reg false [(q 65 (.mov (v 8))),
 (q 66 (.bin .mul (v 65) (ci 10))),
 (q 67 (.mov (v 10))),
 (q 68 (.bin .sub (v 67) (.c (.int .u8 48)))),
 (q 69 (.conv (.toInt .i64) (v 68))),
 (q 70 (.bin .add (v 66) (v 69))),
 (q 71 (.min [(v 70), (ci 99999999)])),
 (q 8 (.mov (v 71)))] [4, 8, 59, 60, 61])))
 (.reg false [(q 72 (.bin .add (v 61) (ci 1))),
 (q 61 (.mov (v 72)))] [4, 8, 59, 60, 61]))))
def f62_c : VCode :=
 (.seq (.reg false [(q 2 (.mov (ci 0))),
 (q 3 (.mov (.c .nili)))] [0])
 (.seq (.seq (.reg false [(q 11 (.mov (v 0))),
 (q 12 (.bin .eql (v 11) (.c (.str ⟨#[]⟩))))] [0, 12])
 (.cond (v 12) (.seq (.reg false [(q 2 (.mov (ci 0))),
 (q 3 (.mov (.c .nili)))] [2, 3])
 .ret) .skip))
 (.seq (.seq (.reg false [(q 13 (.mov (v 0))),
 (q 14 (.idxs (v 13) (ci 0))),
 (q 15 (.bin .neq (v 14) (.c (.int .u8 101)))),
 (q 16 (.mov (v 15))),
 ⟨(some 17), .mov (v 0), (some (16, true)), []⟩,
 ⟨(some 18), .idxs (v 17) (ci 0), (some (16, true)), []⟩,
 ⟨(some 19), .bin .neq (v 18) (.c (.int .u8 69)), (some (16, true)), []⟩,
 (q 20 (.pick (v 16) (v 19) (.c (.bool false))))] [0, 20])
 (.cond (v 20) (.seq (.reg false [(q 21 (.build [(.int .i64 0)] [(0, 1, (ci 30))])),
 (q 22 (.box true 1 (v 21))),
 (q 23 (.mkiface 95 (v 22))),
 (q 2 (.mov (ci 0))),
 (q 3 (.mov (v 23)))] [2, 3])
 .ret) .skip))
 (.seq (.reg false [(q 4 (.mov (ci 1)))] [0, 4])
 (.seq (.reg false [(q 24 (.mov (v 0))),
 (q 25 (.slstr (v 24) (some (ci 1)) none)),
 (q 0 (.mov (v 25)))] [0, 4])
 (.seq (.seq (.reg false [(q 26 (.mov (v 0))),
 (q 27 (.bin .neq (v 26) (.c (.str ⟨#[]⟩)))),
 (q 28 (.mov (v 27))),
 ⟨(some 29), .mov (v 0), (some (28, true)), []⟩,
 ⟨(some 30), .idxs (v 29) (ci 0), (some (28, true)), []⟩,
 ⟨(some 31), .bin .eql (v 30) (.c (.int .u8 43)), (some (28, true)), []⟩,
 ⟨(some 32), .mov (v 31), (some (28, true)), []⟩,
 ⟨(some 33), .mov (v 0), (some (32, false)), []⟩,
 ⟨(some 34), .idxs (v 33) (ci 0), (some (32, false)), []⟩,
 ⟨(some 35), .bin .eql (v 34) (.c (.int .u8 45)), (some (32, false)), []⟩,
 ⟨(some 36), .pick (v 32) (.c (.bool true)) (v 35), (some (28, true)), []⟩,
 (q 37 (.pick (v 28) (v 36) (.c (.bool false))))] [0, 4, 37])
 (.cond (v 37) (.seq (.seq (.reg false [(q 38 (.mov (v 0))),
 (q 39 (.idxs (v 38) (ci 0))),
 (q 40 (.bin .eql (v 39) (.c (.int .u8 45))))] [0, 4, 40])
 (.cond (v 40) (.reg false [(q 4 (.mov (ci (-1))))] [0, 4]) .skip))
 (.reg false [(q 41 (.mov (v 0))),
 (q 42 (.slstr (v 41) (some (ci 1)) none)),
 (q 0 (.mov (v 42)))] [0, 4])) .skip))
 (.seq (.reg false [(q 44 (.mov (v 0))),
 (q 45 (.call (cf 60) [(v 44)])),
 (q 43 (.mov (v 45))),
 (q 46 (.extract (v 43) 0)),
 (q 47 (.extract (v 43) 1)),
 (q 48 (.extract (v 43) 2)),
 (q 5 (.mov (v 46))),
 (q 6 (.mov (v 47))),
 (q 7 (.mov (v 48)))] [4, 5, 6, 7])
 (.seq (.seq (.reg false [(q 49 (.mov (v 7))),
 (q 50 (.isnil .iface true (v 49))),
 (q 51 (.mov (v 50))),
 ⟨(some 52), .mov (v 6), (some (51, false)), []⟩,
 ⟨(some 53), .bin .neq (v 52) (.c (.str ⟨#[]⟩)), (some (51, false)), []⟩,
 (q 54 (.pick (v 51) (.c (.bool true)) (v 53)))] [4, 5, 54])
 (.cond (v 54) (.seq (.reg false [(q 55 (.build [(.int .i64 0)] [(0, 1, (ci 30))])),
 (q 56 (.box true 1 (v 55))),
 (q 57 (.mkiface 95 (v 56))),
 (q 2 (.mov (ci 0))),
 (q 3 (.mov (v 57)))] [2, 3])
 .ret) .skip))
 (.seq (.reg false [(q 8 (.mov (ci 0)))] [4, 5, 8])
 (.seq (.seq (.reg false [(q 58 (.mov (v 5))),
 (q 59 (.conv .strToBytes (v 58))),
 (q 60 (.len (v 59))),
 (q 61 (.mov (ci 0)))] [4, 8, 59, 60, 61])
 (.block 0 (.loop [4, 8, 59, 60, 61] f62_l0)))
 (.seq (.reg false [(q 73 (.mov (v 4))),
 (q 74 (.mov (v 8))),
 (q 75 (.bin .mul (v 73) (v 74))),
 (q 2 (.mov (v 75))),
 (q 3 (.mov (.c .nili)))] [2, 3])
 .ret)))))))))))
def f62 : VFn := ⟨1, 76, f62_c, [.t 2, .t 3], true, []⟩
/- strings.TrimRight -/
def f63_c : VCode :=
 (.seq (.reg false [(q 4 (.mov (.c (.str ⟨#[]⟩))))] [0, 1])
 (.seq (.seq (.reg false [(q 7 (.mov (v 0))),
 (q 8 (.bin .eql (v 7) (.c (.str ⟨#[]⟩)))),
 (q 9 (.mov (v 8))),
 ⟨(some 10), .mov (v 1), (some (9, false)), []⟩,
 ⟨(some 11), .bin .eql (v 10) (.c (.str ⟨#[]⟩)), (some (9, false)), []⟩,
 (q 12 (.pick (v 9) (.c (.bool true)) (v 11)))] [0, 1, 12])
 (.cond (v 12) (.seq (.reg false [(q 13 (.mov (v 0))),
 (q 4 (.mov (v 13)))] [4])
 .ret) .skip))
 (.seq (.seq (.reg false [(q 14 (.mov (v 1))),
 (q 15 (.lens (v 14))),
 (q 16 (.bin .eql (v 15) (ci 1))),
 (q 17 (.mov (v 16))),
 ⟨(some 18), .mov (v 1), (some (17, true)), []⟩,
 ⟨(some 19), .idxs (v 18) (ci 0), (some (17, true)), []⟩,
 ⟨(some 20), .bin .lss (v 19) (.c (.int .u8 128)), (some (17, true)), []⟩,
 (q 21 (.pick (v 17) (v 20) (.c (.bool false))))] [0, 1, 21])
 (.cond (v 21) (.seq (.reg false [(q 22 (.mov (v 0))),
 (q 23 (.mov (v 1))),
 (q 24 (.idxs (v 23) (ci 0))),
 (q 25 (.call (cf 52) [(v 22), (v 24)])),
 (q 4 (.mov (v 25)))] [4])
 .ret) .skip))
 (.seq (.seq (.reg false [(q 27 (.mov (v 1))),
 (q 28 (.call (cf 53) [(v 27)])),
 (q 26 (.mov (v 28))),
 (q 29 (.extract (v 26) 0)),
 (q 30 (.extract (v 26) 1)),
 (q 5 (.alloc true [(.bool false), (.bool false), (.bool false), (.bool false), (.bool false), (.bool false), (.bool false), (.bool false), (.bool false), (.bool false), (.bool false), (.bool false), (.bool false), (.bool false), (.bool false), (.bool false), (.bool false), (.bool false), (.bool false), (.bool false), (.bool false), (.bool false), (.bool false), (.bool false), (.bool false), (.bool false), (.bool false), (.bool false), (.bool false), (.bool false), (.bool false), (.bool false), (.bool false), (.bool false), (.bool false), (.bool false), (.bool false), (.bool false), (.bool false), (.bool false), (.bool false), (.bool false), (.bool false), (.bool false), (.bool false), (.bool false), (.bool false), (.bool false), (.bool false), (.bool false), (.bool false), (.bool false), (.bool false), (.bool false), (.bool false), (.bool false), (.bool false), (.bool false), (.bool false), (.bool false), (.bool false), (.bool false), (.bool false), (.bool false), (.bool false), (.bool false), (.bool false), (.bool false), (.bool false), (.bool false), (.bool false), (.bool false), (.bool false), (.bool false), (.bool false), (.bool false), (.bool false), (.bool false), (.bool false), (.bool false), (.bool false), (.bool false), (.bool false), (.bool false), (.bool false), (.bool false), (.bool false), (.bool false), (.bool false), (.bool false), (.bool false), (.bool false), (.bool false), (.bool false), (.bool false), (.bool false), (.bool false), (.bool false), (.bool false), (.bool false), (.bool false), (.bool false), (.bool false), (.bool false), (.bool false), (.bool false), (.bool false), (.bool false), (.bool false), (.bool false), (.bool false), (.bool false), (.bool false), (.bool false), (.bool false), (.bool false), (.bool false), (.bool false), (.bool false), (.bool false), (.bool false), (.bool false), (.bool false), (.bool false), (.bool false), (.bool false), (.bool false), (.bool false), (.bool false), (.bool false), (.bool false), (.bool false), (.bool false), (.bool false), (.bool false), (.bool false), (.bool false), (.bool false), (.bool false), (.bool false), (.bool false), (.bool false), (.bool false), (.bool false), (.bool false), (.bool false), (.bool false), (.bool false), (.bool false), (.bool false), (.bool false), (.bool false), (.bool false), (.bool false), (.bool false), (.bool false), (.bool false), (.bool false), (.bool false), (.bool false), (.bool false), (.bool false), (.bool false), (.bool false), (.bool false), (.bool false), (.bool false), (.bool false), (.bool false), (.bool false), (.bool false), (.bool false), (.bool false), (.bool false), (.bool false), (.bool false), (.bool false), (.bool false), (.bool false), (.bool false), (.bool false), (.bool false), (.bool false), (.bool false), (.bool false), (.bool false), (.bool false), (.bool false), (.bool false), (.bool false), (.bool false), (.bool false), (.bool false), (.bool false), (.bool false), (.bool false), (.bool false), (.bool false), (.bool false), (.bool false), (.bool false), (.bool false), (.bool false), (.bool false), (.bool false), (.bool false), (.bool false), (.bool false), (.bool false), (.bool false), (.bool false), (.bool false), (.bool false), (.bool false), (.bool false), (.bool false), (.bool false), (.bool false), (.bool false), (.bool false), (.bool false), (.bool false), (.bool false), (.bool false), (.bool false), (.bool false), (.bool false), (.bool false), (.bool false), (.bool false), (.bool false), (.bool false), (.bool false), (.bool false), (.bool false), (.bool false), (.bool false), (.bool false), (.bool false), (.bool false), (.bool false), (.bool false), (.bool false), (.bool false), (.bool false), (.bool false), (.bool false), (.bool false), (.bool false), (.bool false), (.bool false), (.bool false), (.bool false), (.bool false), (.bool false), (.bool false)])),
 ⟨none, .store true 256 (v 5) (v 29), none, []⟩,
 (q 6 (.mov (v 30)))] [0, 1, 5, 6])
 (.seq (.reg false [(q 31 (.mov (v 6)))] [0, 1, 5, 31])
 (.cond (v 31) (.seq (.reg false [(q 32 (.mov (v 0))),
 (q 33 (.call (cf 55) [(v 32), (v 5)])),
 (q 4 (.mov (v 33)))] [4])
 .ret) .skip)))
 (.seq (.reg false [(q 34 (.mov (v 0))),
 (q 35 (.mov (v 1))),
 (q 36 (.call (cf 57) [(v 34), (v 35)])),
 (q 4 (.mov (v 36)))] [4])
 .ret)))))
def f63 : VFn := ⟨2, 37, f63_c, [.t 4], true, []⟩
/- errors.As -/
def f64_c : VCode :=
 (.seq (.reg false [(q 4 (.mov (.c (.bool false))))] [0, 1])
 (.seq (.seq (.reg false [(q 8 (.mov (v 0))),
 (q 9 (.isnil .iface false (v 8)))] [0, 1, 9])
 (.cond (v 9) (.seq (.reg false [(q 4 (.mov (.c (.bool false))))] [4])
 .ret) .skip))
 (.seq (.seq (.reg false [(q 10 (.mov (v 1))),
 (q 11 (.isnil .iface false (v 10)))] [0, 1, 11])
 (.cond (v 11) (.reg false [(q 12 (.mkiface 9 (.c (.str ⟨#[101, 114, 114, 111, 114, 115, 58, 32, 116, 97, 114, 103, 101, 116, 32, 99, 97, 110, 110, 111, 116, 32, 98, 101, 32, 110, 105, 108]⟩)))),
 ⟨none, .panic (v 12), none, []⟩] [0, 1]) .skip))
 (.seq (.reg false [(q 13 (.mov (v 1))),
 (q 14 (.call (cf 80) [(v 13)])),
 (q 5 (.alloc true [.nilp, .nilp, (.int .u64 0)])),
 ⟨none, .store true 3 (v 5) (v 14), none, []⟩] [0, 1, 5])
 (.seq (.reg false [(q 15 (.load (some 3) (v 5))),
 (q 16 (.call (cf 81) [(v 15)])),
 (q 6 (.mov (v 16)))] [0, 1, 5, 6])
 (.seq (.seq .stuck
 (.cond (v 23) (.reg false [(q 24 (.mkiface 9 (.c (.str ⟨#[101, 114, 114, 111, 114, 115, 58, 32, 116, 97, 114, 103, 101, 116, 32, 109, 117, 115, 116, 32, 98, 101, 32, 97, 32, 110, 111, 110, 45, 110, 105, 108, 32, 112, 111, 105, 110, 116, 101, 114]⟩)))),
 ⟨none, .panic (v 24), none, []⟩] [0, 1, 5, 6]) .skip))
 (.seq .stuck
 (.seq (.seq .stuck
 (.cond (v 35) (.reg false [(q 36 (.mkiface 9 (.c (.str ⟨#[101, 114, 114, 111, 114, 115, 58, 32, 42, 116, 97, 114, 103, 101, 116, 32, 109, 117, 115, 116, 32, 98, 101, 32, 105, 110, 116, 101, 114, 102, 97, 99, 101, 32, 111, 114, 32, 105, 109, 112, 108, 101, 109, 101, 110, 116, 32, 101, 114, 114, 111, 114]⟩)))),
 ⟨none, .panic (v 36), none, []⟩] [0, 1, 5, 7]) .skip))
 (.seq (.reg false [(q 37 (.mov (v 0))),
 (q 38 (.mov (v 1))),
 (q 39 (.load (some 3) (v 5))),
 (q 40 (.mov (v 7))),
 (q 41 (.call (cf 83) [(v 37), (v 38), (v 39), (v 40)])),
 (q 4 (.mov (v 41)))] [4])
 .ret)))))))))
def f64 : VFn := ⟨2, 42, f64_c, [.t 4], false, [1]⟩
/- slices.Max[[]uint32,uint32] -/
def f65_l0 : VCode :=
 (.seq (.seq (.reg false [(q 12 (.mov (v 4))),
 (q 13 (.mov (v 0))),
 (q 14 (.len (v 13))),
 (q 15 (.bin .lss (v 12) (v 14)))] [0, 3, 4, 15])
 (.cond (v 15) .skip (.exit 0)))
 (.seq (.block 1 (.reg false [(q 18 (.mov (v 3))),
 (q 19 (.mov (v 0))),
 (q 20 (.mov (v 4))),
 (q 21 (.iaddr 1 (v 19) (v 20))),
 (q 22 (.load none (v 21))),
 (q 23 (.max [(v 18), (v 22)])),
 (q 3 (.mov (v 23)))] [0, 3, 4]))
 (.reg false [(q 16 (.mov (v 4))),
 (q 17 (.bin .add (v 16) (ci 1))),
 (q 4 (.mov (v 17)))] [0, 3, 4])))
def f65_c : VCode :=
 (.seq (.reg false [(q 2 (.mov (.c (.int .u32 0))))] [0])
 (.seq (.seq (.reg false [(q 5 (.mov (v 0))),
 (q 6 (.len (v 5))),
 (q 7 (.bin .lss (v 6) (ci 1)))] [0, 7])
 (.cond (v 7) (.reg false [(q 8 (.mkiface 9 (.c (.str ⟨#[115, 108, 105, 99, 101, 115, 46, 77, 97, 120, 58, 32, 101, 109, 112, 116, 121, 32, 108, 105, 115, 116]⟩)))),
 ⟨none, .panic (v 8), none, []⟩] [0]) .skip))
 (.seq (.reg false [(q 9 (.mov (v 0))),
 (q 10 (.iaddr 1 (v 9) (ci 0))),
 (q 11 (.load none (v 10))),
 (q 3 (.mov (v 11)))] [0, 3])
 (.seq (.seq (.reg false [(q 4 (.mov (ci 1)))] [0, 3, 4])
 (.block 0 (.loop [0, 3, 4] f65_l0)))
 (.seq (.reg false [(q 24 (.mov (v 3))),
 (q 2 (.mov (v 24)))] [2])
 .ret)))))
def f65 : VFn := ⟨1, 25, f65_c, [.t 2], true, []⟩
/- caliper/nat.compare -/
def f66_l0 : VCode :=
 (.seq (.seq (.reg false [(q 19 (.mov (v 6))),
 (q 20 (.bin .geq (v 19) (ci 0)))] [0, 1, 6, 20])
 (.cond (v 20) .skip (.exit 0)))
 (.seq (.block 1 (.seq (.reg true [(q 23 (.mov (v 0))),
 (q 24 (.mov (v 6))),
 (q 25 (.iaddr 1 (v 23) (v 24))),
 (q 26 (.load none (v 25))),
 (q 27 (.mov (v 1))),
 (q 28 (.mov (v 6))),
 (q 29 (.iaddr 1 (v 27) (v 28))),
 (q 30 (.load none (v 29))),
 (q 31 (.call (cf 84) [(v 26), (v 30)])),
 (q 7 (.mov (v 31)))] [0, 1, 6, 7])
 (.seq (.reg false [(q 32 (.mov (v 7))),
 (q 33 (.bin .neq (v 32) (ci 0)))] [0, 1, 6, 7, 33])
 (.cond (v 33) (.seq (.reg false [(q 34 (.mov (v 7))),
 (q 4 (.mov (v 34)))] [4])
 .ret) .skip))))
 (.reg false [(q 21 (.mov (v 6))),
 (q 22 (.bin .sub (v 21) (ci 1))),
 (q 6 (.mov (v 22)))] [0, 1, 6])))
def f66_c : VCode :=
 (.seq (.reg false [(q 4 (.mov (ci 0)))] [0, 1])
 (.seq (.seq (.reg false [(q 8 (.mov (v 0))),
 (q 9 (.len (v 8))),
 (q 10 (.mov (v 1))),
 (q 11 (.len (v 10))),
 (q 12 (.call (cf 29) [(v 9), (v 11)])),
 (q 5 (.mov (v 12)))] [0, 1, 5])
 (.seq (.reg false [(q 13 (.mov (v 5))),
 (q 14 (.bin .neq (v 13) (ci 0)))] [0, 1, 5, 14])
 (.cond (v 14) (.seq (.reg false [(q 15 (.mov (v 5))),
 (q 4 (.mov (v 15)))] [4])
 .ret) .skip)))
 (.seq (.seq (.reg false [(q 16 (.mov (v 0))),
 (q 17 (.len (v 16))),
 (q 18 (.bin .sub (v 17) (ci 1))),
 (q 6 (.mov (v 18)))] [0, 1, 6])
 (.block 0 (.loop [0, 1, 6] f66_l0)))
 (.seq (.reg false [(q 4 (.mov (ci 0)))] [4])
 .ret))))
def f66 : VFn := ⟨2, 35, f66_c, [.t 4], true, []⟩
/- slices.Clone[[]uint32,uint32] -/
def f67_c : VCode :=
 (.seq (.reg false [(q 2 (.nilrow 1))] [0])
 (.seq (.seq (.reg false [(q 3 (.mov (v 0))),
 (q 4 (.isnil .slice false (v 3)))] [0, 4])
 (.cond (v 4) (.seq (.reg false [(q 2 (.nilrow 1))] [2])
 .ret) .skip))
 (.seq (.reg false [(q 5 (.buildRow false 1 0 [(.int .u32 0)] [])),
 (q 6 (.mov (v 0))),
 (q 7 (.append 1 4 (v 5) (v 6))),
 (q 2 (.mov (v 7)))] [2])
 .ret)))
def f67 : VFn := ⟨1, 8, f67_c, [.t 2], true, []⟩
/- caliper/nat.small -/
def f68_l0 : VCode :=
 (.seq (.seq (.reg false [(q 15 (.mov (v 8))),
 (q 16 (.bin .geq (v 15) (ci 0)))] [0, 1, 6, 7, 8, 16])
 (.cond (v 16) .skip (.exit 0)))
 (.seq (.block 1 (.seq (.reg false [(q 19 (.mov (v 7))),
 (q 20 (.bin .mul (v 19) (.c (.int .u64 1000000000)))),
 (q 21 (.mov (v 0))),
 (q 22 (.mov (v 8))),
 (q 23 (.iaddr 1 (v 21) (v 22))),
 (q 24 (.load none (v 23))),
 (q 25 (.conv (.toInt .u64) (v 24))),
 (q 26 (.bin .add (v 20) (v 25))),
 (q 7 (.mov (v 26)))] [0, 1, 6, 7, 8])
 (.reg true [(q 27 (.mov (v 6))),
 (q 28 (.mov (v 8))),
 (q 29 (.mov (v 7))),
 (q 30 (.mov (v 1))),
 (q 31 (.conv (.toInt .u64) (v 30))),
 (q 32 (.bin .quo (v 29) (v 31))),
 (q 33 (.conv (.toInt .u32) (v 32))),
 (q 34 (.mov (v 7))),
 (q 35 (.mov (v 1))),
 (q 36 (.conv (.toInt .u64) (v 35))),
 (q 37 (.bin .rem (v 34) (v 36))),
 (q 38 (.iaddr 1 (v 27) (v 28))),
 ⟨none, .store false 1 (v 38) (v 33), none, []⟩,
 (q 7 (.mov (v 37)))] [0, 1, 6, 7, 8])))
 (.reg false [(q 17 (.mov (v 8))),
 (q 18 (.bin .sub (v 17) (ci 1))),
 (q 8 (.mov (v 18)))] [0, 1, 6, 7, 8])))
def f68_c : VCode :=
 (.seq (.reg false [(q 4 (.nilrow 1)),
 (q 5 (.nilrow 1))] [0, 1])
 (.seq (.reg false [(q 9 (.mov (v 0))),
 (q 10 (.len (v 9))),
 (q 11 (.mkslice false 1 4 [(.int .u32 0)] (v 10) (v 10))),
 (q 6 (.mov (v 11)))] [0, 1, 6])
 (.seq (.reg false [(q 7 (.mov (.c (.int .u64 0))))] [0, 1, 6, 7])
 (.seq (.seq (.reg false [(q 12 (.mov (v 0))),
 (q 13 (.len (v 12))),
 (q 14 (.bin .sub (v 13) (ci 1))),
 (q 8 (.mov (v 14)))] [0, 1, 6, 7, 8])
 (.block 0 (.loop [0, 1, 6, 7, 8] f68_l0)))
 (.seq (.reg false [(q 39 (.mov (v 6))),
 (q 40 (.call (cf 38) [(v 39)])),
 (q 41 (.mov (v 7))),
 (q 42 (.conv (.toInt .u32) (v 41))),
 (q 43 (.buildRow false 1 1 [(.int .u32 0)] [(0, (v 42))])),
 (q 44 (.call (cf 38) [(v 43)])),
 (q 4 (.mov (v 40))),
 (q 5 (.mov (v 44)))] [4, 5])
 .ret)))))
def f68 : VFn := ⟨2, 45, f68_c, [.t 4, .t 5], true, []⟩
/- caliper/nat.scaled -/
def f69_l0 : VCode :=
 (.seq (.reg false [(q 17 (.bin .lss (v 16) (v 15)))] [0, 1, 5, 6, 14, 15, 16, 17])
 (.seq (.cond (v 17) .skip (.exit 0))
 (.seq (.block 1 (.seq (.reg false [(q 18 (.mov (v 16))),
 (q 19 (.iaddr 1 (v 14) (v 16))),
 (q 20 (.load none (v 19))),
 (q 7 (.mov (v 18))),
 (q 8 (.mov (v 20)))] [0, 1, 5, 6, 7, 8, 14, 15, 16])
 (.seq (.reg false [(q 21 (.mov (v 8))),
 (q 22 (.conv (.toInt .u64) (v 21))),
 (q 23 (.mov (v 1))),
 (q 24 (.conv (.toInt .u64) (v 23))),
 (q 25 (.bin .mul (v 22) (v 24))),
 (q 26 (.mov (v 6))),
 (q 27 (.bin .add (v 25) (v 26))),
 (q 9 (.mov (v 27)))] [0, 1, 5, 7, 9, 14, 15, 16])
 (.reg false [(q 28 (.mov (v 5))),
 (q 29 (.mov (v 7))),
 (q 30 (.mov (v 9))),
 (q 31 (.bin .rem (v 30) (.c (.int .u64 1000000000)))),
 (q 32 (.conv (.toInt .u32) (v 31))),
 (q 33 (.mov (v 9))),
 (q 34 (.bin .quo (v 33) (.c (.int .u64 1000000000)))),
 (q 35 (.iaddr 1 (v 28) (v 29))),
 ⟨none, .store false 1 (v 35) (v 32), none, []⟩,
 (q 6 (.mov (v 34)))] [0, 1, 5, 6, 14, 15, 16]))))
 (.reg false [(q 36 (.bin .add (v 16) (ci 1))),
 (q 16 (.mov (v 36)))] [0, 1, 5, 6, 14, 15, 16]))))
def f69_c : VCode :=
 (.seq (.reg false [(q 4 (.nilrow 1))] [0, 1])
 (.seq (.reg false [(q 10 (.mov (v 0))),
 (q 11 (.len (v 10))),
 (q 12 (.bin .add (v 11) (ci 1))),
 (q 13 (.mkslice false 1 4 [(.int .u32 0)] (v 12) (v 12))),
 (q 5 (.mov (v 13)))] [0, 1, 5])
 (.seq (.reg false [(q 6 (.mov (.c (.int .u64 0))))] [0, 1, 5, 6])
 (.seq (.seq (.reg false [(q 14 (.mov (v 0))),
 (q 15 (.len (v 14))),
 (q 16 (.mov (ci 0)))] [0, 1, 5, 6, 14, 15, 16])
 (.block 0 (.loop [0, 1, 5, 6, 14, 15, 16] f69_l0)))
 (.seq (.reg false [(q 37 (.mov (v 5))),
 (q 38 (.mov (v 0))),
 (q 39 (.len (v 38))),
 (q 40 (.mov (v 6))),
 (q 41 (.conv (.toInt .u32) (v 40))),
 (q 42 (.iaddr 1 (v 37) (v 39))),
 ⟨none, .store false 1 (v 42) (v 41), none, []⟩] [5])
 (.seq (.reg false [(q 43 (.mov (v 5))),
 (q 4 (.mov (v 43)))] [4])
 .ret))))))
def f69 : VFn := ⟨2, 44, f69_c, [.t 4], true, []⟩
/- caliper/nat.guess -/
def f70_l0 : VCode :=
 (.seq (.seq (.reg false [(q 56 (.mov (v 0))),
 (q 57 (.mov (v 1))),
 (q 58 (.mov (v 2))),
 (q 59 (.mov (v 11))),
 (q 60 (.conv (.toInt .u32) (v 59))),
 (q 61 (.call (cf 88) [(v 56), (v 57), (v 58), (v 60)])),
 (q 62 (.un .not (v 61)))] [0, 1, 2, 11, 62])
 (.cond (v 62) .skip (.exit 0)))
 (.block 1 (.reg false [(q 63 (.mov (v 11))),
 (q 64 (.bin .sub (v 63) (.c (.int .u64 1)))),
 (q 11 (.mov (v 64)))] [0, 1, 2, 11])))
def f70_c : VCode :=
 (.seq (.reg false [(q 6 (.mov (.c (.int .u32 0))))] [0, 1, 2])
 (.seq (.reg false [(q 13 (.mov (v 1))),
 (q 14 (.len (v 13))),
 (q 7 (.mov (v 14)))] [0, 1, 2, 7])
 (.seq (.reg false [(q 16 (.mov (v 0))),
 (q 17 (.mov (v 2))),
 (q 18 (.mov (v 7))),
 (q 19 (.bin .add (v 17) (v 18))),
 (q 20 (.iaddr 1 (v 16) (v 19))),
 (q 21 (.load none (v 20))),
 (q 22 (.conv (.toInt .u64) (v 21))),
 (q 23 (.call (cf 85) [(v 22), (.c (.int .u64 1000000000))])),
 (q 15 (.mov (v 23))),
 (q 24 (.extract (v 15) 0)),
 (q 25 (.extract (v 15) 1)),
 (q 8 (.mov (v 24))),
 (q 9 (.mov (v 25)))] [0, 1, 2, 7, 8, 9])
 (.seq (.reg false [(q 27 (.mov (v 9))),
 (q 28 (.mov (v 0))),
 (q 29 (.mov (v 2))),
 (q 30 (.mov (v 7))),
 (q 31 (.bin .add (v 29) (v 30))),
 (q 32 (.bin .sub (v 31) (ci 1))),
 (q 33 (.iaddr 1 (v 28) (v 32))),
 (q 34 (.load none (v 33))),
 (q 35 (.conv (.toInt .u64) (v 34))),
 (q 36 (.call (cf 86) [(v 27), (v 35), (.c (.int .u64 0))])),
 (q 26 (.mov (v 36))),
 (q 37 (.extract (v 26) 0)),
 (q 38 (.extract (v 26) 1)),
 (q 9 (.mov (v 37))),
 (q 10 (.mov (v 38)))] [0, 1, 2, 7, 8, 9, 10])
 (.seq (.reg false [(q 39 (.mov (v 8))),
 (q 40 (.mov (v 10))),
 (q 41 (.bin .add (v 39) (v 40))),
 (q 8 (.mov (v 41)))] [0, 1, 2, 7, 8, 9])
 (.seq (.reg false [(q 43 (.mov (v 8))),
 (q 44 (.mov (v 9))),
 (q 45 (.mov (v 1))),
 (q 46 (.mov (v 7))),
 (q 47 (.bin .sub (v 46) (ci 1))),
 (q 48 (.iaddr 1 (v 45) (v 47))),
 (q 49 (.load none (v 48))),
 (q 50 (.conv (.toInt .u64) (v 49))),
 (q 51 (.call (cf 87) [(v 43), (v 44), (v 50)])),
 (q 42 (.mov (v 51))),
 (q 52 (.extract (v 42) 0)),
 (q 53 (.extract (v 42) 1)),
 (q 11 (.mov (v 52))),
 (q 12 (.mov (v 53)))] [0, 1, 2, 11])
 (.seq (.seq (.reg false [(q 54 (.mov (v 11))),
 (q 55 (.bin .geq (v 54) (.c (.int .u64 1000000000))))] [0, 1, 2, 11, 55])
 (.cond (v 55) (.reg false [(q 11 (.mov (.c (.int .u64 999999999))))] [0, 1, 2, 11]) .skip))
 (.seq (.block 0 (.loop [0, 1, 2, 11] f70_l0))
 (.seq (.reg false [(q 65 (.mov (v 11))),
 (q 66 (.conv (.toInt .u32) (v 65))),
 (q 6 (.mov (v 66)))] [6])
 .ret)))))))))
def f70 : VFn := ⟨3, 67, f70_c, [.t 6], false, [0]⟩
/- caliper/caliperref02.compare -/
def f71_l0 : VCode :=
 (.seq (.seq (.reg false [(q 19 (.mov (v 5))),
 (q 20 (.bin .geq (v 19) (ci 0)))] [0, 1, 5, 20])
 (.cond (v 20) .skip (.exit 0)))
 (.seq (.block 1 (.seq (.seq (.reg true [(q 23 (.mov (v 0))),
 (q 24 (.mov (v 5))),
 (q 25 (.iaddr 1 (v 23) (v 24))),
 (q 26 (.load none (v 25))),
 (q 27 (.mov (v 1))),
 (q 28 (.mov (v 5))),
 (q 29 (.iaddr 1 (v 27) (v 28))),
 (q 30 (.load none (v 29))),
 (q 31 (.bin .lss (v 26) (v 30)))] [0, 1, 5, 31])
 (.cond (v 31) (.seq (.reg false [(q 4 (.mov (ci (-1))))] [4])
 .ret) .skip))
 (.seq (.reg true [(q 32 (.mov (v 0))),
 (q 33 (.mov (v 5))),
 (q 34 (.iaddr 1 (v 32) (v 33))),
 (q 35 (.load none (v 34))),
 (q 36 (.mov (v 1))),
 (q 37 (.mov (v 5))),
 (q 38 (.iaddr 1 (v 36) (v 37))),
 (q 39 (.load none (v 38))),
 (q 40 (.bin .gtr (v 35) (v 39)))] [0, 1, 5, 40])
 (.cond (v 40) (.seq (.reg false [(q 4 (.mov (ci 1)))] [4])
 .ret) .skip))))
 (.reg false [(q 21 (.mov (v 5))),
 (q 22 (.bin .sub (v 21) (ci 1))),
 (q 5 (.mov (v 22)))] [0, 1, 5])))
def f71_c : VCode :=
 (.seq (.reg false [(q 4 (.mov (ci 0)))] [0, 1])
 (.seq (.seq (.reg false [(q 6 (.mov (v 0))),
 (q 7 (.len (v 6))),
 (q 8 (.mov (v 1))),
 (q 9 (.len (v 8))),
 (q 10 (.bin .neq (v 7) (v 9)))] [0, 1, 10])
 (.cond (v 10) (.seq (.seq (.reg false [(q 11 (.mov (v 0))),
 (q 12 (.len (v 11))),
 (q 13 (.mov (v 1))),
 (q 14 (.len (v 13))),
 (q 15 (.bin .lss (v 12) (v 14)))] [15])
 (.cond (v 15) (.seq (.reg false [(q 4 (.mov (ci (-1))))] [4])
 .ret) .skip))
 (.seq (.reg false [(q 4 (.mov (ci 1)))] [4])
 .ret)) .skip))
 (.seq (.seq (.reg false [(q 16 (.mov (v 0))),
 (q 17 (.len (v 16))),
 (q 18 (.bin .sub (v 17) (ci 1))),
 (q 5 (.mov (v 18)))] [0, 1, 5])
 (.block 0 (.loop [0, 1, 5] f71_l0)))
 (.seq (.reg false [(q 4 (.mov (ci 0)))] [4])
 .ret))))
def f71 : VFn := ⟨2, 41, f71_c, [.t 4], true, []⟩
/- caliper/caliperref02.sub -/
def f72_l0 : VCode :=
 (.seq (.seq (.reg false [(q 9 (.mov (v 7))),
 (q 10 (.mov (v 0))),
 (q 11 (.len (v 10))),
 (q 12 (.bin .lss (v 9) (v 11)))] [0, 1, 5, 6, 7, 12])
 (.cond (v 12) .skip (.exit 0)))
 (.seq (.block 1 (.seq (.reg false [(q 15 (.mov (v 6))),
 (q 8 (.mov (v 15)))] [0, 1, 5, 7, 8])
 (.seq (.seq (.reg false [(q 16 (.mov (v 7))),
 (q 17 (.mov (v 1))),
 (q 18 (.len (v 17))),
 (q 19 (.bin .lss (v 16) (v 18)))] [0, 1, 5, 7, 8, 19])
 (.cond (v 19) (.reg false [(q 20 (.mov (v 8))),
 (q 21 (.mov (v 1))),
 (q 22 (.mov (v 7))),
 (q 23 (.iaddr 1 (v 21) (v 22))),
 (q 24 (.load none (v 23))),
 (q 25 (.bin .add (v 20) (v 24))),
 (q 8 (.mov (v 25)))] [0, 1, 5, 7, 8]) .skip))
 (.seq (.reg false [(q 26 (.mov (v 0))),
 (q 27 (.mov (v 7))),
 (q 28 (.iaddr 1 (v 26) (v 27))),
 (q 29 (.load none (v 28))),
 (q 30 (.mov (v 8))),
 (q 31 (.bin .geq (v 29) (v 30)))] [0, 1, 5, 7, 8, 31])
 (.cond (v 31) (.seq (.reg false [(q 32 (.mov (v 5))),
 (q 33 (.mov (v 0))),
 (q 34 (.mov (v 7))),
 (q 35 (.iaddr 1 (v 33) (v 34))),
 (q 36 (.load none (v 35))),
 (q 37 (.mov (v 8))),
 (q 38 (.bin .sub (v 36) (v 37))),
 (q 39 (.buildRow false 1 1 [(.int .u32 0)] [(0, (v 38))])),
 (q 40 (.append 1 4 (v 32) (v 39))),
 (q 5 (.mov (v 40)))] [0, 1, 5, 7])
 (.reg false [(q 6 (.mov (.c (.int .u32 0))))] [0, 1, 5, 6, 7])) (.seq (.reg false [(q 41 (.mov (v 5))),
 (q 42 (.mov (v 0))),
 (q 43 (.mov (v 7))),
 (q 44 (.iaddr 1 (v 42) (v 43))),
 (q 45 (.load none (v 44))),
 (q 46 (.bin .add (v 45) (.c (.int .u32 1000000000)))),
 (q 47 (.mov (v 8))),
 (q 48 (.bin .sub (v 46) (v 47))),
 (q 49 (.buildRow false 1 1 [(.int .u32 0)] [(0, (v 48))])),
 (q 50 (.append 1 4 (v 41) (v 49))),
 (q 5 (.mov (v 50)))] [0, 1, 5, 7])
 (.reg false [(q 6 (.mov (.c (.int .u32 1))))] [0, 1, 5, 6, 7])))))))
 (.reg false [(q 13 (.mov (v 7))),
 (q 14 (.bin .add (v 13) (ci 1))),
 (q 7 (.mov (v 14)))] [0, 1, 5, 6, 7])))
def f72_c : VCode :=
 (.seq (.reg false [(q 4 (.nilrow 1))] [0, 1])
 (.seq (.reg false [(q 5 (.nilrow 1))] [0, 1, 5])
 (.seq (.reg false [(q 6 (.mov (.c (.int .u32 0))))] [0, 1, 5, 6])
 (.seq (.seq (.reg false [(q 7 (.mov (ci 0)))] [0, 1, 5, 6, 7])
 (.block 0 (.loop [0, 1, 5, 6, 7] f72_l0)))
 (.seq (.reg false [(q 51 (.mov (v 5))),
 (q 52 (.call (cf 45) [(v 51)])),
 (q 4 (.mov (v 52)))] [4])
 .ret)))))
def f72 : VFn := ⟨2, 53, f72_c, [.t 4], true, []⟩
/- (*strings.asciiSet).contains -/
def f73_c : VCode :=
 (.seq (.reg false [(q 4 (.mov (.c (.bool false))))] [0, 1])
 (.seq (.reg false [(q 5 (.mov (v 0))),
 (q 6 (.mov (v 1))),
 (q 7 (.nilck (v 5))),
 (q 8 (.iaddra 256 1 (v 7) (v 6))),
 (q 9 (.load none (v 8))),
 (q 4 (.mov (v 9)))] [4])
 .ret))
def f73 : VFn := ⟨2, 10, f73_c, [.t 4], true, []⟩
/- unicode/utf8.DecodeRuneInString -/
def f74_c : VCode :=
 (.seq (.reg false [(q 2 (.mov (.c (.int .i32 0)))),
 (q 3 (.mov (ci 0)))] [0])
 (.seq (.seq (.reg false [(q 4 (.mov (v 0))),
 (q 5 (.bin .neq (v 4) (.c (.str ⟨#[]⟩)))),
 (q 6 (.mov (v 5))),
 ⟨(some 7), .mov (v 0), (some (6, true)), []⟩,
 ⟨(some 8), .idxs (v 7) (ci 0), (some (6, true)), []⟩,
 ⟨(some 9), .bin .lss (v 8) (.c (.int .u8 128)), (some (6, true)), []⟩,
 (q 10 (.pick (v 6) (v 9) (.c (.bool false))))] [0, 10])
 (.cond (v 10) (.seq (.reg false [(q 11 (.mov (v 0))),
 (q 12 (.idxs (v 11) (ci 0))),
 (q 13 (.conv (.toInt .i32) (v 12))),
 (q 2 (.mov (v 13))),
 (q 3 (.mov (ci 1)))] [2, 3])
 .ret) (.reg false [(q 15 (.mov (v 0))),
 (q 16 (.call (cf 89) [(v 15)])),
 (q 14 (.mov (v 16))),
 (q 17 (.extract (v 14) 0)),
 (q 18 (.extract (v 14) 1)),
 (q 2 (.mov (v 17))),
 (q 3 (.mov (v 18)))] [2, 3])))
 .ret))
def f74 : VFn := ⟨1, 19, f74_c, [.t 2, .t 3], true, []⟩
/- strings.ContainsRune -/
def f75_c : VCode :=
 (.seq (.reg false [(q 4 (.mov (.c (.bool false))))] [0, 1])
 (.seq (.reg false [(q 5 (.mov (v 0))),
 (q 6 (.mov (v 1))),
 (q 7 (.call (cf 90) [(v 5), (v 6)])),
 (q 8 (.bin .geq (v 7) (ci 0))),
 (q 4 (.mov (v 8)))] [4])
 .ret))
def f75 : VFn := ⟨2, 9, f75_c, [.t 4], true, []⟩
/- unicode/utf8.DecodeLastRuneInString -/
def f76_l0 : VCode :=
 (.seq (.seq (.reg false [(q 25 (.mov (v 5))),
 (q 26 (.mov (v 6))),
 (q 27 (.bin .geq (v 25) (v 26)))] [0, 4, 5, 6, 27])
 (.cond (v 27) .skip (.exit 0)))
 (.seq (.block 1 (.seq (.reg false [(q 30 (.mov (v 0))),
 (q 31 (.mov (v 5))),
 (q 32 (.idxs (v 30) (v 31))),
 (q 33 (.call (cf 91) [(v 32)]))] [0, 4, 5, 6, 33])
 (.cond (v 33) (.exit 0) .skip)))
 (.reg false [(q 28 (.mov (v 5))),
 (q 29 (.bin .sub (v 28) (ci 1))),
 (q 5 (.mov (v 29)))] [0, 4, 5, 6])))
def f76_c : VCode :=
 (.seq (.reg false [(q 2 (.mov (.c (.int .i32 0)))),
 (q 3 (.mov (ci 0)))] [0])
 (.seq (.reg false [(q 7 (.mov (v 0))),
 (q 8 (.lens (v 7))),
 (q 4 (.mov (v 8)))] [0, 4])
 (.seq (.seq (.reg false [(q 9 (.mov (v 4))),
 (q 10 (.bin .eql (v 9) (ci 0)))] [0, 4, 10])
 (.cond (v 10) (.seq (.reg false [(q 2 (.mov (.c (.int .i32 65533)))),
 (q 3 (.mov (ci 0)))] [2, 3])
 .ret) .skip))
 (.seq (.reg false [(q 11 (.mov (v 4))),
 (q 12 (.bin .sub (v 11) (ci 1))),
 (q 5 (.mov (v 12)))] [0, 4, 5])
 (.seq (.reg false [(q 13 (.mov (v 0))),
 (q 14 (.mov (v 5))),
 (q 15 (.idxs (v 13) (v 14))),
 (q 16 (.conv (.toInt .i32) (v 15))),
 (q 2 (.mov (v 16)))] [0, 2, 4, 5])
 (.seq (.seq (.reg false [(q 17 (.mov (v 2))),
 (q 18 (.bin .lss (v 17) (.c (.int .i32 128))))] [0, 2, 4, 5, 18])
 (.cond (v 18) (.seq (.reg false [(q 19 (.mov (v 2))),
 (q 2 (.mov (v 19))),
 (q 3 (.mov (ci 1)))] [2, 3])
 .ret) .skip))
 (.seq (.reg false [(q 20 (.mov (v 4))),
 (q 21 (.bin .sub (v 20) (ci 4))),
 (q 22 (.max [(v 21), (ci 0)])),
 (q 6 (.mov (v 22)))] [0, 4, 5, 6])
 (.seq (.seq (.reg false [(q 23 (.mov (v 5))),
 (q 24 (.bin .sub (v 23) (ci 1))),
 (q 5 (.mov (v 24)))] [0, 4, 5, 6])
 (.block 0 (.loop [0, 4, 5, 6] f76_l0)))
 (.seq (.seq (.reg false [(q 34 (.mov (v 5))),
 (q 35 (.bin .lss (v 34) (ci 0)))] [0, 4, 5, 35])
 (.cond (v 35) (.reg false [(q 5 (.mov (ci 0)))] [0, 4, 5]) .skip))
 (.seq (.reg false [(q 37 (.mov (v 0))),
 (q 38 (.mov (v 5))),
 (q 39 (.mov (v 4))),
 (q 40 (.slstr (v 37) (some (v 38)) (some (v 39)))),
 (q 41 (.call (cf 74) [(v 40)])),
 (q 36 (.mov (v 41))),
 (q 42 (.extract (v 36) 0)),
 (q 43 (.extract (v 36) 1)),
 (q 2 (.mov (v 42))),
 (q 3 (.mov (v 43)))] [2, 3, 4, 5])
 (.seq (.seq (.reg false [(q 44 (.mov (v 5))),
 (q 45 (.mov (v 3))),
 (q 46 (.bin .add (v 44) (v 45))),
 (q 47 (.mov (v 4))),
 (q 48 (.bin .neq (v 46) (v 47)))] [2, 3, 48])
 (.cond (v 48) (.seq (.reg false [(q 2 (.mov (.c (.int .i32 65533)))),
 (q 3 (.mov (ci 1)))] [2, 3])
 .ret) .skip))
 (.seq (.reg false [(q 49 (.mov (v 2))),
 (q 50 (.mov (v 3))),
 (q 2 (.mov (v 49))),
 (q 3 (.mov (v 50)))] [2, 3])
 .ret))))))))))))
def f76 : VFn := ⟨1, 51, f76_c, [.t 2, .t 3], true, []⟩
/- internal/strconv.FormatInt -/
def f77_c : VCode :=
 (.seq (.reg false [(q 4 (.mov (.c (.str ⟨#[]⟩))))] [0, 1])
 (.seq (.seq (.reg false [(q 10 (.mov (v 1))),
 (q 11 (.bin .eql (v 10) (ci 10)))] [0, 1, 11])
 (.cond (v 11) (.seq (.seq (.reg false [(q 12 (.mov (v 0))),
 (q 13 (.bin .leq (ci 0) (v 12))),
 (q 14 (.mov (v 13))),
 ⟨(some 15), .mov (v 0), (some (14, true)), []⟩,
 ⟨(some 16), .bin .lss (v 15) (ci 100), (some (14, true)), []⟩,
 (q 17 (.pick (v 14) (v 16) (.c (.bool false))))] [0, 17])
 (.cond (v 17) (.seq (.reg false [(q 18 (.mov (v 0))),
 (q 19 (.call (cf 92) [(v 18)])),
 (q 4 (.mov (v 19)))] [4])
 .ret) .skip))
 (.seq (.reg false [(q 5 (.alloc true [(.int .u8 0), (.int .u8 0), (.int .u8 0), (.int .u8 0), (.int .u8 0), (.int .u8 0), (.int .u8 0), (.int .u8 0), (.int .u8 0), (.int .u8 0), (.int .u8 0), (.int .u8 0), (.int .u8 0), (.int .u8 0), (.int .u8 0), (.int .u8 0), (.int .u8 0), (.int .u8 0), (.int .u8 0), (.int .u8 0), (.int .u8 0), (.int .u8 0), (.int .u8 0), (.int .u8 0)]))] [0, 5])
 (.seq (.reg false [(q 20 (.mov (v 0))),
 (q 21 (.conv (.toInt .u64) (v 20))),
 (q 6 (.mov (v 21)))] [0, 5, 6])
 (.seq (.seq (.reg false [(q 22 (.mov (v 0))),
 (q 23 (.bin .lss (v 22) (ci 0)))] [0, 5, 6, 23])
 (.cond (v 23) (.reg false [(q 24 (.mov (v 6))),
 (q 25 (.un .neg (v 24))),
 (q 6 (.mov (v 25)))] [0, 5, 6]) .skip))
 (.seq (.reg false [(q 26 (.mov (v 6))),
 (q 27 (.call (cf 93) [(v 26)])),
 (q 7 (.mov (v 27)))] [0, 5, 6, 7])
 (.seq .stuck
 (.seq (.seq (.reg false [(q 33 (.mov (v 0))),
 (q 34 (.bin .lss (v 33) (ci 0)))] [5, 7, 34])
 (.cond (v 34) (.seq (.reg false [(q 35 (.iaddra 24 1 (v 5) (ci 0))),
 ⟨none, .store false 1 (v 35) (.c (.int .u8 45)), none, []⟩] [5, 7])
 (.seq .stuck
 .ret)) .skip))
 (.seq .stuck
 .ret)))))))) .skip))
 (.seq (.reg false [(q 45 (.mov (v 0))),
 (q 46 (.conv (.toInt .u64) (v 45))),
 (q 47 (.mov (v 1))),
 (q 48 (.mov (v 0))),
 (q 49 (.bin .lss (v 48) (ci 0))),
 (q 50 (.call (cf 95) [(.c (.sl 0 [] true)), (v 46), (v 47), (v 49), (.c (.bool false))])),
 (q 44 (.mov (v 50))),
 (q 51 (.extract (v 44) 0)),
 (q 52 (.extract (v 44) 1)),
 (q 8 (.mov (v 51))),
 (q 9 (.mov (v 52)))] [9])
 (.seq (.reg false [(q 53 (.mov (v 9))),
 (q 4 (.mov (v 53)))] [4])
 .ret))))
def f77 : VFn := ⟨2, 54, f77_c, [.t 4], true, []⟩
/- internal/stringslite.CutPrefix -/
def f78_c : VCode :=
 (.seq (.reg false [(q 4 (.mov (.c (.str ⟨#[]⟩)))),
 (q 5 (.mov (.c (.bool false))))] [0, 1])
 (.seq (.seq (.reg false [(q 6 (.mov (v 0))),
 (q 7 (.mov (v 1))),
 (q 8 (.call (cf 79) [(v 6), (v 7)])),
 (q 9 (.un .not (v 8)))] [0, 1, 9])
 (.cond (v 9) (.seq (.reg false [(q 10 (.mov (v 0))),
 (q 4 (.mov (v 10))),
 (q 5 (.mov (.c (.bool false))))] [4, 5])
 .ret) .skip))
 (.seq (.reg false [(q 11 (.mov (v 0))),
 (q 12 (.mov (v 1))),
 (q 13 (.lens (v 12))),
 (q 14 (.slstr (v 11) (some (v 13)) none)),
 (q 4 (.mov (v 14))),
 (q 5 (.mov (.c (.bool true))))] [4, 5])
 .ret)))
def f78 : VFn := ⟨2, 15, f78_c, [.t 4, .t 5], true, []⟩
/- internal/stringslite.HasPrefix -/
def f79_c : VCode :=
 (.seq (.reg false [(q 4 (.mov (.c (.bool false))))] [0, 1])
 (.seq (.reg false [(q 5 (.mov (v 0))),
 (q 6 (.lens (v 5))),
 (q 7 (.mov (v 1))),
 (q 8 (.lens (v 7))),
 (q 9 (.bin .geq (v 6) (v 8))),
 (q 10 (.mov (v 9))),
 ⟨(some 11), .mov (v 0), (some (10, true)), []⟩,
 ⟨(some 12), .mov (v 1), (some (10, true)), []⟩,
 ⟨(some 13), .lens (v 12), (some (10, true)), []⟩,
 ⟨(some 14), .slstr (v 11) none (some (v 13)), (some (10, true)), []⟩,
 ⟨(some 15), .mov (v 1), (some (10, true)), []⟩,
 ⟨(some 16), .bin .eql (v 14) (v 15), (some (10, true)), []⟩,
 (q 17 (.pick (v 10) (v 16) (.c (.bool false)))),
 (q 4 (.mov (v 17)))] [4])
 .ret))
def f79 : VFn := ⟨2, 18, f79_c, [.t 4], true, []⟩
/- errors.as -/
/- cmp.Compare[uint32] -/
def f84_c : VCode :=
 (.seq (.reg false [(q 4 (.mov (ci 0)))] [0, 1])
 (.seq (.reg false [(q 7 (.mov (v 0))),
 (q 8 (.call (cf 99) [(v 7)])),
 (q 5 (.mov (v 8)))] [0, 1, 5])
 (.seq (.reg false [(q 9 (.mov (v 1))),
 (q 10 (.call (cf 99) [(v 9)])),
 (q 6 (.mov (v 10)))] [0, 1, 5, 6])
 (.seq (.seq (.reg false [(q 11 (.mov (v 5)))] [0, 1, 6, 11])
 (.cond (v 11) (.seq (.seq (.reg false [(q 12 (.mov (v 6)))] [12])
 (.cond (v 12) (.seq (.reg false [(q 4 (.mov (ci 0)))] [4])
 .ret) .skip))
 (.seq (.reg false [(q 4 (.mov (ci (-1))))] [4])
 .ret)) .skip))
 (.seq (.seq (.reg false [(q 13 (.mov (v 6)))] [0, 1, 13])
 (.cond (v 13) (.seq (.reg false [(q 4 (.mov (ci 1)))] [4])
 .ret) .skip))
 (.seq (.seq (.reg false [(q 14 (.mov (v 0))),
 (q 15 (.mov (v 1))),
 (q 16 (.bin .lss (v 14) (v 15)))] [0, 1, 16])
 (.cond (v 16) (.seq (.reg false [(q 4 (.mov (ci (-1))))] [4])
 .ret) .skip))
 (.seq (.seq (.reg false [(q 17 (.mov (v 0))),
 (q 18 (.mov (v 1))),
 (q 19 (.bin .gtr (v 17) (v 18)))] [19])
 (.cond (v 19) (.seq (.reg false [(q 4 (.mov (ci 1)))] [4])
 .ret) .skip))
 (.seq (.reg false [(q 4 (.mov (ci 0)))] [4])
 .ret))))))))
def f84 : VFn := ⟨2, 20, f84_c, [.t 4], true, []⟩
/- math/bits.Mul64 -/
def f85_c : VCode :=
 (.seq (.reg false [(q 4 (.mov (.c (.int .u64 0)))),
 (q 5 (.mov (.c (.int .u64 0))))] [0, 1])
 (.seq (.reg false [(q 14 (.mov (v 0))),
 (q 15 (.bin .and (v 14) (.c (.int .u64 4294967295)))),
 (q 6 (.mov (v 15)))] [0, 1, 6])
 (.seq (.reg false [(q 16 (.mov (v 0))),
 (q 17 (.bin .shr (v 16) (.c (.int .u64 32)))),
 (q 7 (.mov (v 17)))] [0, 1, 6, 7])
 (.seq (.reg false [(q 18 (.mov (v 1))),
 (q 19 (.bin .and (v 18) (.c (.int .u64 4294967295)))),
 (q 8 (.mov (v 19)))] [0, 1, 6, 7, 8])
 (.seq (.reg false [(q 20 (.mov (v 1))),
 (q 21 (.bin .shr (v 20) (.c (.int .u64 32)))),
 (q 9 (.mov (v 21)))] [0, 1, 6, 7, 8, 9])
 (.seq (.reg false [(q 22 (.mov (v 6))),
 (q 23 (.mov (v 8))),
 (q 24 (.bin .mul (v 22) (v 23))),
 (q 10 (.mov (v 24)))] [0, 1, 6, 7, 8, 9, 10])
 (.seq (.reg false [(q 25 (.mov (v 7))),
 (q 26 (.mov (v 8))),
 (q 27 (.bin .mul (v 25) (v 26))),
 (q 28 (.mov (v 10))),
 (q 29 (.bin .shr (v 28) (.c (.int .u64 32)))),
 (q 30 (.bin .add (v 27) (v 29))),
 (q 11 (.mov (v 30)))] [0, 1, 6, 7, 9, 11])
 (.seq (.reg false [(q 31 (.mov (v 11))),
 (q 32 (.bin .and (v 31) (.c (.int .u64 4294967295)))),
 (q 12 (.mov (v 32)))] [0, 1, 6, 7, 9, 11, 12])
 (.seq (.reg false [(q 33 (.mov (v 11))),
 (q 34 (.bin .shr (v 33) (.c (.int .u64 32)))),
 (q 13 (.mov (v 34)))] [0, 1, 6, 7, 9, 12, 13])
 (.seq (.reg false [(q 35 (.mov (v 12))),
 (q 36 (.mov (v 6))),
 (q 37 (.mov (v 9))),
 (q 38 (.bin .mul (v 36) (v 37))),
 (q 39 (.bin .add (v 35) (v 38))),
 (q 12 (.mov (v 39)))] [0, 1, 7, 9, 12, 13])
 (.seq (.reg false [(q 40 (.mov (v 7))),
 (q 41 (.mov (v 9))),
 (q 42 (.bin .mul (v 40) (v 41))),
 (q 43 (.mov (v 13))),
 (q 44 (.bin .add (v 42) (v 43))),
 (q 45 (.mov (v 12))),
 (q 46 (.bin .shr (v 45) (.c (.int .u64 32)))),
 (q 47 (.bin .add (v 44) (v 46))),
 (q 4 (.mov (v 47)))] [0, 1, 4])
 (.seq (.reg false [(q 48 (.mov (v 0))),
 (q 49 (.mov (v 1))),
 (q 50 (.bin .mul (v 48) (v 49))),
 (q 5 (.mov (v 50)))] [4, 5])
 .ret))))))))))))
def f85 : VFn := ⟨2, 51, f85_c, [.t 4, .t 5], true, []⟩
/- math/bits.Div64 -/
def f87_l0 : VCode :=
 (.seq (.seq (.reg false [(q 67 (.mov (v 15))),
 (q 68 (.bin .geq (v 67) (.c (.int .u64 4294967296)))),
 (q 69 (.mov (v 68))),
 ⟨(some 70), .mov (v 15), (some (69, false)), []⟩,
 ⟨(some 71), .mov (v 10), (some (69, false)), []⟩,
 ⟨(some 72), .bin .mul (v 70) (v 71), (some (69, false)), []⟩,
 ⟨(some 73), .mov (v 16), (some (69, false)), []⟩,
 ⟨(some 74), .bin .mul (.c (.int .u64 4294967296)) (v 73), (some (69, false)), []⟩,
 ⟨(some 75), .mov (v 13), (some (69, false)), []⟩,
 ⟨(some 76), .bin .add (v 74) (v 75), (some (69, false)), []⟩,
 ⟨(some 77), .bin .gtr (v 72) (v 76), (some (69, false)), []⟩,
 (q 78 (.pick (v 69) (.c (.bool true)) (v 77)))] [2, 8, 9, 10, 11, 13, 14, 15, 16, 78])
 (.cond (v 78) .skip (.exit 0)))
 (.block 1 (.seq (.reg false [(q 79 (.mov (v 15))),
 (q 80 (.bin .sub (v 79) (.c (.int .u64 1)))),
 (q 15 (.mov (v 80)))] [2, 8, 9, 10, 11, 13, 14, 15, 16])
 (.seq (.reg false [(q 81 (.mov (v 16))),
 (q 82 (.mov (v 9))),
 (q 83 (.bin .add (v 81) (v 82))),
 (q 16 (.mov (v 83)))] [2, 8, 9, 10, 11, 13, 14, 15, 16])
 (.seq (.reg false [(q 84 (.mov (v 16))),
 (q 85 (.bin .geq (v 84) (.c (.int .u64 4294967296))))] [2, 8, 9, 10, 11, 13, 14, 15, 16, 85])
 (.cond (v 85) (.exit 0) .skip))))))
def f87_l1 : VCode :=
 (.seq (.seq (.reg false [(q 102 (.mov (v 18))),
 (q 103 (.bin .geq (v 102) (.c (.int .u64 4294967296)))),
 (q 104 (.mov (v 103))),
 ⟨(some 105), .mov (v 18), (some (104, false)), []⟩,
 ⟨(some 106), .mov (v 10), (some (104, false)), []⟩,
 ⟨(some 107), .bin .mul (v 105) (v 106), (some (104, false)), []⟩,
 ⟨(some 108), .mov (v 16), (some (104, false)), []⟩,
 ⟨(some 109), .bin .mul (.c (.int .u64 4294967296)) (v 108), (some (104, false)), []⟩,
 ⟨(some 110), .mov (v 14), (some (104, false)), []⟩,
 ⟨(some 111), .bin .add (v 109) (v 110), (some (104, false)), []⟩,
 ⟨(some 112), .bin .gtr (v 107) (v 111), (some (104, false)), []⟩,
 (q 113 (.pick (v 104) (.c (.bool true)) (v 112)))] [2, 8, 9, 10, 14, 15, 16, 17, 18, 113])
 (.cond (v 113) .skip (.exit 2)))
 (.block 3 (.seq (.reg false [(q 114 (.mov (v 18))),
 (q 115 (.bin .sub (v 114) (.c (.int .u64 1)))),
 (q 18 (.mov (v 115)))] [2, 8, 9, 10, 14, 15, 16, 17, 18])
 (.seq (.reg false [(q 116 (.mov (v 16))),
 (q 117 (.mov (v 9))),
 (q 118 (.bin .add (v 116) (v 117))),
 (q 16 (.mov (v 118)))] [2, 8, 9, 10, 14, 15, 16, 17, 18])
 (.seq (.reg false [(q 119 (.mov (v 16))),
 (q 120 (.bin .geq (v 119) (.c (.int .u64 4294967296))))] [2, 8, 9, 10, 14, 15, 16, 17, 18, 120])
 (.cond (v 120) (.exit 2) .skip))))))
def f87_c : VCode :=
 (.seq (.reg false [(q 6 (.mov (.c (.int .u64 0)))),
 (q 7 (.mov (.c (.int .u64 0))))] [0, 1, 2])
 (.seq (.seq (.reg false [(q 19 (.mov (v 2))),
 (q 20 (.bin .eql (v 19) (.c (.int .u64 0))))] [0, 1, 2, 20])
 (.cond (v 20) .stuck .skip))
 (.seq (.seq (.reg false [(q 22 (.mov (v 2))),
 (q 23 (.mov (v 0))),
 (q 24 (.bin .leq (v 22) (v 23)))] [0, 1, 2, 24])
 (.cond (v 24) .stuck .skip))
 (.seq (.seq (.reg false [(q 26 (.mov (v 0))),
 (q 27 (.bin .eql (v 26) (.c (.int .u64 0))))] [0, 1, 2, 27])
 (.cond (v 27) (.seq (.reg true [(q 28 (.mov (v 1))),
 (q 29 (.mov (v 2))),
 (q 30 (.bin .quo (v 28) (v 29))),
 (q 31 (.mov (v 1))),
 (q 32 (.mov (v 2))),
 (q 33 (.bin .rem (v 31) (v 32))),
 (q 6 (.mov (v 30))),
 (q 7 (.mov (v 33)))] [6, 7])
 .ret) .skip))
 (.seq (.reg false [(q 34 (.mov (v 2))),
 (q 35 (.call (cf 100) [(v 34)])),
 (q 36 (.conv (.toInt .u64) (v 35))),
 (q 8 (.mov (v 36)))] [0, 1, 2, 8])
 (.seq (.reg false [(q 37 (.mov (v 2))),
 (q 38 (.mov (v 8))),
 (q 39 (.bin .shl (v 37) (v 38))),
 (q 2 (.mov (v 39)))] [0, 1, 2, 8])
 (.seq (.reg false [(q 40 (.mov (v 2))),
 (q 41 (.bin .shr (v 40) (.c (.int .u64 32)))),
 (q 9 (.mov (v 41)))] [0, 1, 2, 8, 9])
 (.seq (.reg false [(q 42 (.mov (v 2))),
 (q 43 (.bin .and (v 42) (.c (.int .u64 4294967295)))),
 (q 10 (.mov (v 43)))] [0, 1, 2, 8, 9, 10])
 (.seq (.reg false [(q 44 (.mov (v 0))),
 (q 45 (.mov (v 8))),
 (q 46 (.bin .shl (v 44) (v 45))),
 (q 47 (.mov (v 1))),
 (q 48 (.mov (v 8))),
 (q 49 (.bin .sub (.c (.int .u64 64)) (v 48))),
 (q 50 (.bin .shr (v 47) (v 49))),
 (q 51 (.bin .or (v 46) (v 50))),
 (q 11 (.mov (v 51)))] [1, 2, 8, 9, 10, 11])
 (.seq (.reg false [(q 52 (.mov (v 1))),
 (q 53 (.mov (v 8))),
 (q 54 (.bin .shl (v 52) (v 53))),
 (q 12 (.mov (v 54)))] [2, 8, 9, 10, 11, 12])
 (.seq (.reg false [(q 55 (.mov (v 12))),
 (q 56 (.bin .shr (v 55) (.c (.int .u64 32)))),
 (q 13 (.mov (v 56)))] [2, 8, 9, 10, 11, 12, 13])
 (.seq (.reg false [(q 57 (.mov (v 12))),
 (q 58 (.bin .and (v 57) (.c (.int .u64 4294967295)))),
 (q 14 (.mov (v 58)))] [2, 8, 9, 10, 11, 13, 14])
 (.seq (.reg false [(q 59 (.mov (v 11))),
 (q 60 (.mov (v 9))),
 (q 61 (.bin .quo (v 59) (v 60))),
 (q 15 (.mov (v 61)))] [2, 8, 9, 10, 11, 13, 14, 15])
 (.seq (.reg false [(q 62 (.mov (v 11))),
 (q 63 (.mov (v 15))),
 (q 64 (.mov (v 9))),
 (q 65 (.bin .mul (v 63) (v 64))),
 (q 66 (.bin .sub (v 62) (v 65))),
 (q 16 (.mov (v 66)))] [2, 8, 9, 10, 11, 13, 14, 15, 16])
 (.seq (.block 0 (.loop [2, 8, 9, 10, 11, 13, 14, 15, 16] f87_l0))
 (.seq (.reg false [(q 86 (.mov (v 11))),
 (q 87 (.bin .mul (v 86) (.c (.int .u64 4294967296)))),
 (q 88 (.mov (v 13))),
 (q 89 (.bin .add (v 87) (v 88))),
 (q 90 (.mov (v 15))),
 (q 91 (.mov (v 2))),
 (q 92 (.bin .mul (v 90) (v 91))),
 (q 93 (.bin .sub (v 89) (v 92))),
 (q 17 (.mov (v 93)))] [2, 8, 9, 10, 14, 15, 17])
 (.seq (.reg false [(q 94 (.mov (v 17))),
 (q 95 (.mov (v 9))),
 (q 96 (.bin .quo (v 94) (v 95))),
 (q 18 (.mov (v 96)))] [2, 8, 9, 10, 14, 15, 17, 18])
 (.seq (.reg false [(q 97 (.mov (v 17))),
 (q 98 (.mov (v 18))),
 (q 99 (.mov (v 9))),
 (q 100 (.bin .mul (v 98) (v 99))),
 (q 101 (.bin .sub (v 97) (v 100))),
 (q 16 (.mov (v 101)))] [2, 8, 9, 10, 14, 15, 16, 17, 18])
 (.seq (.block 2 (.loop [2, 8, 9, 10, 14, 15, 16, 17, 18] f87_l1))
 (.seq (.reg false [(q 121 (.mov (v 15))),
 (q 122 (.bin .mul (v 121) (.c (.int .u64 4294967296)))),
 (q 123 (.mov (v 18))),
 (q 124 (.bin .add (v 122) (v 123))),
 (q 125 (.mov (v 17))),
 (q 126 (.bin .mul (v 125) (.c (.int .u64 4294967296)))),
 (q 127 (.mov (v 14))),
 (q 128 (.bin .add (v 126) (v 127))),
 (q 129 (.mov (v 18))),
 (q 130 (.mov (v 2))),
 (q 131 (.bin .mul (v 129) (v 130))),
 (q 132 (.bin .sub (v 128) (v 131))),
 (q 133 (.mov (v 8))),
 (q 134 (.bin .shr (v 132) (v 133))),
 (q 6 (.mov (v 124))),
 (q 7 (.mov (v 134)))] [6, 7])
 .ret))))))))))))))))))))
def f87 : VFn := ⟨3, 135, f87_c, [.t 6, .t 7], true, []⟩
/- caliper/nat.taken -/
def f88_l0 : VCode :=
 (.seq (.seq (.reg false [(q 29 (.mov (v 12))),
 (q 30 (.bin .geq (v 29) (ci 0)))] [10, 11, 12, 30])
 (.cond (v 30) .skip (.exit 0)))
 (.seq (.block 1 (.seq (.reg true [(q 33 (.mov (v 10))),
 (q 34 (.mov (v 12))),
 (q 35 (.iaddr 1 (v 33) (v 34))),
 (q 36 (.load none (v 35))),
 (q 37 (.mov (v 11))),
 (q 38 (.mov (v 12))),
 (q 39 (.iaddr 1 (v 37) (v 38))),
 (q 40 (.load none (v 39))),
 (q 41 (.bin .neq (v 36) (v 40)))] [10, 11, 12, 41])
 (.cond (v 41) (.seq (.seq (.reg true [(q 42 (.mov (v 10))),
 (q 43 (.mov (v 12))),
 (q 44 (.iaddr 1 (v 42) (v 43))),
 (q 45 (.load none (v 44))),
 (q 46 (.mov (v 11))),
 (q 47 (.mov (v 12))),
 (q 48 (.iaddr 1 (v 46) (v 47))),
 (q 49 (.load none (v 48))),
 (q 50 (.bin .gtr (v 45) (v 49)))] [10, 11, 50])
 (.cond (v 50) (.seq (.reg false [(q 8 (.mov (.c (.bool false))))] [8])
 .ret) .skip))
 (.exit 0)) .skip)))
 (.reg false [(q 31 (.mov (v 12))),
 (q 32 (.bin .sub (v 31) (ci 1))),
 (q 12 (.mov (v 32)))] [10, 11, 12])))
def f88_l1 : VCode :=
 (.seq (.reg false [(q 54 (.bin .lss (v 53) (v 52)))] [10, 11, 13, 52, 53, 54])
 (.seq (.cond (v 54) .skip (.exit 2))
 (.seq (.block 3 (.seq (.reg false [(q 55 (.mov (v 53))),
 (q 14 (.mov (v 55)))] [10, 11, 13, 14, 52, 53])
 (.seq (.reg false [(q 56 (.mov (v 10))),
 (q 57 (.mov (v 14))),
 (q 58 (.iaddr 1 (v 56) (v 57))),
 (q 59 (.load none (v 58))),
 (q 60 (.mov (v 13))),
 (q 61 (.bin .add (v 59) (v 60))),
 (q 15 (.mov (v 61)))] [10, 11, 14, 15, 52, 53])
 (.seq (.reg false [(q 13 (.mov (.c (.int .u32 0))))] [10, 11, 13, 14, 15, 52, 53])
 (.seq (.seq (.reg false [(q 62 (.mov (v 11))),
 (q 63 (.mov (v 14))),
 (q 64 (.iaddr 1 (v 62) (v 63))),
 (q 65 (.load none (v 64))),
 (q 66 (.mov (v 15))),
 (q 67 (.bin .lss (v 65) (v 66)))] [10, 11, 13, 14, 15, 52, 53, 67])
 (.cond (v 67) (.seq (.reg false [(q 68 (.mov (v 11))),
 (q 69 (.mov (v 14))),
 (q 70 (.iaddr 1 (v 68) (v 69))),
 (q 71 (.load none (v 70))),
 (q 72 (.bin .add (v 71) (.c (.int .u32 1000000000)))),
 (q 73 (.iaddr 1 (v 68) (v 69))),
 ⟨none, .store false 1 (v 73) (v 72), none, []⟩] [10, 11, 14, 15, 52, 53])
 (.reg false [(q 13 (.mov (.c (.int .u32 1))))] [10, 11, 13, 14, 15, 52, 53])) .skip))
 (.reg false [(q 74 (.mov (v 11))),
 (q 75 (.mov (v 14))),
 (q 76 (.iaddr 1 (v 74) (v 75))),
 (q 77 (.load none (v 76))),
 (q 78 (.mov (v 15))),
 (q 79 (.bin .sub (v 77) (v 78))),
 (q 80 (.iaddr 1 (v 74) (v 75))),
 ⟨none, .store false 1 (v 80) (v 79), none, []⟩] [10, 11, 13, 52, 53]))))))
 (.reg false [(q 81 (.bin .add (v 53) (ci 1))),
 (q 53 (.mov (v 81)))] [10, 11, 13, 52, 53]))))
def f88_c : VCode :=
 (.seq (.reg false [(q 8 (.mov (.c (.bool false))))] [0, 1, 2, 3])
 (.seq (.reg false [(q 16 (.mov (v 1))),
 (q 17 (.len (v 16))),
 (q 9 (.mov (v 17)))] [0, 1, 2, 3, 9])
 (.seq (.reg false [(q 18 (.mov (v 1))),
 (q 19 (.mov (v 3))),
 (q 20 (.call (cf 69) [(v 18), (v 19)])),
 (q 10 (.mov (v 20)))] [0, 2, 9, 10])
 (.seq (.reg false [(q 21 (.mov (v 0))),
 (q 22 (.mov (v 2))),
 (q 23 (.mov (v 2))),
 (q 24 (.mov (v 9))),
 (q 25 (.bin .add (v 23) (v 24))),
 (q 26 (.bin .add (v 25) (ci 1))),
 (q 27 (.sl 1 (v 21) (some (v 22)) (some (v 26)) none)),
 (q 11 (.mov (v 27)))] [9, 10, 11])
 (.seq (.seq (.reg false [(q 28 (.mov (v 9))),
 (q 12 (.mov (v 28)))] [10, 11, 12])
 (.block 0 (.loop [10, 11, 12] f88_l0)))
 (.seq (.reg false [(q 13 (.mov (.c (.int .u32 0))))] [10, 11, 13])
 (.seq (.seq (.reg false [(q 51 (.mov (v 11))),
 (q 52 (.len (v 51))),
 (q 53 (.mov (ci 0)))] [10, 11, 13, 52, 53])
 (.block 2 (.loop [10, 11, 13, 52, 53] f88_l1)))
 (.seq (.reg false [(q 8 (.mov (.c (.bool true))))] [8])
 .ret))))))))
def f88 : VFn := ⟨4, 82, f88_c, [.t 8], false, [0]⟩
/- unicode/utf8.decodeRuneInStringSlow -/
def f89_c : VCode :=
 (.seq (.reg false [(q 2 (.mov (.c (.int .i32 0)))),
 (q 3 (.mov (ci 0)))] [0])
 (.seq (.reg false [(q 13 (.mov (v 0))),
 (q 14 (.lens (v 13))),
 (q 4 (.mov (v 14)))] [0, 4])
 (.seq (.seq (.reg false [(q 15 (.mov (v 4))),
 (q 16 (.bin .lss (v 15) (ci 1)))] [0, 4, 16])
 (.cond (v 16) (.seq (.reg false [(q 2 (.mov (.c (.int .i32 65533)))),
 (q 3 (.mov (ci 0)))] [2, 3])
 .ret) .skip))
 (.seq (.reg false [(q 17 (.mov (v 0))),
 (q 18 (.idxs (v 17) (ci 0))),
 (q 5 (.mov (v 18)))] [0, 4, 5])
 (.seq .stuck
 (.seq (.seq (.reg false [(q 22 (.mov (v 6))),
 (q 23 (.bin .geq (v 22) (.c (.int .u8 240))))] [0, 4, 5, 6, 23])
 (.cond (v 23) (.seq (.reg false [(q 24 (.mov (v 6))),
 (q 25 (.conv (.toInt .i32) (v 24))),
 (q 26 (.bin .shl (v 25) (.c (.int .u64 31)))),
 (q 27 (.bin .shr (v 26) (.c (.int .u64 31)))),
 (q 7 (.mov (v 27)))] [0, 7])
 (.seq (.reg false [(q 28 (.mov (v 0))),
 (q 29 (.idxs (v 28) (ci 0))),
 (q 30 (.conv (.toInt .i32) (v 29))),
 (q 31 (.mov (v 7))),
 (q 32 (.bin .andNot (v 30) (v 31))),
 (q 33 (.mov (v 7))),
 (q 34 (.bin .and (.c (.int .i32 65533)) (v 33))),
 (q 35 (.bin .or (v 32) (v 34))),
 (q 2 (.mov (v 35))),
 (q 3 (.mov (ci 1)))] [2, 3])
 .ret)) .skip))
 (.seq (.reg false [(q 36 (.mov (v 6))),
 (q 37 (.bin .and (v 36) (.c (.int .u8 7)))),
 (q 38 (.conv (.toInt .i64) (v 37))),
 (q 8 (.mov (v 38)))] [0, 4, 5, 6, 8])
 (.seq .stuck
 (.seq (.seq (.reg false [(q 43 (.mov (v 4))),
 (q 44 (.mov (v 8))),
 (q 45 (.bin .lss (v 43) (v 44)))] [0, 5, 8, 9, 45])
 (.cond (v 45) (.seq (.reg false [(q 2 (.mov (.c (.int .i32 65533)))),
 (q 3 (.mov (ci 1)))] [2, 3])
 .ret) .skip))
 (.seq (.reg false [(q 46 (.mov (v 0))),
 (q 47 (.idxs (v 46) (ci 1))),
 (q 10 (.mov (v 47)))] [0, 5, 8, 9, 10])
 (.seq (.seq (.reg false [(q 48 (.mov (v 10))),
 (q 49 (.faddr 0 (v 9))),
 (q 50 (.load none (v 49))),
 (q 51 (.bin .lss (v 48) (v 50))),
 (q 52 (.mov (v 51))),
 ⟨(some 53), .faddr 1 (v 9), (some (52, false)), []⟩,
 ⟨(some 54), .load none (v 53), (some (52, false)), []⟩,
 ⟨(some 55), .mov (v 10), (some (52, false)), []⟩,
 ⟨(some 56), .bin .lss (v 54) (v 55), (some (52, false)), []⟩,
 (q 57 (.pick (v 52) (.c (.bool true)) (v 56)))] [0, 5, 8, 10, 57])
 (.cond (v 57) (.seq (.reg false [(q 2 (.mov (.c (.int .i32 65533)))),
 (q 3 (.mov (ci 1)))] [2, 3])
 .ret) .skip))
 (.seq (.seq (.reg false [(q 58 (.mov (v 8))),
 (q 59 (.bin .leq (v 58) (ci 2)))] [0, 5, 8, 10, 59])
 (.cond (v 59) (.seq (.reg false [(q 60 (.mov (v 5))),
 (q 61 (.bin .and (v 60) (.c (.int .u8 31)))),
 (q 62 (.conv (.toInt .i32) (v 61))),
 (q 63 (.bin .shl (v 62) (.c (.int .u64 6)))),
 (q 64 (.mov (v 10))),
 (q 65 (.bin .and (v 64) (.c (.int .u8 63)))),
 (q 66 (.conv (.toInt .i32) (v 65))),
 (q 67 (.bin .or (v 63) (v 66))),
 (q 2 (.mov (v 67))),
 (q 3 (.mov (ci 2)))] [2, 3])
 .ret) .skip))
 (.seq (.reg false [(q 68 (.mov (v 0))),
 (q 69 (.idxs (v 68) (ci 2))),
 (q 11 (.mov (v 69)))] [0, 5, 8, 10, 11])
 (.seq (.seq (.reg false [(q 70 (.mov (v 11))),
 (q 71 (.bin .lss (v 70) (.c (.int .u8 128)))),
 (q 72 (.mov (v 71))),
 ⟨(some 73), .mov (v 11), (some (72, false)), []⟩,
 ⟨(some 74), .bin .lss (.c (.int .u8 191)) (v 73), (some (72, false)), []⟩,
 (q 75 (.pick (v 72) (.c (.bool true)) (v 74)))] [0, 5, 8, 10, 11, 75])
 (.cond (v 75) (.seq (.reg false [(q 2 (.mov (.c (.int .i32 65533)))),
 (q 3 (.mov (ci 1)))] [2, 3])
 .ret) .skip))
 (.seq (.seq (.reg false [(q 76 (.mov (v 8))),
 (q 77 (.bin .leq (v 76) (ci 3)))] [0, 5, 10, 11, 77])
 (.cond (v 77) (.seq (.reg false [(q 78 (.mov (v 5))),
 (q 79 (.bin .and (v 78) (.c (.int .u8 15)))),
 (q 80 (.conv (.toInt .i32) (v 79))),
 (q 81 (.bin .shl (v 80) (.c (.int .u64 12)))),
 (q 82 (.mov (v 10))),
 (q 83 (.bin .and (v 82) (.c (.int .u8 63)))),
 (q 84 (.conv (.toInt .i32) (v 83))),
 (q 85 (.bin .shl (v 84) (.c (.int .u64 6)))),
 (q 86 (.bin .or (v 81) (v 85))),
 (q 87 (.mov (v 11))),
 (q 88 (.bin .and (v 87) (.c (.int .u8 63)))),
 (q 89 (.conv (.toInt .i32) (v 88))),
 (q 90 (.bin .or (v 86) (v 89))),
 (q 2 (.mov (v 90))),
 (q 3 (.mov (ci 3)))] [2, 3])
 .ret) .skip))
 (.seq (.reg false [(q 91 (.mov (v 0))),
 (q 92 (.idxs (v 91) (ci 3))),
 (q 12 (.mov (v 92)))] [5, 10, 11, 12])
 (.seq (.seq (.reg false [(q 93 (.mov (v 12))),
 (q 94 (.bin .lss (v 93) (.c (.int .u8 128)))),
 (q 95 (.mov (v 94))),
 ⟨(some 96), .mov (v 12), (some (95, false)), []⟩,
 ⟨(some 97), .bin .lss (.c (.int .u8 191)) (v 96), (some (95, false)), []⟩,
 (q 98 (.pick (v 95) (.c (.bool true)) (v 97)))] [5, 10, 11, 12, 98])
 (.cond (v 98) (.seq (.reg false [(q 2 (.mov (.c (.int .i32 65533)))),
 (q 3 (.mov (ci 1)))] [2, 3])
 .ret) .skip))
 (.seq (.reg false [(q 99 (.mov (v 5))),
 (q 100 (.bin .and (v 99) (.c (.int .u8 7)))),
 (q 101 (.conv (.toInt .i32) (v 100))),
 (q 102 (.bin .shl (v 101) (.c (.int .u64 18)))),
 (q 103 (.mov (v 10))),
 (q 104 (.bin .and (v 103) (.c (.int .u8 63)))),
 (q 105 (.conv (.toInt .i32) (v 104))),
 (q 106 (.bin .shl (v 105) (.c (.int .u64 12)))),
 (q 107 (.bin .or (v 102) (v 106))),
 (q 108 (.mov (v 11))),
 (q 109 (.bin .and (v 108) (.c (.int .u8 63)))),
 (q 110 (.conv (.toInt .i32) (v 109))),
 (q 111 (.bin .shl (v 110) (.c (.int .u64 6)))),
 (q 112 (.bin .or (v 107) (v 111))),
 (q 113 (.mov (v 12))),
 (q 114 (.bin .and (v 113) (.c (.int .u8 63)))),
 (q 115 (.conv (.toInt .i32) (v 114))),
 (q 116 (.bin .or (v 112) (v 115))),
 (q 2 (.mov (v 116))),
 (q 3 (.mov (ci 4)))] [2, 3])
 .ret))))))))))))))))))
def f89 : VFn := ⟨1, 117, f89_c, [.t 2, .t 3], true, []⟩
/- unicode/utf8.RuneStart -/
def f91_c : VCode :=
 (.seq (.reg false [(q 2 (.mov (.c (.bool false))))] [0])
 (.seq (.reg false [(q 3 (.mov (v 0))),
 (q 4 (.bin .and (v 3) (.c (.int .u8 192)))),
 (q 5 (.bin .neq (v 4) (.c (.int .u8 128)))),
 (q 2 (.mov (v 5)))] [2])
 .ret))
def f91 : VFn := ⟨1, 6, f91_c, [.t 2], true, []⟩
/- internal/strconv.small -/
def f92_c : VCode :=
 (.seq (.reg false [(q 2 (.mov (.c (.str ⟨#[]⟩))))] [0])
 (.seq (.seq (.reg false [(q 3 (.mov (v 0))),
 (q 4 (.bin .lss (v 3) (ci 10)))] [0, 4])
 (.cond (v 4) (.seq (.reg false [(q 5 (.mov (v 0))),
 (q 6 (.mov (v 0))),
 (q 7 (.bin .add (v 6) (ci 1))),
 (q 8 (.slstr (.c (.str ⟨#[48, 49, 50, 51, 52, 53, 54, 55, 56, 57, 97, 98, 99, 100, 101, 102, 103, 104, 105, 106, 107, 108, 109, 110, 111, 112, 113, 114, 115, 116, 117, 118, 119, 120, 121, 122]⟩)) (some (v 5)) (some (v 7)))),
 (q 2 (.mov (v 8)))] [2])
 .ret) .skip))
 (.seq (.reg false [(q 9 (.mov (v 0))),
 (q 10 (.bin .mul (v 9) (ci 2))),
 (q 11 (.mov (v 0))),
 (q 12 (.bin .mul (v 11) (ci 2))),
 (q 13 (.bin .add (v 12) (ci 2))),
 (q 14 (.slstr (.c (.str ⟨#[48, 48, 48, 49, 48, 50, 48, 51, 48, 52, 48, 53, 48, 54, 48, 55, 48, 56, 48, 57, 49, 48, 49, 49, 49, 50, 49, 51, 49, 52, 49, 53, 49, 54, 49, 55, 49, 56, 49, 57, 50, 48, 50, 49, 50, 50, 50, 51, 50, 52, 50, 53, 50, 54, 50, 55, 50, 56, 50, 57, 51, 48, 51, 49, 51, 50, 51, 51, 51, 52, 51, 53, 51, 54, 51, 55, 51, 56, 51, 57, 52, 48, 52, 49, 52, 50, 52, 51, 52, 52, 52, 53, 52, 54, 52, 55, 52, 56, 52, 57, 53, 48, 53, 49, 53, 50, 53, 51, 53, 52, 53, 53, 53, 54, 53, 55, 53, 56, 53, 57, 54, 48, 54, 49, 54, 50, 54, 51, 54, 52, 54, 53, 54, 54, 54, 55, 54, 56, 54, 57, 55, 48, 55, 49, 55, 50, 55, 51, 55, 52, 55, 53, 55, 54, 55, 55, 55, 56, 55, 57, 56, 48, 56, 49, 56, 50, 56, 51, 56, 52, 56, 53, 56, 54, 56, 55, 56, 56, 56, 57, 57, 48, 57, 49, 57, 50, 57, 51, 57, 52, 57, 53, 57, 54, 57, 55, 57, 56, 57, 57]⟩)) (some (v 10)) (some (v 13)))),
 (q 2 (.mov (v 14)))] [2])
 .ret)))
def f92 : VFn := ⟨1, 15, f92_c, [.t 2], true, []⟩
/- internal/strconv.numDigits -/
def f93_c : VCode :=
 (.seq (.reg false [(q 2 (.mov (ci 0)))] [0])
 (.seq (.reg false [(q 4 (.mov (v 0))),
 (q 5 (.call (cf 106) [(v 4)])),
 (q 6 (.call (cf 105) [(v 5)])),
 (q 3 (.mov (v 6)))] [0, 3])
 (.seq .stuck
 .ret)))
def f93 : VFn := ⟨1, 15, f93_c, [.t 2], true, []⟩
/- internal/strconv.formatBase10 -/
/- internal/strconv.formatBits -/
def f95_l0 : VCode :=
 (.seq (.seq (.reg false [(q 44 (.mov (v 1))),
 (q 45 (.mov (v 15))),
 (q 46 (.bin .geq (v 44) (v 45)))] [0, 1, 3, 4, 10, 11, 12, 13, 14, 15, 16, 46])
 (.cond (v 46) .skip (.exit 0)))
 (.block 1 (.seq (.reg false [(q 47 (.mov (v 13))),
 (q 48 (.bin .sub (v 47) (ci 1))),
 (q 13 (.mov (v 48)))] [0, 1, 3, 4, 10, 11, 12, 13, 14, 15, 16])
 (.seq (.reg false [(q 49 (.mov (v 13))),
 (q 50 (.mov (v 1))),
 (q 51 (.mov (v 16))),
 (q 52 (.bin .and (v 50) (v 51))),
 (q 53 (.idxs (.c (.str ⟨#[48, 49, 50, 51, 52, 53, 54, 55, 56, 57, 97, 98, 99, 100, 101, 102, 103, 104, 105, 106, 107, 108, 109, 110, 111, 112, 113, 114, 115, 116, 117, 118, 119, 120, 121, 122]⟩)) (v 52))),
 (q 54 (.iaddra 65 1 (v 12) (v 49))),
 ⟨none, .store false 1 (v 54) (v 53), none, []⟩] [0, 1, 3, 4, 10, 11, 12, 13, 14, 15, 16])
 (.reg false [(q 55 (.mov (v 1))),
 (q 56 (.mov (v 14))),
 (q 57 (.bin .shr (v 55) (v 56))),
 (q 1 (.mov (v 57)))] [0, 1, 3, 4, 10, 11, 12, 13, 14, 15, 16])))))
def f95_l1 : VCode :=
 (.seq (.seq (.reg false [(q 66 (.mov (v 1))),
 (q 67 (.mov (v 17))),
 (q 68 (.bin .geq (v 66) (v 67)))] [0, 1, 3, 4, 10, 11, 12, 13, 17, 68])
 (.cond (v 68) .skip (.exit 2)))
 (.block 3 (.seq (.reg false [(q 69 (.mov (v 13))),
 (q 70 (.bin .sub (v 69) (ci 1))),
 (q 13 (.mov (v 70)))] [0, 1, 3, 4, 10, 11, 12, 13, 17])
 (.seq (.reg false [(q 71 (.mov (v 1))),
 (q 72 (.mov (v 17))),
 (q 73 (.bin .quo (v 71) (v 72))),
 (q 18 (.mov (v 73)))] [0, 1, 3, 4, 10, 11, 12, 13, 17, 18])
 (.seq (.reg false [(q 74 (.mov (v 13))),
 (q 75 (.mov (v 1))),
 (q 76 (.mov (v 18))),
 (q 77 (.mov (v 17))),
 (q 78 (.bin .mul (v 76) (v 77))),
 (q 79 (.bin .sub (v 75) (v 78))),
 (q 80 (.idxs (.c (.str ⟨#[48, 49, 50, 51, 52, 53, 54, 55, 56, 57, 97, 98, 99, 100, 101, 102, 103, 104, 105, 106, 107, 108, 109, 110, 111, 112, 113, 114, 115, 116, 117, 118, 119, 120, 121, 122]⟩)) (v 79))),
 (q 81 (.iaddra 65 1 (v 12) (v 74))),
 ⟨none, .store false 1 (v 81) (v 80), none, []⟩] [0, 3, 4, 10, 11, 12, 13, 17, 18])
 (.reg false [(q 82 (.mov (v 18))),
 (q 1 (.mov (v 82)))] [0, 1, 3, 4, 10, 11, 12, 13, 17]))))))
def f95_c : VCode :=
 (.seq (.reg false [(q 10 (.nilrow 1)),
 (q 11 (.mov (.c (.str ⟨#[]⟩))))] [0, 1, 2, 3, 4, 10, 11])
 (.seq (.seq (.reg false [(q 19 (.mov (v 2))),
 (q 20 (.bin .lss (v 19) (ci 2))),
 (q 21 (.mov (v 20))),
 ⟨(some 22), .mov (v 2), (some (21, false)), []⟩,
 ⟨(some 23), .bin .eql (v 22) (ci 10), (some (21, false)), []⟩,
 (q 24 (.pick (v 21) (.c (.bool true)) (v 23))),
 (q 25 (.mov (v 24))),
 ⟨(some 26), .mov (v 2), (some (25, false)), []⟩,
 ⟨(some 27), .bin .gtr (v 26) (ci 36), (some (25, false)), []⟩,
 (q 28 (.pick (v 25) (.c (.bool true)) (v 27)))] [0, 1, 2, 3, 4, 10, 11, 28])
 (.cond (v 28) (.reg false [(q 29 (.mkiface 9 (.c (.str ⟨#[115, 116, 114, 99, 111, 110, 118, 58, 32, 105, 108, 108, 101, 103, 97, 108, 32, 65, 112, 112, 101, 110, 100, 73, 110, 116, 47, 70, 111, 114, 109, 97, 116, 73, 110, 116, 32, 98, 97, 115, 101]⟩)))),
 ⟨none, .panic (v 29), none, []⟩] [0, 1, 2, 3, 4, 10, 11]) .skip))
 (.seq (.reg false [(q 12 (.alloc true [(.int .u8 0), (.int .u8 0), (.int .u8 0), (.int .u8 0), (.int .u8 0), (.int .u8 0), (.int .u8 0), (.int .u8 0), (.int .u8 0), (.int .u8 0), (.int .u8 0), (.int .u8 0), (.int .u8 0), (.int .u8 0), (.int .u8 0), (.int .u8 0), (.int .u8 0), (.int .u8 0), (.int .u8 0), (.int .u8 0), (.int .u8 0), (.int .u8 0), (.int .u8 0), (.int .u8 0), (.int .u8 0), (.int .u8 0), (.int .u8 0), (.int .u8 0), (.int .u8 0), (.int .u8 0), (.int .u8 0), (.int .u8 0), (.int .u8 0), (.int .u8 0), (.int .u8 0), (.int .u8 0), (.int .u8 0), (.int .u8 0), (.int .u8 0), (.int .u8 0), (.int .u8 0), (.int .u8 0), (.int .u8 0), (.int .u8 0), (.int .u8 0), (.int .u8 0), (.int .u8 0), (.int .u8 0), (.int .u8 0), (.int .u8 0), (.int .u8 0), (.int .u8 0), (.int .u8 0), (.int .u8 0), (.int .u8 0), (.int .u8 0), (.int .u8 0), (.int .u8 0), (.int .u8 0), (.int .u8 0), (.int .u8 0), (.int .u8 0), (.int .u8 0), (.int .u8 0), (.int .u8 0)]))] [0, 1, 2, 3, 4, 10, 11, 12])
 (.seq (.reg false [(q 13 (.mov (ci 65)))] [0, 1, 2, 3, 4, 10, 11, 12, 13])
 (.seq (.seq (.reg false [(q 30 (.mov (v 3)))] [0, 1, 2, 3, 4, 10, 11, 12, 13, 30])
 (.cond (v 30) (.reg false [(q 31 (.mov (v 1))),
 (q 32 (.un .neg (v 31))),
 (q 1 (.mov (v 32)))] [0, 1, 2, 3, 4, 10, 11, 12, 13]) .skip))
 (.seq (.seq (.reg false [(q 33 (.mov (v 2))),
 (q 34 (.call (cf 108) [(v 33)]))] [0, 1, 2, 3, 4, 10, 11, 12, 13, 34])
 (.cond (v 34) (.seq (.reg false [(q 35 (.mov (v 2))),
 (q 36 (.conv (.toInt .u64) (v 35))),
 (q 37 (.call (cf 109) [(v 36)])),
 (q 38 (.conv (.toInt .u64) (v 37))),
 (q 14 (.mov (v 38)))] [0, 1, 2, 3, 4, 10, 11, 12, 13, 14])
 (.seq (.reg false [(q 39 (.mov (v 2))),
 (q 40 (.conv (.toInt .u64) (v 39))),
 (q 15 (.mov (v 40)))] [0, 1, 2, 3, 4, 10, 11, 12, 13, 14, 15])
 (.seq (.reg false [(q 41 (.mov (v 2))),
 (q 42 (.conv (.toInt .u64) (v 41))),
 (q 43 (.bin .sub (v 42) (.c (.int .u64 1)))),
 (q 16 (.mov (v 43)))] [0, 1, 3, 4, 10, 11, 12, 13, 14, 15, 16])
 (.seq (.block 0 (.loop [0, 1, 3, 4, 10, 11, 12, 13, 14, 15, 16] f95_l0))
 (.seq (.reg false [(q 58 (.mov (v 13))),
 (q 59 (.bin .sub (v 58) (ci 1))),
 (q 13 (.mov (v 59)))] [0, 1, 3, 4, 10, 11, 12, 13])
 (.reg false [(q 60 (.mov (v 13))),
 (q 61 (.mov (v 1))),
 (q 62 (.idxs (.c (.str ⟨#[48, 49, 50, 51, 52, 53, 54, 55, 56, 57, 97, 98, 99, 100, 101, 102, 103, 104, 105, 106, 107, 108, 109, 110, 111, 112, 113, 114, 115, 116, 117, 118, 119, 120, 121, 122]⟩)) (v 61))),
 (q 63 (.iaddra 65 1 (v 12) (v 60))),
 ⟨none, .store false 1 (v 63) (v 62), none, []⟩] [0, 3, 4, 10, 11, 12, 13])))))) (.seq (.reg false [(q 64 (.mov (v 2))),
 (q 65 (.conv (.toInt .u64) (v 64))),
 (q 17 (.mov (v 65)))] [0, 1, 3, 4, 10, 11, 12, 13, 17])
 (.seq (.block 2 (.loop [0, 1, 3, 4, 10, 11, 12, 13, 17] f95_l1))
 (.seq (.reg false [(q 83 (.mov (v 13))),
 (q 84 (.bin .sub (v 83) (ci 1))),
 (q 13 (.mov (v 84)))] [0, 1, 3, 4, 10, 11, 12, 13])
 (.reg false [(q 85 (.mov (v 13))),
 (q 86 (.mov (v 1))),
 (q 87 (.idxs (.c (.str ⟨#[48, 49, 50, 51, 52, 53, 54, 55, 56, 57, 97, 98, 99, 100, 101, 102, 103, 104, 105, 106, 107, 108, 109, 110, 111, 112, 113, 114, 115, 116, 117, 118, 119, 120, 121, 122]⟩)) (v 86))),
 (q 88 (.iaddra 65 1 (v 12) (v 85))),
 ⟨none, .store false 1 (v 88) (v 87), none, []⟩] [0, 3, 4, 10, 11, 12, 13]))))))
 (.seq (.seq (.reg false [(q 89 (.mov (v 3)))] [0, 4, 10, 11, 12, 13, 89])
 (.cond (v 89) (.seq (.reg false [(q 90 (.mov (v 13))),
 (q 91 (.bin .sub (v 90) (ci 1))),
 (q 13 (.mov (v 91)))] [0, 4, 10, 11, 12, 13])
 (.reg false [(q 92 (.mov (v 13))),
 (q 93 (.iaddra 65 1 (v 12) (v 92))),
 ⟨none, .store false 1 (v 93) (.c (.int .u8 45)), none, []⟩] [0, 4, 10, 11, 12, 13])) .skip))
 (.seq (.seq (.reg false [(q 94 (.mov (v 4)))] [0, 10, 11, 12, 13, 94])
 (.cond (v 94) (.seq .stuck
 .ret) .skip))
 (.seq .stuck
 .ret)))))))))
def f95 : VFn := ⟨5, 102, f95_c, [.t 10, .t 11], true, []⟩
/- cmp.isNaN[uint32] -/
def f99_c : VCode :=
 (.seq (.reg false [(q 2 (.mov (.c (.bool false))))] [0])
 (.seq (.reg false [(q 3 (.mov (v 0))),
 (q 4 (.mov (v 0))),
 (q 5 (.bin .neq (v 3) (v 4))),
 (q 2 (.mov (v 5)))] [2])
 .ret))
def f99 : VFn := ⟨1, 6, f99_c, [.t 2], true, []⟩
/- math/bits.LeadingZeros64 -/
def f100_c : VCode :=
 (.seq (.reg false [(q 2 (.mov (ci 0)))] [0])
 (.seq (.reg false [(q 3 (.mov (v 0))),
 (q 4 (.call (cf 106) [(v 3)])),
 (q 5 (.bin .sub (ci 64) (v 4))),
 (q 2 (.mov (v 5)))] [2])
 .ret))
def f100 : VFn := ⟨1, 6, f100_c, [.t 2], true, []⟩
/- strings.IndexByte -/
/- unicode/utf8.ValidRune -/
/- internal/bytealg.Cutover -/
/- internal/strconv.log10Pow2 -/
def f105_c : VCode :=
 (.seq (.reg false [(q 2 (.mov (ci 0)))] [0])
 (.seq (.reg false [(q 3 (.mov (v 0))),
 (q 4 (.bin .mul (v 3) (ci 78913))),
 (q 5 (.bin .shr (v 4) (.c (.int .u64 18)))),
 (q 2 (.mov (v 5)))] [2])
 .ret))
def f105 : VFn := ⟨1, 6, f105_c, [.t 2], true, []⟩
/- math/bits.Len64 -/
def f106_c : VCode :=
 (.seq (.reg false [(q 2 (.mov (ci 0)))] [0, 2])
 (.seq (.seq (.reg false [(q 3 (.mov (v 0))),
 (q 4 (.bin .geq (v 3) (.c (.int .u64 4294967296))))] [0, 2, 4])
 (.cond (v 4) (.seq (.reg false [(q 5 (.mov (v 0))),
 (q 6 (.bin .shr (v 5) (.c (.int .u64 32)))),
 (q 0 (.mov (v 6)))] [0])
 (.reg false [(q 2 (.mov (ci 32)))] [0, 2])) .skip))
 (.seq (.seq (.reg false [(q 7 (.mov (v 0))),
 (q 8 (.bin .geq (v 7) (.c (.int .u64 65536))))] [0, 2, 8])
 (.cond (v 8) (.seq (.reg false [(q 9 (.mov (v 0))),
 (q 10 (.bin .shr (v 9) (.c (.int .u64 16)))),
 (q 0 (.mov (v 10)))] [0, 2])
 (.reg false [(q 11 (.mov (v 2))),
 (q 12 (.bin .add (v 11) (ci 16))),
 (q 2 (.mov (v 12)))] [0, 2])) .skip))
 (.seq (.seq (.reg false [(q 13 (.mov (v 0))),
 (q 14 (.bin .geq (v 13) (.c (.int .u64 256))))] [0, 2, 14])
 (.cond (v 14) (.seq (.reg false [(q 15 (.mov (v 0))),
 (q 16 (.bin .shr (v 15) (.c (.int .u64 8)))),
 (q 0 (.mov (v 16)))] [0, 2])
 (.reg false [(q 17 (.mov (v 2))),
 (q 18 (.bin .add (v 17) (ci 8))),
 (q 2 (.mov (v 18)))] [0, 2])) .skip))
 (.seq (.reg false [(q 19 (.mov (v 2))),
 (q 20 (.mov (v 0))),
 (q 21 (.conv (.toInt .u8) (v 20))),
 (q 22 (.idxs (.c (.str ⟨#[0, 1, 2, 2, 3, 3, 3, 3, 4, 4, 4, 4, 4, 4, 4, 4, 5, 5, 5, 5, 5, 5, 5, 5, 5, 5, 5, 5, 5, 5, 5, 5, 6, 6, 6, 6, 6, 6, 6, 6, 6, 6, 6, 6, 6, 6, 6, 6, 6, 6, 6, 6, 6, 6, 6, 6, 6, 6, 6, 6, 6, 6, 6, 6, 7, 7, 7, 7, 7, 7, 7, 7, 7, 7, 7, 7, 7, 7, 7, 7, 7, 7, 7, 7, 7, 7, 7, 7, 7, 7, 7, 7, 7, 7, 7, 7, 7, 7, 7, 7, 7, 7, 7, 7, 7, 7, 7, 7, 7, 7, 7, 7, 7, 7, 7, 7, 7, 7, 7, 7, 7, 7, 7, 7, 7, 7, 7, 7, 8, 8, 8, 8, 8, 8, 8, 8, 8, 8, 8, 8, 8, 8, 8, 8, 8, 8, 8, 8, 8, 8, 8, 8, 8, 8, 8, 8, 8, 8, 8, 8, 8, 8, 8, 8, 8, 8, 8, 8, 8, 8, 8, 8, 8, 8, 8, 8, 8, 8, 8, 8, 8, 8, 8, 8, 8, 8, 8, 8, 8, 8, 8, 8, 8, 8, 8, 8, 8, 8, 8, 8, 8, 8, 8, 8, 8, 8, 8, 8, 8, 8, 8, 8, 8, 8, 8, 8, 8, 8, 8, 8, 8, 8, 8, 8, 8, 8, 8, 8, 8, 8, 8, 8, 8, 8, 8, 8, 8, 8, 8, 8, 8, 8, 8, 8, 8, 8, 8, 8, 8, 8, 8, 8, 8, 8, 8, 8]⟩)) (v 21))),
 (q 23 (.conv (.toInt .i64) (v 22))),
 (q 24 (.bin .add (v 19) (v 23))),
 (q 2 (.mov (v 24)))] [2])
 .ret)))))
def f106 : VFn := ⟨1, 25, f106_c, [.t 2], true, []⟩
/- internal/strconv.bool2[int] -/
/- internal/strconv.isPowerOfTwo -/
def f108_c : VCode :=
 (.seq (.reg false [(q 2 (.mov (.c (.bool false))))] [0])
 (.seq (.reg false [(q 3 (.mov (v 0))),
 (q 4 (.mov (v 0))),
 (q 5 (.bin .sub (v 4) (ci 1))),
 (q 6 (.bin .and (v 3) (v 5))),
 (q 7 (.bin .eql (v 6) (ci 0))),
 (q 2 (.mov (v 7)))] [2])
 .ret))
def f108 : VFn := ⟨1, 8, f108_c, [.t 2], true, []⟩
/- math/bits.TrailingZeros -/
def f109_c : VCode :=
 (.seq (.reg false [(q 2 (.mov (ci 0)))] [0])
 (.seq (.cond (.c (.bool false)) (.seq (.reg false [(q 3 (.mov (v 0))),
 (q 4 (.conv (.toInt .u32) (v 3))),
 (q 5 (.call (cf 111) [(v 4)])),
 (q 2 (.mov (v 5)))] [2])
 .ret) .skip)
 (.seq (.reg false [(q 6 (.mov (v 0))),
 (q 7 (.call (cf 112) [(v 6)])),
 (q 2 (.mov (v 7)))] [2])
 .ret)))
def f109 : VFn := ⟨1, 8, f109_c, [.t 2], true, []⟩
/- internal/stringslite.IndexByte -/
/- math/bits.TrailingZeros32 -/
def f111_c : VCode :=
 (.seq (.reg false [(q 2 (.mov (ci 0)))] [0])
 (.seq (.seq (.reg false [(q 3 (.mov (v 0))),
 (q 4 (.bin .eql (v 3) (.c (.int .u32 0))))] [0, 4])
 (.cond (v 4) (.seq (.reg false [(q 2 (.mov (ci 32)))] [2])
 .ret) .skip))
 (.seq .stuck
 .ret)))
def f111 : VFn := ⟨1, 14, f111_c, [.t 2], true, []⟩
/- math/bits.TrailingZeros64 -/
def f112_c : VCode :=
 (.seq (.reg false [(q 2 (.mov (ci 0)))] [0])
 (.seq (.seq (.reg false [(q 3 (.mov (v 0))),
 (q 4 (.bin .eql (v 3) (.c (.int .u64 0))))] [0, 4])
 (.cond (v 4) (.seq (.reg false [(q 2 (.mov (ci 64)))] [2])
 .ret) .skip))
 (.seq .stuck
 .ret)))
def f112 : VFn := ⟨1, 14, f112_c, [.t 2], true, []⟩
/- gosem.cut.vars -/
def tab : FuncId → Option VFn := fun f => match f with
 | 3 => some f3
 | 4 => some f4
 | 5 => some f5
 | 6 => some f6
 | 7 => some f7
 | 8 => some f8
 | 9 => some f9
 | 10 => some f10
 | 11 => some f11
 | 12 => some f12
 | 13 => some f13
 | 14 => some f14
 | 15 => some f15
 | 16 => some f16
 | 17 => some f17
 | 18 => some f18
 | 19 => some f19
 | 20 => some f20
 | 21 => some f21
 | 22 => some f22
 | 23 => some f23
 | 24 => some f24
 | 25 => some f25
 | 26 => some f26
 | 27 => some f27
 | 28 => some f28
 | 29 => some f29
 | 30 => some f30
 | 31 => some f31
 | 32 => some f32
 | 33 => some f33
 | 34 => some f34
 | 35 => some f35
 | 36 => some f36
 | 37 => some f37
 | 38 => some f38
 | 39 => some f39
 | 40 => some f40
 | 41 => some f41
 | 42 => some f42
 | 43 => some f43
 | 44 => some f44
 | 45 => some f45
 | 46 => some f46
 | 47 => some f47
 | 48 => some f48
 | 49 => some f49
 | 50 => some f50
 | 52 => some f52
 | 53 => some f53
 | 55 => some f55
 | 57 => some f57
 | 58 => some f58
 | 59 => some f59
 | 60 => some f60
 | 61 => some f61
 | 62 => some f62
 | 63 => some f63
 | 64 => some f64
 | 65 => some f65
 | 66 => some f66
 | 67 => some f67
 | 68 => some f68
 | 69 => some f69
 | 70 => some f70
 | 71 => some f71
 | 72 => some f72
 | 73 => some f73
 | 74 => some f74
 | 75 => some f75
 | 76 => some f76
 | 77 => some f77
 | 78 => some f78
 | 79 => some f79
 | 84 => some f84
 | 85 => some f85
 | 87 => some f87
 | 88 => some f88
 | 89 => some f89
 | 91 => some f91
 | 92 => some f92
 | 93 => some f93
 | 95 => some f95
 | 99 => some f99
 | 100 => some f100
 | 105 => some f105
 | 106 => some f106
 | 108 => some f108
 | 109 => some f109
 | 111 => some f111
 | 112 => some f112
 | _ => none
theorem f3_ok : lowAt Tryz.prog [] true [] 3 = some f3 := by kernel_rfl
theorem f4_ok : lowAt Tryz.prog [] true [] 4 = some f4 := by kernel_rfl
theorem f5_ok : lowAt Tryz.prog [] true [] 5 = some f5 := by kernel_rfl
theorem f6_ok : lowAt Tryz.prog [] true [] 6 = some f6 := by kernel_rfl
theorem f7_ok : lowAt Tryz.prog [] true [] 7 = some f7 := by kernel_rfl
theorem f8_ok : lowAt Tryz.prog [] true [] 8 = some f8 := by kernel_rfl
theorem f9_ok : lowAt Tryz.prog [] true [] 9 = some f9 := by kernel_rfl
theorem f10_ok : lowAt Tryz.prog [] true [] 10 = some f10 := by kernel_rfl
theorem f11_ok : lowAt Tryz.prog [] true [] 11 = some f11 := by kernel_rfl
theorem f12_ok : lowAt Tryz.prog [] true [] 12 = some f12 := by kernel_rfl
theorem f13_ok : lowAt Tryz.prog [] true [] 13 = some f13 := by kernel_rfl
theorem f14_ok : lowAt Tryz.prog [] true [] 14 = some f14 := by kernel_rfl
theorem f15_ok : lowAt Tryz.prog [] true [] 15 = some f15 := by kernel_rfl
theorem f16_ok : lowAt Tryz.prog [] true [] 16 = some f16 := by kernel_rfl
theorem f17_ok : lowAt Tryz.prog [] true [] 17 = some f17 := by kernel_rfl
theorem f18_ok : lowAt Tryz.prog [] true [] 18 = some f18 := by kernel_rfl
theorem f19_ok : lowAt Tryz.prog [] true [] 19 = some f19 := by kernel_rfl
theorem f20_ok : lowAt Tryz.prog [] true [] 20 = some f20 := by kernel_rfl
theorem f21_ok : lowAt Tryz.prog [] true [] 21 = some f21 := by kernel_rfl
theorem f22_ok : lowAt Tryz.prog [] true [] 22 = some f22 := by kernel_rfl
theorem f23_ok : lowAt Tryz.prog [] true [] 23 = some f23 := by kernel_rfl
theorem f24_ok : lowAt Tryz.prog [] true [] 24 = some f24 := by kernel_rfl
theorem f25_ok : lowAt Tryz.prog [] true [] 25 = some f25 := by kernel_rfl
theorem f26_ok : lowAt Tryz.prog [] true [] 26 = some f26 := by kernel_rfl
theorem f27_ok : lowAt Tryz.prog [] true [] 27 = some f27 := by kernel_rfl
theorem f28_ok : lowAt Tryz.prog [] true [] 28 = some f28 := by kernel_rfl
theorem f29_ok : lowAt Tryz.prog [] true [] 29 = some f29 := by kernel_rfl
theorem f30_ok : lowAt Tryz.prog [] true [] 30 = some f30 := by kernel_rfl
theorem f31_ok : lowAt Tryz.prog [] true [] 31 = some f31 := by kernel_rfl
theorem f32_ok : lowAt Tryz.prog [] true [] 32 = some f32 := by kernel_rfl
theorem f33_ok : lowAt Tryz.prog [] true [] 33 = some f33 := by kernel_rfl
theorem f34_ok : lowAt Tryz.prog [] true [] 34 = some f34 := by kernel_rfl
theorem f35_ok : lowAt Tryz.prog [] true [] 35 = some f35 := by kernel_rfl
theorem f36_ok : lowAt Tryz.prog [] true [] 36 = some f36 := by kernel_rfl
theorem f37_ok : lowAt Tryz.prog [] true [] 37 = some f37 := by kernel_rfl
theorem f38_ok : lowAt Tryz.prog [] true [] 38 = some f38 := by kernel_rfl
theorem f39_ok : lowAt Tryz.prog [] true [] 39 = some f39 := by kernel_rfl
theorem f40_ok : lowAt Tryz.prog [] true [] 40 = some f40 := by kernel_rfl
theorem f41_ok : lowAt Tryz.prog [] true [] 41 = some f41 := by kernel_rfl
theorem f42_ok : lowAt Tryz.prog [] true [] 42 = some f42 := by kernel_rfl
theorem f43_ok : lowAt Tryz.prog [] true [] 43 = some f43 := by kernel_rfl
theorem f44_ok : lowAt Tryz.prog [] true [] 44 = some f44 := by kernel_rfl
theorem f45_ok : lowAt Tryz.prog [] true [] 45 = some f45 := by kernel_rfl
theorem f46_ok : lowAt Tryz.prog [] true [] 46 = some f46 := by kernel_rfl
theorem f47_ok : lowAt Tryz.prog [] true [] 47 = some f47 := by kernel_rfl
theorem f48_ok : lowAt Tryz.prog [] true [] 48 = some f48 := by kernel_rfl
theorem f49_ok : lowAt Tryz.prog [] true [] 49 = some f49 := by kernel_rfl
theorem f50_ok : lowAt Tryz.prog [] true [] 50 = some f50 := by kernel_rfl
theorem f52_ok : lowAt Tryz.prog [] true [] 52 = some f52 := by kernel_rfl
theorem f53_ok : lowAt Tryz.prog [] true [] 53 = some f53 := by kernel_rfl
theorem f55_ok : lowAt Tryz.prog [] true [] 55 = some f55 := by kernel_rfl
theorem f57_ok : lowAt Tryz.prog [] true [] 57 = some f57 := by kernel_rfl
theorem f58_ok : lowAt Tryz.prog [] true [] 58 = some f58 := by kernel_rfl
theorem f59_ok : lowAt Tryz.prog [] true [] 59 = some f59 := by kernel_rfl
theorem f60_ok : lowAt Tryz.prog [] true [] 60 = some f60 := by kernel_rfl
theorem f61_ok : lowAt Tryz.prog [] true [] 61 = some f61 := by kernel_rfl
theorem f62_ok : lowAt Tryz.prog [] true [] 62 = some f62 := by kernel_rfl
theorem f63_ok : lowAt Tryz.prog [] true [] 63 = some f63 := by kernel_rfl
theorem f64_ok : lowAt Tryz.prog [] false [1] 64 = some f64 := by kernel_rfl
theorem f65_ok : lowAt Tryz.prog [] true [] 65 = some f65 := by kernel_rfl
theorem f66_ok : lowAt Tryz.prog [] true [] 66 = some f66 := by kernel_rfl
theorem f67_ok : lowAt Tryz.prog [] true [] 67 = some f67 := by kernel_rfl
theorem f68_ok : lowAt Tryz.prog [] true [] 68 = some f68 := by kernel_rfl
theorem f69_ok : lowAt Tryz.prog [] true [] 69 = some f69 := by kernel_rfl
theorem f70_ok : lowAt Tryz.prog [] false [0] 70 = some f70 := by kernel_rfl
theorem f71_ok : lowAt Tryz.prog [] true [] 71 = some f71 := by kernel_rfl
theorem f72_ok : lowAt Tryz.prog [] true [] 72 = some f72 := by kernel_rfl
theorem f73_ok : lowAt Tryz.prog [] true [] 73 = some f73 := by kernel_rfl
theorem f74_ok : lowAt Tryz.prog [] true [] 74 = some f74 := by kernel_rfl
theorem f75_ok : lowAt Tryz.prog [] true [] 75 = some f75 := by kernel_rfl
theorem f76_ok : lowAt Tryz.prog [] true [] 76 = some f76 := by kernel_rfl
theorem f77_ok : lowAt Tryz.prog [] true [] 77 = some f77 := by kernel_rfl
theorem f78_ok : lowAt Tryz.prog [] true [] 78 = some f78 := by kernel_rfl
theorem f79_ok : lowAt Tryz.prog [] true [] 79 = some f79 := by kernel_rfl
theorem f84_ok : lowAt Tryz.prog [] true [] 84 = some f84 := by kernel_rfl
theorem f85_ok : lowAt Tryz.prog [] true [] 85 = some f85 := by kernel_rfl
theorem f87_ok : lowAt Tryz.prog [] true [] 87 = some f87 := by kernel_rfl
theorem f88_ok : lowAt Tryz.prog [] false [0] 88 = some f88 := by kernel_rfl
theorem f89_ok : lowAt Tryz.prog [] true [] 89 = some f89 := by kernel_rfl
theorem f91_ok : lowAt Tryz.prog [] true [] 91 = some f91 := by kernel_rfl
theorem f92_ok : lowAt Tryz.prog [] true [] 92 = some f92 := by kernel_rfl
theorem f93_ok : lowAt Tryz.prog [] true [] 93 = some f93 := by kernel_rfl
theorem f95_ok : lowAt Tryz.prog [] true [] 95 = some f95 := by kernel_rfl
theorem f99_ok : lowAt Tryz.prog [] true [] 99 = some f99 := by kernel_rfl
theorem f100_ok : lowAt Tryz.prog [] true [] 100 = some f100 := by kernel_rfl
theorem f105_ok : lowAt Tryz.prog [] true [] 105 = some f105 := by kernel_rfl
theorem f106_ok : lowAt Tryz.prog [] true [] 106 = some f106 := by kernel_rfl
theorem f108_ok : lowAt Tryz.prog [] true [] 108 = some f108 := by kernel_rfl
theorem f109_ok : lowAt Tryz.prog [] true [] 109 = some f109 := by kernel_rfl
theorem f111_ok : lowAt Tryz.prog [] true [] 111 = some f111 := by kernel_rfl
theorem f112_ok : lowAt Tryz.prog [] true [] 112 = some f112 := by kernel_rfl
theorem tab_ok : TableOk Tryz.prog tab := by
 intro f vf h
 unfold tab at h
 split at h
 · cases h; exact lowAt_ok f3_ok
 · cases h; exact lowAt_ok f4_ok
 · cases h; exact lowAt_ok f5_ok
 · cases h; exact lowAt_ok f6_ok
 · cases h; exact lowAt_ok f7_ok
 · cases h; exact lowAt_ok f8_ok
 · cases h; exact lowAt_ok f9_ok
 · cases h; exact lowAt_ok f10_ok
 · cases h; exact lowAt_ok f11_ok
 · cases h; exact lowAt_ok f12_ok
 · cases h; exact lowAt_ok f13_ok
 · cases h; exact lowAt_ok f14_ok
 · cases h; exact lowAt_ok f15_ok
 · cases h; exact lowAt_ok f16_ok
 · cases h; exact lowAt_ok f17_ok
 · cases h; exact lowAt_ok f18_ok
 · cases h; exact lowAt_ok f19_ok
 · cases h; exact lowAt_ok f20_ok
 · cases h; exact lowAt_ok f21_ok
 · cases h; exact lowAt_ok f22_ok
 · cases h; exact lowAt_ok f23_ok
 · cases h; exact lowAt_ok f24_ok
 · cases h; exact lowAt_ok f25_ok
 · cases h; exact lowAt_ok f26_ok
 · cases h; exact lowAt_ok f27_ok
 · cases h; exact lowAt_ok f28_ok
 · cases h; exact lowAt_ok f29_ok
 · cases h; exact lowAt_ok f30_ok
 · cases h; exact lowAt_ok f31_ok
 · cases h; exact lowAt_ok f32_ok
 · cases h; exact lowAt_ok f33_ok
 · cases h; exact lowAt_ok f34_ok
 · cases h; exact lowAt_ok f35_ok
 · cases h; exact lowAt_ok f36_ok
 · cases h; exact lowAt_ok f37_ok
 · cases h; exact lowAt_ok f38_ok
 · cases h; exact lowAt_ok f39_ok
 · cases h; exact lowAt_ok f40_ok
 · cases h; exact lowAt_ok f41_ok
 · cases h; exact lowAt_ok f42_ok
 · cases h; exact lowAt_ok f43_ok
 · cases h; exact lowAt_ok f44_ok
 · cases h; exact lowAt_ok f45_ok
 · cases h; exact lowAt_ok f46_ok
 · cases h; exact lowAt_ok f47_ok
 · cases h; exact lowAt_ok f48_ok
 · cases h; exact lowAt_ok f49_ok
 · cases h; exact lowAt_ok f50_ok
 · cases h; exact lowAt_ok f52_ok
 · cases h; exact lowAt_ok f53_ok
 · cases h; exact lowAt_ok f55_ok
 · cases h; exact lowAt_ok f57_ok
 · cases h; exact lowAt_ok f58_ok
 · cases h; exact lowAt_ok f59_ok
 · cases h; exact lowAt_ok f60_ok
 · cases h; exact lowAt_ok f61_ok
 · cases h; exact lowAt_ok f62_ok
 · cases h; exact lowAt_ok f63_ok
 · cases h; exact lowAt_ok f64_ok
 · cases h; exact lowAt_ok f65_ok
 · cases h; exact lowAt_ok f66_ok
 · cases h; exact lowAt_ok f67_ok
 · cases h; exact lowAt_ok f68_ok
 · cases h; exact lowAt_ok f69_ok
 · cases h; exact lowAt_ok f70_ok
 · cases h; exact lowAt_ok f71_ok
 · cases h; exact lowAt_ok f72_ok
 · cases h; exact lowAt_ok f73_ok
 · cases h; exact lowAt_ok f74_ok
 · cases h; exact lowAt_ok f75_ok
 · cases h; exact lowAt_ok f76_ok
 · cases h; exact lowAt_ok f77_ok
 · cases h; exact lowAt_ok f78_ok
 · cases h; exact lowAt_ok f79_ok
 · cases h; exact lowAt_ok f84_ok
 · cases h; exact lowAt_ok f85_ok
 · cases h; exact lowAt_ok f87_ok
 · cases h; exact lowAt_ok f88_ok
 · cases h; exact lowAt_ok f89_ok
 · cases h; exact lowAt_ok f91_ok
 · cases h; exact lowAt_ok f92_ok
 · cases h; exact lowAt_ok f93_ok
 · cases h; exact lowAt_ok f95_ok
 · cases h; exact lowAt_ok f99_ok
 · cases h; exact lowAt_ok f100_ok
 · cases h; exact lowAt_ok f105_ok
 · cases h; exact lowAt_ok f106_ok
 · cases h; exact lowAt_ok f108_ok
 · cases h; exact lowAt_ok f109_ok
 · cases h; exact lowAt_ok f111_ok
 · cases h; exact lowAt_ok f112_ok
 · cases h
end Go.Proofs.YtkkekfehjbbhoaaGreatDoor.V
